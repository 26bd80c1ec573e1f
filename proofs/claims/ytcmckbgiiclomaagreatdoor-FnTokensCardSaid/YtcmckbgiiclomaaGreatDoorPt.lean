/- Numbers read, texts split at a sign, in plain Lean. -/
import Derived.Lib.AtoiAllCases
import Derived.Lib.AtoiTie
import Derived.Lib.Split
import Derived.Lib.ItoaMem
namespace Go.Proofs.YtcmckbgiiclomaaGreatDoor.V
set_option linter.unusedVariables false

/-! ### numbers -/
def isDig (c : UInt8) : Bool := decide (48 ≤ c.toNat ∧ c.toNat ≤ 57)
def dstep (acc : Nat) (c : UInt8) : Nat := 10 * acc + (c.toNat - 48)
def decV (acc : Nat) (l : List UInt8) : Nat := l.foldl dstep acc
theorem decV_nil (acc : Nat) : decV acc [] = acc := rfl
theorem decV_cons (acc : Nat) (c : UInt8) (r : List UInt8) : decV acc (c :: r) = decV (dstep acc c) r := by unfold decV; rw [List.foldl_cons]
theorem decV_app (acc : Nat) (a b : List UInt8) : decV acc (a ++ b) = decV (decV acc a) b := List.foldl_append
theorem decV_one (acc : Nat) (c : UInt8) : decV acc [c] = 10 * acc + (c.toNat - 48) := rfl
theorem decDig_all (n : Nat) : (Go.Lib.decDigits n).all isDig = true ∧ decV 0 (Go.Lib.decDigits n) = n := by
  induction n using Nat.strongRecOn with
  | _ n ih =>
    rw [Go.Lib.decDigits]
    split
    · rename_i h
      have e : (UInt8.ofNat (48 + n)).toNat = 48 + n := by rw [UInt8.toNat_ofNat']; omega
      rw [decV_one, e]
      refine ⟨?_, by omega⟩
      simp only [List.all_cons, List.all_nil, Bool.and_true, isDig, e]
      exact decide_eq_true (by omega)
    · rename_i h
      have h2 := ih (n / 10) (by omega)
      have e : (UInt8.ofNat (48 + n % 10)).toNat = 48 + n % 10 := by rw [UInt8.toNat_ofNat']; omega
      rw [List.all_append, h2.1, decV_app, h2.2, decV_one, e]
      refine ⟨?_, by omega⟩
      simp only [List.all_cons, List.all_nil, Bool.and_true, Bool.true_and, isDig, e]
      exact decide_eq_true (by omega)
theorem itoa_dig {n : Int} (h : 0 ≤ n) : (Go.Lib.itoa n).all isDig = true ∧ (decV 0 (Go.Lib.itoa n) : Int) = n := by
  have e : Go.Lib.itoa n = Go.Lib.decDigits n.toNat := by unfold Go.Lib.itoa; rw [if_neg (by omega)]
  rw [e]
  have := decDig_all n.toNat
  exact ⟨this.1, by rw [this.2]; omega⟩
theorem decV_lt : ∀ (l : List UInt8) (acc k : Nat), l.all isDig = true → acc < 10 ^ k → decV acc l < 10 ^ (k + l.length)
  | [], acc, k, _, ha => ha
  | c :: r, acc, k, h, ha => by
    simp only [List.all_cons, Bool.and_eq_true, isDig, decide_eq_true_eq] at h
    have := decV_lt r (dstep acc c) (k + 1) h.2 (by unfold dstep; rw [Nat.pow_succ]; omega)
    rw [decV_cons, List.length_cons, show k + (r.length + 1) = k + 1 + r.length by omega]
    exact this
theorem parse_dig : ∀ (l : List UInt8) (acc k : Nat), l.all isDig = true → acc < 10 ^ k → k + l.length ≤ 18 → Go.Lib.parseUint10 acc l = .ok (decV acc l)
  | [], acc, k, _, _, _ => rfl
  | c :: r, acc, k, h, ha, hk => by
    have h' := h
    simp only [List.all_cons, Bool.and_eq_true, isDig, decide_eq_true_eq] at h'
    have hp : 10 ^ k ≤ 10 ^ 17 := Nat.pow_le_pow_right (by decide) (by simp only [List.length_cons] at hk; omega)
    have h17 : (10 : Nat) ^ 17 = 100000000000000000 := by decide
    rw [Go.Lib.parseUint10, if_pos h'.1, if_neg (by omega), if_neg (by omega)]
    have e : acc * 10 + (c.toNat - 48) = dstep acc c := by unfold dstep; omega
    rw [e, decV_cons]
    exact parse_dig r (dstep acc c) (k + 1) h'.2 (by unfold dstep; rw [Nat.pow_succ]; omega) (by simp only [List.length_cons] at hk; omega)
/-- What a number's text says: as it would be written, six signs at most. -/
def number (s : List UInt8) : Int × Bool := if s.all isDig = true ∧ 1 ≤ s.length ∧ s.length ≤ 6 ∧ Go.Lib.itoa (decV 0 s) = s then ((decV 0 s : Int), true) else (0, false)
theorem number_no {s : List UInt8} (h : ¬ (s.all isDig = true ∧ 1 ≤ s.length ∧ s.length ≤ 6 ∧ Go.Lib.itoa (decV 0 s) = s)) : number s = (0, false) := by unfold number; rw [if_neg h]
theorem number_yes {s : List UInt8} (h : s.all isDig = true ∧ 1 ≤ s.length ∧ s.length ≤ 6 ∧ Go.Lib.itoa (decV 0 s) = s) : number s = ((decV 0 s : Int), true) := by unfold number; rw [if_pos h]
theorem number_range (s : List UInt8) : 0 ≤ (number s).1 ∧ (number s).1 ≤ 999999 := by
  unfold number
  split
  · rename_i h
    have := decV_lt s 0 0 h.1 (by decide)
    have h2 : 10 ^ (0 + s.length) ≤ 10 ^ 6 := Nat.pow_le_pow_right (by decide) (by omega)
    have h3 : (10 : Nat) ^ 6 = 1000000 := by decide
    dsimp only; omega
  · decide
/-- The number that a text writes. -/
theorem number_itoa {s : List UInt8} {n : Int} (h0 : 0 ≤ n ∧ n ≤ 999999) (h : Go.Lib.itoa n = s) (hl : 1 ≤ s.length ∧ s.length ≤ 6) : number s = (n, true) := by
  have h2 := itoa_dig h0.1
  rw [h] at h2
  rw [number_yes ⟨h2.1, hl.1, hl.2, by rw [h2.2]; exact h⟩, h2.2]
theorem itoa_len6 {n : Int} (h0 : 0 ≤ n ∧ n ≤ 999999) : 1 ≤ (Go.Lib.itoa n).length ∧ (Go.Lib.itoa n).length ≤ 6 := by
  have e : Go.Lib.itoa n = Go.Lib.decDigits n.toNat := by unfold Go.Lib.itoa; rw [if_neg (by omega)]
  have key : ∀ (k u : Nat), u < 10 ^ (k + 1) → 1 ≤ (Go.Lib.decDigits u).length ∧ (Go.Lib.decDigits u).length ≤ k + 1 := by
    intro k
    induction k with
    | zero =>
      intro u hu
      rw [Go.Lib.decDigits, dif_pos (by omega)]; simp
    | succ k ih =>
      intro u hu
      rw [Go.Lib.decDigits]
      split
      · simp
      · have := ih (u / 10) (by rw [Nat.pow_succ] at hu; omega)
        simp only [List.length_append, List.length_cons, List.length_nil]; omega
  rw [e]
  exact key 5 n.toNat (by have : (10 : Nat) ^ (5 + 1) = 1000000 := by decide
                          omega)
/-- How Atoi ends decides it. -/
theorem number_ok {s : List UInt8} {v : Int} (h : Go.Lib.atoiAll s = .ok v) : number s = if 0 ≤ v ∧ v ≤ 999999 ∧ Go.Lib.itoa v = s then (v, true) else (0, false) := by
  split
  · rename_i hc
    have h6 := itoa_len6 ⟨hc.1, hc.2.1⟩
    rw [hc.2.2] at h6
    exact number_itoa ⟨hc.1, hc.2.1⟩ hc.2.2 h6
  · rename_i hc
    refine number_no fun hn => hc ?_
    have h1 := parse_dig s 0 0 hn.1 (by decide) (by omega)
    have hr := number_range s
    rw [number_yes hn] at hr
    have e : Go.Lib.atoiAll s = .ok (decV 0 s : Int) := by
      cases s with
      | nil => simp at hn
      | cons c r =>
        have hc := hn.1
        simp only [List.all_cons, Bool.and_eq_true, isDig, decide_eq_true_eq] at hc
        rw [Go.Lib.atoiAll_plain c r (by omega) (by omega)]
        unfold Go.Lib.parseMag
        rw [if_neg (by simp), h1]
        show (if 9223372036854775808 ≤ decV 0 (c :: r) then Go.Lib.NumEnd.range else Go.Lib.NumEnd.ok ((decV 0 (c :: r) : Nat) : Int)) = _
        rw [if_neg (by dsimp only at hr; omega)]
    rw [e] at h
    injection h with h
    subst h
    exact ⟨hr.1, hr.2, hn.2.2.2⟩
theorem number_bad {s : List UInt8} (h : ∀ v, ¬ Go.Lib.atoiAll s = .ok v) : number s = (0, false) := by
  refine number_no fun hn => ?_
  have h1 := parse_dig s 0 0 hn.1 (by decide) (by omega)
  have hr := number_range s
  rw [number_yes hn] at hr
  refine h (decV 0 s : Int) ?_
  cases s with
  | nil => simp at hn
  | cons c r =>
    have hc := hn.1
    simp only [List.all_cons, Bool.and_eq_true, isDig, decide_eq_true_eq] at hc
    rw [Go.Lib.atoiAll_plain c r (by omega) (by omega)]
    unfold Go.Lib.parseMag
    rw [if_neg (by simp), h1]
    show (if 9223372036854775808 ≤ decV 0 (c :: r) then Go.Lib.NumEnd.range else Go.Lib.NumEnd.ok ((decV 0 (c :: r) : Nat) : Int)) = _
    rw [if_neg (by dsimp only at hr; omega)]

/-! ### texts split at points -/
def glue (p : List UInt8) : List (List UInt8) → List (List UInt8)
  | [] => [p]
  | a :: l => (p ++ a) :: l
def splitD : List UInt8 → List (List UInt8)
  | [] => [[]]
  | c :: l => if c = 46 then [] :: splitD l else glue [c] (splitD l)
theorem glue_nil {l : List (List UInt8)} (h : l ≠ []) : glue [] l = l := by
  cases l with
  | nil => exact absurd rfl h
  | cons a l => rfl
theorem glue_glue (p q : List UInt8) (l : List (List UInt8)) : glue p (glue q l) = glue (p ++ q) l := by
  cases l with
  | nil => rfl
  | cons a l => simp [glue]
theorem splitD_ne (s : List UInt8) : splitD s ≠ [] := by
  cases s with
  | nil => simp [splitD]
  | cons c l =>
    simp only [splitD]
    split
    · simp
    · cases splitD l <;> simp [glue]
theorem splitD_len (s : List UInt8) : (splitD s).length ≤ s.length + 1 := by
  induction s with
  | nil => simp [splitD]
  | cons c l ih =>
    simp only [splitD, List.length_cons]
    split
    · simp only [List.length_cons]; omega
    · cases h : splitD l with
      | nil => simp [glue]
      | cons a t => rw [h] at ih; simp only [glue, List.length_cons] at ih ⊢; omega
theorem splitD_free : ∀ (p : List UInt8), (∀ c ∈ p, ¬ c = 46) → ∀ s, splitD (p ++ s) = glue p (splitD s)
  | [], _, s => (glue_nil (splitD_ne s)).symm
  | c :: p, h, s => by
    rw [List.cons_append, splitD, if_neg (h c (List.mem_cons_self ..)), splitD_free p (fun x hx => h x (List.mem_cons_of_mem _ hx)), glue_glue]; rfl
theorem splitD_dot (p s : List UInt8) (h : ∀ c ∈ p, ¬ c = 46) : splitD (p ++ 46 :: s) = p :: splitD s := by
  rw [splitD_free p h, splitD, if_pos rfl]; simp [glue]
theorem splitD_end (p : List UInt8) (h : ∀ c ∈ p, ¬ c = 46) : splitD p = [p] := by
  have := splitD_free p h []
  rw [List.append_nil] at this
  rw [this]; simp [splitD, glue]
theorem splitD_mem {s : List UInt8} : ∀ x ∈ splitD s, x.length ≤ s.length := by
  induction s with
  | nil => simp [splitD]
  | cons c l ih =>
    intro x hx
    simp only [splitD] at hx
    split at hx
    · rcases List.mem_cons.1 hx with rfl | hx
      · simp
      · have := ih x hx; simp only [List.length_cons]; omega
    · cases h : splitD l with
      | nil => exact absurd h (splitD_ne l)
      | cons a t =>
        rw [h] at hx ih
        simp only [glue, List.cons_append, List.nil_append] at hx
        rcases List.mem_cons.1 hx with rfl | hx
        · have := ih a (List.mem_cons_self ..); simp only [List.length_cons]; omega
        · have := ih x (List.mem_cons_of_mem _ hx); simp only [List.length_cons]; omega
theorem occ_one {s : List UInt8} {c : UInt8} {i : Nat} : Go.Lib.occAt s [c] i = true ↔ s[i]? = some c := by
  unfold Go.Lib.occAt
  by_cases h : i < s.length
  · rw [List.drop_eq_getElem_cons h, List.getElem?_eq_getElem h]
    simp only [List.isPrefixOf, Bool.and_true, beq_iff_eq, Option.some.injEq]
    exact eq_comm
  · rw [List.drop_eq_nil_of_le (by omega), List.getElem?_eq_none (by omega)]
    simp [List.isPrefixOf]
theorem split_eq (k : Nat) : ∀ s : List UInt8, Go.Lib.count s [46] = k → Go.Lib.splitK [46] 0 k s = splitD s := by
  induction k with
  | zero =>
    intro s hs
    rcases Go.Lib.index_spec s [46] with ⟨h, hn⟩ | ⟨i, h, hi, ho, hno⟩
    · rw [Go.Lib.splitK, splitD_end s]
      intro c hc e
      obtain ⟨j, hj, rfl⟩ := List.getElem_of_mem hc
      have := hn j (by omega)
      rw [Bool.eq_false_iff] at this
      exact this (occ_one.2 (by rw [List.getElem?_eq_getElem hj, e]))
    · rw [Go.Lib.count_hit (by simp) h] at hs; omega
  | succ k ih =>
    intro s hs
    rcases Go.Lib.index_spec s [46] with ⟨h, hn⟩ | ⟨i, h, hi, ho, hno⟩
    · rw [Go.Lib.count_miss h] at hs; omega
    · rw [Go.Lib.count_hit (by simp) h] at hs
      have h46 := occ_one.1 ho
      obtain ⟨hil, he⟩ := List.getElem?_eq_some_iff.1 h46
      unfold Go.Lib.splitK
      rw [if_neg (by rw [h]; simp), h]
      have e : s = s.take i ++ 46 :: s.drop (i + 1) := by
        conv => lhs; rw [← List.take_append_drop i s]
        rw [List.drop_eq_getElem_cons hil, he]
      have e2 : (i : Int).toNat = i := rfl
      rw [e2, ih (s.drop (i + [46].length)) (by omega)]
      conv => rhs; rw [e]
      rw [splitD_dot _ _ ?_]
      · rfl
      · intro c hc e3
        obtain ⟨j, hj, rfl⟩ := List.getElem_of_mem hc
        rw [List.length_take] at hj
        rw [List.getElem_take] at e3
        have := hno j (by omega)
        rw [Bool.eq_false_iff] at this
        exact this (occ_one.2 (by rw [List.getElem?_eq_getElem (by omega), e3]))
/-- The library's cut at points. -/
theorem splitB_points (s : List UInt8) : (Go.Lib.splitB ⟨#[46]⟩ 0 (Go.Lib.countB ⟨s.toArray⟩ ⟨#[46]⟩) ⟨s.toArray⟩).map (·.data.toList) = splitD s := by
  rw [Go.Lib.splitB_data]
  exact split_eq _ s rfl
end Go.Proofs.YtcmckbgiiclomaaGreatDoor.V
