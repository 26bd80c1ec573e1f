/- What signs of six bits are read as, in plain Lean. Signs of six bits are read back, in plain Lean. -/
import Derived.Test.YtcmckbgiiclomaaGreatDoorPa
import Derived.Lib.Bytealg
namespace Go.Proofs.YtcmckbgiiclomaaGreatDoor.V
set_option linter.unusedVariables false

def six (c : UInt8) : Int := Go.Lib.indexByte signs64 c
def sixR (c : UInt8) : Int :=
  if 65 ≤ c.toNat ∧ c.toNat ≤ 90 then (c.toNat : Int) - 65 else if 97 ≤ c.toNat ∧ c.toNat ≤ 122 then (c.toNat : Int) - 71
  else if 48 ≤ c.toNat ∧ c.toNat ≤ 57 then (c.toNat : Int) + 4 else if c.toNat = 45 then 62 else if c.toNat = 95 then 63 else -1
theorem six_eq (c : UInt8) : six c = sixR c := by
  have key : ∀ n : Fin 256, six (UInt8.ofNat n.val) = sixR (UInt8.ofNat n.val) := by decide +kernel
  have h := key ⟨c.toNat, c.toNat_lt⟩
  have e : UInt8.ofNat c.toNat = c := by simp
  simp only [e] at h
  exact h
theorem six_range (c : UInt8) : -1 ≤ six c ∧ six c ≤ 63 := by
  rw [six_eq]; unfold sixR
  have := c.toNat_lt
  split <;> (try split) <;> (try split) <;> (try split) <;> (try split) <;> omega

structure Ux where
  held : Nat
  bits : Nat
  out : List UInt8
def Ux.step (s : Ux) (x : Nat) : Ux :=
  if 2 ≤ s.bits then ⟨s.held % 64 * 64 + x, s.bits - 2, s.out ++ [UInt8.ofNat ((s.held % 64 * 64 + x) / 2 ^ (s.bits - 2) % 256)]⟩ else ⟨s.held % 64 * 64 + x, s.bits + 6, s.out⟩
def uxAll (l : List UInt8) : Ux := l.foldl (fun s c => s.step (six c).toNat) ⟨0, 0, []⟩
def unOk (l : List UInt8) : Bool := decide ((∀ c ∈ l, 0 ≤ six c) ∧ sixes (uxAll l).out = l)
def unOut (l : List UInt8) : List UInt8 := if unOk l = true then (uxAll l).out else []
theorem unOk_bad {l : List UInt8} {i : Nat} (hi : i < l.length) (h : six l[i] < 0) : unOk l = false ∧ unOut l = [] := by
  have h1 : unOk l = false := decide_eq_false fun hh => by have := hh.1 _ (List.getElem_mem hi); omega
  exact ⟨h1, by simp [unOut, h1]⟩
theorem unOk_ne {l : List UInt8} (h : ¬ sixes (uxAll l).out = l) : unOk l = false ∧ unOut l = [] := by
  have h1 : unOk l = false := decide_eq_false fun hh => h hh.2
  exact ⟨h1, by simp [unOut, h1]⟩
theorem unOk_good {l : List UInt8} (h0 : ∀ i (hi : i < l.length), 0 ≤ six l[i]) (h : sixes (uxAll l).out = l) : unOk l = true ∧ unOut l = (uxAll l).out := by
  have h1 : unOk l = true := decide_eq_true ⟨fun c hc => by obtain ⟨i, hi, rfl⟩ := List.getElem_of_mem hc; exact h0 i hi, h⟩
  exact ⟨h1, by simp [unOut, h1]⟩
theorem uxAll_succ {l : List UInt8} {k : Nat} (h : k < l.length) : uxAll (l.take (k + 1)) = (uxAll (l.take k)).step (six l[k]).toNat := by
  unfold uxAll
  rw [List.take_add_one, List.getElem?_eq_getElem h, List.foldl_append]; rfl
theorem uxAll_inv (l : List UInt8) : (uxAll l).bits % 2 = 0 ∧ (uxAll l).bits ≤ 6 ∧ (uxAll l).held < 4096 ∧ (uxAll l).out.length ≤ l.length := by
  have key : ∀ (l : List UInt8) (s : Ux), s.bits % 2 = 0 → s.bits ≤ 6 → s.held < 4096 → (l.foldl (fun s c => s.step (six c).toNat) s).bits % 2 = 0 ∧ (l.foldl (fun s c => s.step (six c).toNat) s).bits ≤ 6 ∧ (l.foldl (fun s c => s.step (six c).toNat) s).held < 4096 ∧ (l.foldl (fun s c => s.step (six c).toNat) s).out.length ≤ s.out.length + l.length := by
    intro l
    induction l with
    | nil => intro s h1 h2 h3; exact ⟨h1, h2, h3, by simp⟩
    | cons b l ih =>
      intro s h1 h2 h3
      have hr := six_range b
      have hx : (six b).toNat < 64 := by omega
      simp only [List.foldl_cons]
      generalize (six b).toNat = x at hx
      have h4 : (s.step x).bits % 2 = 0 ∧ (s.step x).bits ≤ 6 ∧ (s.step x).held < 4096 ∧ (s.step x).out.length ≤ s.out.length + 1 := by
        unfold Ux.step
        split <;> refine ⟨?_, ?_, ?_, ?_⟩ <;> simp <;> omega
      obtain ⟨h5, h6, h7, h8⟩ := ih _ h4.1 h4.2.1 h4.2.2.1
      exact ⟨h5, h6, h7, by simp only [List.length_cons]; omega⟩
  have := key l ⟨0, 0, []⟩ rfl (by simp) (by simp)
  simpa [uxAll] using this
theorem unOut_len (l : List UInt8) : (unOut l).length ≤ l.length := by
  unfold unOut
  split
  · exact (uxAll_inv l).2.2.2
  · simp
/-- The other reckoning: what is held, cut to its bits. -/
theorem ux_cut {h b x : Nat} (h2 : 2 ≤ b) (he : b % 2 = 0) (h6 : b ≤ 6) (hx : x < 64) :
    (h % 2 ^ b * 64 + x) / 2 ^ (b - 2) % 256 = (h % 64 * 64 + x) / 2 ^ (b - 2) % 256 ∧ (h % 2 ^ b * 64 + x) % 2 ^ (b - 2) = (h % 64 * 64 + x) % 2 ^ (b - 2) := by
  have : b = 2 ∨ b = 4 ∨ b = 6 := by omega
  rcases this with rfl | rfl | rfl
  · constructor
    · simp only [Nat.reduceSub, Nat.reducePow] <;> omega
    · simp only [Nat.reduceSub, Nat.reducePow] <;> omega
  · constructor
    · simp only [Nat.reduceSub, Nat.reducePow] <;> omega
    · simp only [Nat.reduceSub, Nat.reducePow] <;> omega
  · constructor
    · simp only [Nat.reduceSub, Nat.reducePow] <;> omega
    · simp only [Nat.reduceSub, Nat.reducePow] <;> omega
theorem ux_cut0 {h b x : Nat} (h2 : ¬ 2 ≤ b) (he : b % 2 = 0) (hx : x < 64) : h % 2 ^ b * 64 + x = (h % 64 * 64 + x) % 2 ^ (b + 6) := by
  have : b = 0 := by omega
  subst this
  simp only [Nat.reduceAdd, Nat.reducePow]; omega

theorem six_sign {i : Nat} (h : i < 64) : (six (sign i)).toNat = i ∧ 0 ≤ six (sign i) := by
  have key : ∀ n : Fin 64, (six (sign n.val)).toNat = n.val ∧ 0 ≤ six (sign n.val) := by decide +kernel
  exact key ⟨i, h⟩
def uxOn (u : Ux) (l : List UInt8) : Ux := l.foldl (fun s c => s.step (six c).toNat) u
theorem uxAll_on (l : List UInt8) : uxAll l = uxOn ⟨0, 0, []⟩ l := rfl
theorem uxOn_sign (u : Ux) (l : List UInt8) {x : Nat} (h : x < 64) : uxOn u (l ++ [sign x]) = (uxOn u l).step x := by
  unfold uxOn
  rw [List.foldl_append]
  simp only [List.foldl_cons, List.foldl_nil, (six_sign h).1]
theorem Ux.step_lo {h b x : Nat} {o : List UInt8} (hb : ¬ 2 ≤ b) : Ux.step ⟨h, b, o⟩ x = ⟨h % 64 * 64 + x, b + 6, o⟩ := by unfold Ux.step; rw [if_neg hb]
theorem Ux.step_hi {h b x : Nat} {o : List UInt8} (hb : 2 ≤ b) : Ux.step ⟨h, b, o⟩ x = ⟨h % 64 * 64 + x, b - 2, o ++ [UInt8.ofNat ((h % 64 * 64 + x) / 2 ^ (b - 2) % 256)]⟩ := by unfold Ux.step; rw [if_pos hb]
/-- What the reading holds where the signs so far hold s. -/
def Bk (s : Sx) (u : Ux) (a : List UInt8) : Prop :=
  (s.bits = 0 ∧ u.bits = 0 ∧ u.out = a) ∨
  (∃ a' b, a = a' ++ [b] ∧ s.bits = 2 ∧ u.bits = 6 ∧ u.out = a' ∧ u.held % 64 = b.toNat / 4 ∧ s.held % 4 = b.toNat % 4) ∨
  (∃ a' b, a = a' ++ [b] ∧ s.bits = 4 ∧ u.bits = 4 ∧ u.out = a' ∧ u.held % 16 = b.toNat / 16 ∧ s.held % 16 = b.toNat % 16)
theorem ofNat_eq {n : Nat} {b : UInt8} (h : n = b.toNat) : UInt8.ofNat n = b := by subst h; simp
theorem bk_step {s : Sx} {a : List UInt8} (c : UInt8) (h : Bk s (uxAll s.out) a) : Bk (s.step c) (uxAll (s.step c).out) (a ++ [c]) := by
  obtain ⟨held, bits, out⟩ := s
  have hc := c.toNat_lt
  simp only [Bk] at h
  unfold Sx.step
  rcases h with ⟨h1, h2, h3⟩ | ⟨a', b, rfl, h1, h2, h3, h4, h5⟩ | ⟨a', b, rfl, h1, h2, h3, h4, h5⟩
  · subst h1
    have e : Sx.put 3 (Sx.take ⟨held, 0, out⟩ c) = ⟨held % 64 * 256 + c.toNat, 2, out ++ [sign ((held % 64 * 256 + c.toNat) / 4 % 64)]⟩ := by
      rw [Sx.put_high (by simp [Sx.take]), Sx.put_low (by simp [Sx.take, Sx.one])]; rfl
    rw [e]
    dsimp only
    rw [uxAll_on, uxOn_sign _ _ (Nat.mod_lt _ (by decide)), ← uxAll_on]
    right; left
    generalize uxAll out = u at *
    obtain ⟨uh, ub, uo⟩ := u
    dsimp only at h2 h3
    subst h2 h3
    rw [Ux.step_lo (by decide)]
    refine ⟨uo, c, rfl, rfl, rfl, rfl, ?_, ?_⟩ <;> dsimp only <;> omega
  · subst h1
    have e : Sx.put 3 (Sx.take ⟨held, 2, out⟩ c) = ⟨held % 64 * 256 + c.toNat, 4, out ++ [sign ((held % 64 * 256 + c.toNat) / 16 % 64)]⟩ := by
      rw [Sx.put_high (by simp [Sx.take]), Sx.put_low (by simp [Sx.take, Sx.one])]; rfl
    rw [e]
    dsimp only
    have hb := b.toNat_lt
    rw [uxAll_on, uxOn_sign _ _ (Nat.mod_lt _ (by decide)), ← uxAll_on]
    right; right
    generalize uxAll out = u at *
    obtain ⟨uh, ub, uo⟩ := u
    dsimp only at h2 h3 h4
    subst h2 h3
    have hx : (held % 64 * 256 + c.toNat) / 16 % 64 = b.toNat % 4 * 16 + c.toNat / 16 := by omega
    rw [hx]
    rw [Ux.step_hi (by decide)]
    refine ⟨uo ++ [b], c, rfl, rfl, rfl, ?_, ?_, ?_⟩
    · simp only [Nat.reduceSub, Nat.reducePow]
      rw [ofNat_eq (b := b) (by omega)]
    · dsimp only; omega
    · show (held % 64 * 256 + c.toNat) % 16 = c.toNat % 16; omega
  · subst h1
    have e : Sx.put 3 (Sx.take ⟨held, 4, out⟩ c) = ⟨held % 64 * 256 + c.toNat, 0, out ++ [sign ((held % 64 * 256 + c.toNat) / 64 % 64)] ++ [sign ((held % 64 * 256 + c.toNat) / 1 % 64)]⟩ := by
      rw [Sx.put_high (by simp [Sx.take]), Sx.put_high (by simp [Sx.take, Sx.one]), Sx.put_low (by simp [Sx.take, Sx.one])]; rfl
    rw [e]
    dsimp only
    have hb := b.toNat_lt
    rw [uxAll_on, uxOn_sign _ _ (Nat.mod_lt _ (by decide)), uxOn_sign _ _ (Nat.mod_lt _ (by decide)), ← uxAll_on]
    left
    generalize uxAll out = u at *
    obtain ⟨uh, ub, uo⟩ := u
    dsimp only at h2 h3 h4
    subst h2 h3
    have hx : (held % 64 * 256 + c.toNat) / 64 % 64 = b.toNat % 16 * 4 + c.toNat / 64 := by omega
    have hy : (held % 64 * 256 + c.toNat) / 1 % 64 = c.toNat % 64 := by omega
    rw [hx, hy]
    have e1 : Ux.step ⟨uh, 4, uo⟩ (b.toNat % 16 * 4 + c.toNat / 64) = ⟨uh % 64 * 64 + (b.toNat % 16 * 4 + c.toNat / 64), 2, uo ++ [b]⟩ := by
      rw [Ux.step_hi (by decide)]
      simp only [Nat.reduceSub, Nat.reducePow]
      rw [ofNat_eq (b := b) (by omega)]
    rw [e1, Ux.step_hi (by decide)]
    refine ⟨rfl, rfl, ?_⟩
    simp only [Nat.reduceSub, Nat.reducePow]
    rw [ofNat_eq (b := c) (by omega)]
theorem bk_all (a : List UInt8) : Bk (sxAll a) (uxAll (sxAll a).out) a := by
  have key : ∀ (l pre : List UInt8) (s : Sx), Bk s (uxAll s.out) pre → Bk (l.foldl Sx.step s) (uxAll (l.foldl Sx.step s).out) (pre ++ l) := by
    intro l
    induction l with
    | nil => intro pre s h; simpa using h
    | cons c l ih =>
      intro pre s h
      have := ih (pre ++ [c]) (s.step c) (bk_step c h)
      simpa using this
  have := key a [] ⟨0, 0, []⟩ (.inl ⟨rfl, rfl, rfl⟩)
  simpa [sxAll] using this
theorem sixes_back (a : List UInt8) : (uxAll (sixes a)).out = a := by
  have h := bk_all a
  unfold sixes Sx.done
  generalize sxAll a = s at *
  obtain ⟨held, bits, out⟩ := s
  simp only [Bk] at h
  rcases h with ⟨h1, h2, h3⟩ | ⟨a', b, rfl, h1, h2, h3, h4, h5⟩ | ⟨a', b, rfl, h1, h2, h3, h4, h5⟩
  · subst h1; simpa using h3
  · subst h1
    have hb := b.toNat_lt
    rw [if_pos (show _ < _ from by dsimp only; omega)]
    rw [uxAll_on, uxOn_sign _ _ (Nat.mod_lt _ (by decide)), ← uxAll_on]
    generalize uxAll out = u at *
    obtain ⟨uh, ub, uo⟩ := u
    dsimp only at h2 h3 h4
    subst h2 h3
    rw [Ux.step_hi (by decide)]
    simp only [Nat.reduceSub, Nat.reducePow]
    rw [ofNat_eq (b := b) (by omega)]
  · subst h1
    have hb := b.toNat_lt
    rw [if_pos (show _ < _ from by dsimp only; omega)]
    rw [uxAll_on, uxOn_sign _ _ (Nat.mod_lt _ (by decide)), ← uxAll_on]
    generalize uxAll out = u at *
    obtain ⟨uh, ub, uo⟩ := u
    dsimp only at h2 h3 h4
    subst h2 h3
    rw [Ux.step_hi (by decide)]
    simp only [Nat.reduceSub, Nat.reducePow]
    rw [ofNat_eq (b := b) (by omega)]
theorem sixes_sign (a : List UInt8) : ∀ c ∈ sixes a, 0 ≤ six c := by
  have hone : ∀ s : Sx, (∀ c ∈ s.out, 0 ≤ six c) → ∀ c ∈ s.one.out, 0 ≤ six c := fun s h c hc => by
    simp only [Sx.one, List.mem_append, List.mem_singleton] at hc
    rcases hc with hc | rfl
    · exact h c hc
    · exact (six_sign (Nat.mod_lt _ (by decide))).2
  have hput : ∀ (n : Nat) (s : Sx), (∀ c ∈ s.out, 0 ≤ six c) → ∀ c ∈ (Sx.put n s).out, 0 ≤ six c := by
    intro n
    induction n with
    | zero => intro s h; exact h
    | succ n ih =>
      intro s h
      unfold Sx.put
      split
      · exact ih _ (hone s h)
      · exact h
  have hall : ∀ (l : List UInt8) (s : Sx), (∀ c ∈ s.out, 0 ≤ six c) → ∀ c ∈ (l.foldl Sx.step s).out, 0 ≤ six c := by
    intro l
    induction l with
    | nil => intro s h; exact h
    | cons b l ih => intro s h; exact ih _ (hput 3 _ h)
  have h := hall a ⟨0, 0, []⟩ (by simp)
  intro c hc
  unfold sixes Sx.done at hc
  split at hc
  · rcases List.mem_append.1 hc with hc | hc
    · exact h c hc
    · rw [List.mem_singleton.1 hc]; exact (six_sign (Nat.mod_lt _ (by decide))).2
  · exact h c hc
theorem un_sixes (a : List UInt8) : unOk (sixes a) = true ∧ unOut (sixes a) = a := by
  have h := unOk_good (l := sixes a) (fun i hi => sixes_sign a _ (List.getElem_mem hi)) (by rw [sixes_back])
  rw [sixes_back] at h
  exact h
theorem sixes_six (a : List UInt8) : (sixes a).length = (8 * a.length + 5) / 6 := by
  have := sxAll_bits a
  unfold sixes Sx.done
  split
  · simp only [List.length_append, List.length_cons, List.length_nil]; omega
  · omega
theorem un_six {l : List UInt8} (h : unOk l = true) : sixes (unOut l) = l := by
  have h1 := of_decide_eq_true h
  unfold unOut
  rw [if_pos h]
  exact h1.2
end Go.Proofs.YtcmckbgiiclomaaGreatDoor.V
