/- Keys that were caught, in plain Lean: what is answered stays right, and is answered once. Keys asked for in any order, in plain Lean. -/
import Derived.Test.YtagljofpmjaciaaWmg
namespace Go.Proofs.Ytagljofpmjaciaa.V
set_option linter.unusedVariables false

def itC : Nat → MChain → MChain
  | 0, c => c
  | k + 1, c => itC k (chainNextC c)
def ckL : Nat → MChain → List MKept
  | 0, _ => []
  | k + 1, c => ⟨c.f_N, chainNextK c⟩ :: ckL k (chainNextC c)
theorem ckGo_eq : ∀ (k : Nat) (x : MCatch), ckGo k x = (⟨itC (k + 1) x.f_Chain, x.f_List ++ ckL k x.f_Chain⟩, chainNextK (itC k x.f_Chain), true)
  | 0, x => by simp [ckGo, itC, ckL]
  | k + 1, x => by
    rw [ckGo, ckGo_eq k]
    simp [itC, ckL]
theorem itC_succ : ∀ (k : Nat) (c : MChain), itC (k + 1) c = chainNextC (itC k c)
  | 0, c => rfl
  | k + 1, c => by rw [itC, itC_succ k]; rfl
theorem itC_ok : ∀ (k : Nat) (c : MChain), chainOk c = true → c.f_N + k ≤ 1000 → chainOk (itC k c) = true ∧ (itC k c).f_N = c.f_N + k
  | 0, c, h, _ => ⟨h, by show c.f_N = _; omega⟩
  | k + 1, c, h, hk => by
    have h1 := chainOk_next (chainGo_of h (by omega))
    have := itC_ok k (chainNextC c) h1.1 (by rw [h1.2.1]; omega)
    exact ⟨this.1, by rw [itC, this.2, h1.2.1]; omega⟩
theorem nextK_len {c : MChain} (h : chainGo c = true) : (chainNextK c).length = 32 := by
  have h1 := chainOk_iff.1 (by unfold chainGo at h; simp only [Bool.and_eq_true] at h; exact h.1)
  unfold chainNextK
  rw [if_pos h]
  exact mac_len32 (by simp) (by omega)
theorem ckL_len : ∀ (k : Nat) (c : MChain), (ckL k c).length = k
  | 0, _ => rfl
  | k + 1, c => by rw [ckL, List.length_cons, ckL_len k]
theorem ckL_at : ∀ (k : Nat) (c : MChain) (j : Nat) (hj : j < (ckL k c).length), chainOk c = true → c.f_N + k ≤ 1000 → (ckL k c)[j] = ⟨c.f_N + j, chainNextK (itC j c)⟩
  | 0, c, j, hj, _, _ => absurd hj (by simp [ckL])
  | k + 1, c, 0, hj, _, _ => by simp [ckL, itC]
  | k + 1, c, j + 1, hj, h, hk => by
    have h1 := chainOk_next (chainGo_of h (by omega))
    have hj' : j < (ckL k (chainNextC c)).length := by rw [ckL_len]; rw [ckL_len] at hj; omega
    have := ckL_at k (chainNextC c) j hj' h1.1 (by rw [h1.2.1]; omega)
    simp only [ckL, List.getElem_cons_succ]
    rw [this, h1.2.1]
    simp only [itC]
    congr 1
    omega

/-- The numbers of a right catch grow. -/
theorem kept_mono {c : Int} {l : List MKept} (h : ∀ i (hi : i < l.length), keptP c l i hi) : ∀ (b a : Nat) (ha : a < b) (hb : b < l.length), (l[a]'(by omega)).f_N < l[b].f_N
  | 0, a, ha, _ => absurd ha (by omega)
  | b + 1, a, ha, hb => by
    have h1 := (h (b + 1) hb).2.2 (by omega)
    have h1 : l[b].f_N < l[b + 1].f_N := h1
    by_cases e : a = b
    · subst e; exact h1
    · have := kept_mono h b a (by omega) (by omega); omega
theorem catchOk_del {x : MCatch} {i : Nat} (h : catchOk x = true) (hi : i < x.f_List.length) : catchOk ⟨x.f_Chain, x.f_List.eraseIdx i⟩ = true := by
  obtain ⟨p1, p2, p3⟩ := catchOk_p h
  have hm := kept_mono p3
  have hl : (x.f_List.eraseIdx i).length = x.f_List.length - 1 := by rw [List.length_eraseIdx, if_pos hi]
  have hat : ∀ j (hj : j < (x.f_List.eraseIdx i).length), ∃ j', ∃ hj' : j' < x.f_List.length, (x.f_List.eraseIdx i)[j] = x.f_List[j'] ∧ j' = (if j < i then j else j + 1) := fun j hj => by
    rw [List.getElem_eraseIdx]
    by_cases q : j < i
    · exact ⟨j, by omega, by rw [dif_pos q], by rw [if_pos q]⟩
    · exact ⟨j + 1, by omega, by rw [dif_neg q], by rw [if_neg q]⟩
  refine catchOk_true ⟨p1, by show (x.f_List.eraseIdx i).length ≤ 5; omega, fun j hj => ?_⟩
  have hj : j < (x.f_List.eraseIdx i).length := hj
  obtain ⟨j', hj', e, ej⟩ := hat j hj
  have p := p3 j' hj'
  refine ⟨?_, ?_, fun h0 => ?_⟩
  · show 0 ≤ (x.f_List.eraseIdx i)[j].f_N ∧ (x.f_List.eraseIdx i)[j].f_N ≤ x.f_Chain.f_N - 1
    rw [e]; exact p.1
  · show (x.f_List.eraseIdx i)[j].f_Key.length = 32
    rw [e]; exact p.2.1
  · obtain ⟨k', hk', e2, ek⟩ := hat (j - 1) (by omega)
    show ((x.f_List.eraseIdx i)[j - 1]'(by omega)).f_N < (x.f_List.eraseIdx i)[j].f_N
    rw [e, e2]
    refine hm j' k' ?_ hj'
    rw [ej, ek]
    split <;> split <;> omega
theorem catchOk_go {x : MCatch} {d : Nat} (h : catchOk x = true) (h1 : x.f_Chain.f_N + d < 1000) (h2 : x.f_List.length + d ≤ 5) : catchOk ⟨itC (d + 1) x.f_Chain, x.f_List ++ ckL d x.f_Chain⟩ = true := by
  obtain ⟨p1, p2, p3⟩ := catchOk_p h
  obtain ⟨o1, o2, o3⟩ := chainOk_iff.1 p1
  obtain ⟨r1, r2⟩ := itC_ok (d + 1) x.f_Chain p1 (by omega)
  have hL := ckL_len d x.f_Chain
  refine catchOk_true ⟨r1, by show (x.f_List ++ ckL d x.f_Chain).length ≤ 5; rw [List.length_append]; omega, fun j hj => ?_⟩
  have hj : j < (x.f_List ++ ckL d x.f_Chain).length := hj
  have hj2 : j < x.f_List.length + d := by rw [List.length_append, hL] at hj; exact hj
  have hat : ∀ j (hj : j < (x.f_List ++ ckL d x.f_Chain).length), ¬ j < x.f_List.length → (x.f_List ++ ckL d x.f_Chain)[j] = ⟨x.f_Chain.f_N + ((j - x.f_List.length : Nat) : Int), chainNextK (itC (j - x.f_List.length) x.f_Chain)⟩ := fun j hj q => by
    rw [List.getElem_append_right (by omega)]
    exact ckL_at d x.f_Chain _ _ p1 (by omega)
  show keptP ((itC (d + 1) x.f_Chain).f_N - 1) (x.f_List ++ ckL d x.f_Chain) j hj
  rw [r2]
  by_cases q : j < x.f_List.length
  · have p := p3 j q
    have e : (x.f_List ++ ckL d x.f_Chain)[j] = x.f_List[j] := List.getElem_append_left q
    refine ⟨by rw [e]; have := p.1; omega, by rw [e]; exact p.2.1, fun h0 => ?_⟩
    have e2 : (x.f_List ++ ckL d x.f_Chain)[j - 1]'(by omega) = x.f_List[j - 1]'(by omega) := List.getElem_append_left (by omega)
    rw [e, e2]
    exact p.2.2 h0
  · have e := hat j hj q
    obtain ⟨s1, s2⟩ := itC_ok (j - x.f_List.length) x.f_Chain p1 (by omega)
    refine ⟨by rw [e]; dsimp only; omega, by rw [e]; exact nextK_len (chainGo_of s1 (by omega)), fun h0 => ?_⟩
    rw [e]
    by_cases q2 : j - 1 < x.f_List.length
    · have e2 : (x.f_List ++ ckL d x.f_Chain)[j - 1]'(by omega) = x.f_List[j - 1]'(by omega) := List.getElem_append_left q2
      rw [e2]
      have := (p3 (j - 1) q2).1
      dsimp only; omega
    · rw [hat (j - 1) (by omega) q2]
      dsimp only; omega

/-- What is answered, once more: a catch stays right; what is given has its length; it is not given again. -/
theorem ck_right {x : MCatch} {n : Int} (h : (ck x n).2.2 = true) : catchOk (ck x n).1 = true ∧ (ck x n).2.1.length = 32 ∧ (ck (ck x n).1 n).2.2 = false := by
  cases hok : catchOk x with
  | false => rw [ck_bad hok] at h; cases h
  | true =>
    obtain ⟨p1, p2, p3⟩ := catchOk_p hok
    obtain ⟨o1, o2, o3⟩ := chainOk_iff.1 p1
    cases ha : ckAt x.f_List n with
    | some i =>
      have hf := ha
      unfold ckAt at hf
      rw [List.findIdx?_eq_some_iff_getElem] at hf
      obtain ⟨hi, hn, _⟩ := hf
      have hn : x.f_List[i].f_N = n := by simpa using hn
      rw [ck_found hok hi ha]
      have hd := catchOk_del hok hi
      refine ⟨hd, (p3 i hi).2.1, ?_⟩
      show (ck ⟨x.f_Chain, x.f_List.eraseIdx i⟩ n).2.2 = false
      have hm := kept_mono p3
      rw [ck_not hd (ckAt_none fun j hj => ?_) (.inl (by show n < x.f_Chain.f_N; have := (p3 i hi).1; omega))]
      have hj : j < (x.f_List.eraseIdx i).length := hj
      have hl : (x.f_List.eraseIdx i).length = x.f_List.length - 1 := by rw [List.length_eraseIdx, if_pos hi]
      show ¬ (x.f_List.eraseIdx i)[j].f_N = n
      rw [List.getElem_eraseIdx]
      by_cases q : j < i
      · rw [dif_pos q]; have := hm i j q hi; omega
      · rw [dif_neg q]; have := hm (j + 1) i (by omega) (by omega); omega
    | none =>
      by_cases q : n < x.f_Chain.f_N ∨ 1000 ≤ n ∨ 5 < x.f_List.length + n - x.f_Chain.f_N
      · rw [ck_not hok ha q] at h; cases h
      · rw [ck_go hok ha q, ckGo_eq]
        have hd := catchOk_go (d := (n - x.f_Chain.f_N).toNat) hok (by omega) (by omega)
        obtain ⟨s1, s2⟩ := itC_ok (n - x.f_Chain.f_N).toNat x.f_Chain p1 (by omega)
        obtain ⟨r1, r2⟩ := itC_ok ((n - x.f_Chain.f_N).toNat + 1) x.f_Chain p1 (by omega)
        refine ⟨hd, nextK_len (chainGo_of s1 (by omega)), ?_⟩
        dsimp only
        rw [ck_not hd (ckAt_none fun j hj => ?_) (.inl (by show n < (itC ((n - x.f_Chain.f_N).toNat + 1) x.f_Chain).f_N; omega))]
        have hj : j < (x.f_List ++ ckL (n - x.f_Chain.f_N).toNat x.f_Chain).length := hj
        show ¬ (x.f_List ++ ckL (n - x.f_Chain.f_N).toNat x.f_Chain)[j].f_N = n
        have hL := ckL_len (n - x.f_Chain.f_N).toNat x.f_Chain
        rw [List.length_append, hL] at hj
        by_cases q2 : j < x.f_List.length
        · rw [List.getElem_append_left q2]; have := (p3 j q2).1; omega
        · rw [List.getElem_append_right (by omega), ckL_at _ x.f_Chain _ _ p1 (by omega)]
          dsimp only; omega

def keyAt (c : MChain) (j : Nat) : List UInt8 := chainNextK (itC j c)
theorem itC_add : ∀ (a b : Nat) (c : MChain), itC a (itC b c) = itC (b + a) c
  | a, 0, c => by rw [Nat.zero_add]; rfl
  | a, b + 1, c => by rw [itC, itC_add a b, show b + 1 + a = (b + a) + 1 by omega]; rfl
structure Any (c : MChain) (gv : List Bool) (x : MCatch) (m : Nat) : Prop where
  ok : catchOk x = true
  ch : x.f_Chain = itC m c
  at_ : x.f_Chain.f_N = m
  keys : ∀ y ∈ x.f_List, 0 ≤ y.f_N ∧ y.f_N < m ∧ y.f_Key = keyAt c y.f_N.toNat
  giv : ∀ j : Nat, gv.getD j false = true → j < m ∧ ∀ y ∈ x.f_List, ¬ y.f_N = (j : Int)
theorem getD_set {l : List Bool} {n j : Nat} {b : Bool} : (l.set n b).getD j false = true → (j = n ∧ b = true) ∨ l.getD j false = true := fun h => by
  rw [List.getD_eq_getElem?_getD, List.getElem?_set] at h
  split at h
  · rename_i e
    subst e
    split at h
    · exact .inl ⟨rfl, by simpa using h⟩
    · simp at h
  · exact .inr (by rw [List.getD_eq_getElem?_getD]; exact h)
theorem erase_not {x : MCatch} {i : Nat} (h : catchOk x = true) (hi : i < x.f_List.length) : ∀ y ∈ x.f_List.eraseIdx i, ¬ y.f_N = x.f_List[i].f_N := fun y hy => by
  obtain ⟨p1, p2, p3⟩ := catchOk_p h
  have hm := kept_mono p3
  have hl : (x.f_List.eraseIdx i).length = x.f_List.length - 1 := by rw [List.length_eraseIdx, if_pos hi]
  obtain ⟨j, hj, rfl⟩ := List.getElem_of_mem hy
  rw [List.getElem_eraseIdx]
  by_cases q : j < i
  · rw [dif_pos q]; have := hm i j q hi; omega
  · rw [dif_neg q]; have := hm (j + 1) i (by omega) (by omega); omega
theorem any_step {c : MChain} {gv : List Bool} {x : MCatch} {m n : Nat} (h : Any c gv x m) (hn : n < 20) :
    ((ck x n).2.2 = true → gv.getD n false = false ∧ (ck x n).2.1 = keyAt c n ∧ ∃ m', Any c (gv.set n true) (ck x n).1 m') ∧ ((ck x n).2.2 = false → (ck x n).1 = x) := by
  obtain ⟨hok, hch, hat, hkeys, hgiv⟩ := h
  obtain ⟨p1, p2, p3⟩ := catchOk_p hok
  obtain ⟨o1, o2, o3⟩ := chainOk_iff.1 p1
  cases ha : ckAt x.f_List (n : Int) with
  | some i =>
    have hf := ha
    unfold ckAt at hf
    rw [List.findIdx?_eq_some_iff_getElem] at hf
    obtain ⟨hi, hx, _⟩ := hf
    have hx : x.f_List[i].f_N = (n : Int) := by simpa using hx
    have hk := hkeys _ (List.getElem_mem hi)
    rw [ck_found hok hi ha]
    refine ⟨fun _ => ⟨?_, ?_, m, catchOk_del hok hi, hch, hat, fun y hy => hkeys y (List.mem_of_mem_eraseIdx hy), fun j hj => ?_⟩, fun h => by cases h⟩
    · cases hg : gv.getD n false with
      | false => rfl
      | true => exact absurd hx ((hgiv n hg).2 _ (List.getElem_mem hi))
    · show x.f_List[i].f_Key = _
      rw [hk.2.2, hx]; rfl
    · rcases getD_set hj with ⟨rfl, _⟩ | hj
      · exact ⟨by omega, fun y hy => by have := erase_not hok hi y hy; omega⟩
      · exact ⟨(hgiv j hj).1, fun y hy => (hgiv j hj).2 y (List.mem_of_mem_eraseIdx hy)⟩
  | none =>
    by_cases q : (n : Int) < x.f_Chain.f_N ∨ 1000 ≤ (n : Int) ∨ 5 < x.f_List.length + (n : Int) - x.f_Chain.f_N
    · rw [ck_not hok ha q]
      exact ⟨fun h => (by cases h), fun _ => rfl⟩
    · have hd := catchOk_go (d := n - m) hok (by omega) (by omega)
      have hL := ckL_len (n - m) x.f_Chain
      rw [ck_go hok ha q, ckGo_eq, show ((n : Int) - x.f_Chain.f_N).toNat = n - m by omega]
      have hnew : ∀ y ∈ ckL (n - m) x.f_Chain, ∃ j, j < n - m ∧ y = ⟨((m + j : Nat) : Int), keyAt c (m + j)⟩ := fun y hy => by
        obtain ⟨j, hj, rfl⟩ := List.getElem_of_mem hy
        rw [ckL_at _ x.f_Chain _ _ p1 (by omega)]
        refine ⟨j, by omega, ?_⟩
        unfold keyAt
        rw [hat, hch, itC_add]
        congr 1
      refine ⟨fun _ => ⟨?_, ?_, n + 1, hd, ?_, ?_, fun y hy => ?_, fun j hj => ?_⟩, fun h => by cases h⟩
      · cases hg : gv.getD n false with
        | false => rfl
        | true => have := (hgiv n hg).1; omega
      · show chainNextK (itC (n - m) x.f_Chain) = _
        unfold keyAt
        rw [hch, itC_add, show m + (n - m) = n by omega]
      · show itC (n - m + 1) x.f_Chain = _
        rw [hch, itC_add, show m + (n - m + 1) = n + 1 by omega]
      · show (itC (n - m + 1) x.f_Chain).f_N = _
        rw [(itC_ok (n - m + 1) x.f_Chain p1 (by omega)).2]; omega
      · have hy : y ∈ x.f_List ++ ckL (n - m) x.f_Chain := hy
        rcases List.mem_append.1 hy with hy | hy
        · have := hkeys y hy
          exact ⟨this.1, by omega, this.2.2⟩
        · obtain ⟨j, hj, rfl⟩ := hnew y hy
          exact ⟨by dsimp only; omega, by dsimp only; omega, rfl⟩
      · have key : ∀ y ∈ x.f_List ++ ckL (n - m) x.f_Chain, ¬ y.f_N = (j : Int) := fun y hy => by
          rcases getD_set hj with ⟨rfl, _⟩ | hj
          · rcases List.mem_append.1 hy with hy | hy
            · have := hkeys y hy; omega
            · obtain ⟨i, hi, rfl⟩ := hnew y hy
              dsimp only; omega
          · rcases List.mem_append.1 hy with hy | hy
            · exact (hgiv j hj).2 y hy
            · obtain ⟨i, hi, rfl⟩ := hnew y hy
              have := (hgiv j hj).1
              dsimp only; omega
        refine ⟨?_, key⟩
        rcases getD_set hj with ⟨rfl, _⟩ | hj
        · omega
        · have := (hgiv j hj).1; omega
theorem smCatch_ok {x : MCatch} (h : catchOk x = true) : smCatch x := by
  obtain ⟨p1, p2, p3⟩ := catchOk_p h
  obtain ⟨o1, o2, o3⟩ := chainOk_iff.1 p1
  refine ⟨by unfold smChain; omega, by omega, fun y hy => ?_⟩
  obtain ⟨i, hi, rfl⟩ := List.getElem_of_mem hy
  have := (p3 i hi).2.1
  unfold smKept; omega
theorem chainNew_ok {a : List UInt8} (h : a.length = 32) : chainOk (chainNew a) = true ∧ (chainNew a).f_N = 0 := by
  have e : chainNew a = ⟨derive [] a chainText 32, 0⟩ := by unfold chainNew; rw [if_pos h]
  rw [e]
  refine ⟨chainOk_iff.2 ⟨?_, by show (0 : Int) ≤ 0; omega, by show (0 : Int) ≤ 1000; omega⟩, rfl⟩
  show (expand (extract [] a) chainText ((32 : Nat) : Int)).length = 32
  have hx : (extract [] a).length ≤ 32 := extract_len _ _
  exact expand_len32 (by omega) (by simp [chainText]) 32 (by omega)
end Go.Proofs.Ytagljofpmjaciaa.V
