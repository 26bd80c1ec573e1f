/- Keys asked for in any order, in plain Lean. -/
import Derived.Test.YtagljofpmjaciaaPc
namespace Go.Proofs.Ytagljofpmjaciaa.V
set_option linter.unusedVariables false

def keyAt (c : MChain) (j : Nat) : List UInt8 := chainNextK (itC j c)
theorem itC_add : ∀ (a b : Nat) (c : MChain), itC a (itC b c) = itC (b + a) c
  | a, 0, c => by rw [Nat.zero_add]; rfl
  | a, b + 1, c => by rw [itC, itC_add a b, show b + 1 + a = (b + a) + 1 by omega]; rfl
structure Any (c : MChain) (gv : List Bool) (x : MCatch) (m : Nat) : Prop where
  ok : catchOk x = true
  ch : x.f_Chain = itC m c
  at_ : x.f_Chain.f_N = m
  keys : ∀ y ∈ x.f_List, 0 ≤ y.f_N ∧ y.f_N < m ∧ y.f_Key = keyAt c y.f_N.toNat
  giv : ∀ j : Nat, gv.getD j false = true → j < m ∧ ∀ y ∈ x.f_List, ¬ y.f_N = (j : Int)
theorem getD_set {l : List Bool} {n j : Nat} {b : Bool} : (l.set n b).getD j false = true → (j = n ∧ b = true) ∨ l.getD j false = true := fun h => by
  rw [List.getD_eq_getElem?_getD, List.getElem?_set] at h
  split at h
  · rename_i e
    subst e
    split at h
    · exact .inl ⟨rfl, by simpa using h⟩
    · simp at h
  · exact .inr (by rw [List.getD_eq_getElem?_getD]; exact h)
theorem erase_not {x : MCatch} {i : Nat} (h : catchOk x = true) (hi : i < x.f_List.length) : ∀ y ∈ x.f_List.eraseIdx i, ¬ y.f_N = x.f_List[i].f_N := fun y hy => by
  obtain ⟨p1, p2, p3⟩ := catchOk_p h
  have hm := kept_mono p3
  have hl : (x.f_List.eraseIdx i).length = x.f_List.length - 1 := by rw [List.length_eraseIdx, if_pos hi]
  obtain ⟨j, hj, rfl⟩ := List.getElem_of_mem hy
  rw [List.getElem_eraseIdx]
  by_cases q : j < i
  · rw [dif_pos q]; have := hm i j q hi; omega
  · rw [dif_neg q]; have := hm (j + 1) i (by omega) (by omega); omega
theorem any_step {c : MChain} {gv : List Bool} {x : MCatch} {m n : Nat} (h : Any c gv x m) (hn : n < 20) :
    ((ck x n).2.2 = true → gv.getD n false = false ∧ (ck x n).2.1 = keyAt c n ∧ ∃ m', Any c (gv.set n true) (ck x n).1 m') ∧ ((ck x n).2.2 = false → (ck x n).1 = x) := by
  obtain ⟨hok, hch, hat, hkeys, hgiv⟩ := h
  obtain ⟨p1, p2, p3⟩ := catchOk_p hok
  obtain ⟨o1, o2, o3⟩ := chainOk_iff.1 p1
  cases ha : ckAt x.f_List (n : Int) with
  | some i =>
    have hf := ha
    unfold ckAt at hf
    rw [List.findIdx?_eq_some_iff_getElem] at hf
    obtain ⟨hi, hx, _⟩ := hf
    have hx : x.f_List[i].f_N = (n : Int) := by simpa using hx
    have hk := hkeys _ (List.getElem_mem hi)
    rw [ck_found hok hi ha]
    refine ⟨fun _ => ⟨?_, ?_, m, catchOk_del hok hi, hch, hat, fun y hy => hkeys y (List.mem_of_mem_eraseIdx hy), fun j hj => ?_⟩, fun h => by cases h⟩
    · cases hg : gv.getD n false with
      | false => rfl
      | true => exact absurd hx ((hgiv n hg).2 _ (List.getElem_mem hi))
    · show x.f_List[i].f_Key = _
      rw [hk.2.2, hx]; rfl
    · rcases getD_set hj with ⟨rfl, _⟩ | hj
      · exact ⟨by omega, fun y hy => by have := erase_not hok hi y hy; omega⟩
      · exact ⟨(hgiv j hj).1, fun y hy => (hgiv j hj).2 y (List.mem_of_mem_eraseIdx hy)⟩
  | none =>
    by_cases q : (n : Int) < x.f_Chain.f_N ∨ 1000 ≤ (n : Int) ∨ 5 < x.f_List.length + (n : Int) - x.f_Chain.f_N
    · rw [ck_not hok ha q]
      exact ⟨fun h => (by cases h), fun _ => rfl⟩
    · have hd := catchOk_go (d := n - m) hok (by omega) (by omega)
      have hL := ckL_len (n - m) x.f_Chain
      rw [ck_go hok ha q, ckGo_eq, show ((n : Int) - x.f_Chain.f_N).toNat = n - m by omega]
      have hnew : ∀ y ∈ ckL (n - m) x.f_Chain, ∃ j, j < n - m ∧ y = ⟨((m + j : Nat) : Int), keyAt c (m + j)⟩ := fun y hy => by
        obtain ⟨j, hj, rfl⟩ := List.getElem_of_mem hy
        rw [ckL_at _ x.f_Chain _ _ p1 (by omega)]
        refine ⟨j, by omega, ?_⟩
        unfold keyAt
        rw [hat, hch, itC_add]
        congr 1
      refine ⟨fun _ => ⟨?_, ?_, n + 1, hd, ?_, ?_, fun y hy => ?_, fun j hj => ?_⟩, fun h => by cases h⟩
      · cases hg : gv.getD n false with
        | false => rfl
        | true => have := (hgiv n hg).1; omega
      · show chainNextK (itC (n - m) x.f_Chain) = _
        unfold keyAt
        rw [hch, itC_add, show m + (n - m) = n by omega]
      · show itC (n - m + 1) x.f_Chain = _
        rw [hch, itC_add, show m + (n - m + 1) = n + 1 by omega]
      · show (itC (n - m + 1) x.f_Chain).f_N = _
        rw [(itC_ok (n - m + 1) x.f_Chain p1 (by omega)).2]; omega
      · have hy : y ∈ x.f_List ++ ckL (n - m) x.f_Chain := hy
        rcases List.mem_append.1 hy with hy | hy
        · have := hkeys y hy
          exact ⟨this.1, by omega, this.2.2⟩
        · obtain ⟨j, hj, rfl⟩ := hnew y hy
          exact ⟨by dsimp only; omega, by dsimp only; omega, rfl⟩
      · have key : ∀ y ∈ x.f_List ++ ckL (n - m) x.f_Chain, ¬ y.f_N = (j : Int) := fun y hy => by
          rcases getD_set hj with ⟨rfl, _⟩ | hj
          · rcases List.mem_append.1 hy with hy | hy
            · have := hkeys y hy; omega
            · obtain ⟨i, hi, rfl⟩ := hnew y hy
              dsimp only; omega
          · rcases List.mem_append.1 hy with hy | hy
            · exact (hgiv j hj).2 y hy
            · obtain ⟨i, hi, rfl⟩ := hnew y hy
              have := (hgiv j hj).1
              dsimp only; omega
        refine ⟨?_, key⟩
        rcases getD_set hj with ⟨rfl, _⟩ | hj
        · omega
        · have := (hgiv j hj).1; omega
theorem smCatch_ok {x : MCatch} (h : catchOk x = true) : smCatch x := by
  obtain ⟨p1, p2, p3⟩ := catchOk_p h
  obtain ⟨o1, o2, o3⟩ := chainOk_iff.1 p1
  refine ⟨by unfold smChain; omega, by omega, fun y hy => ?_⟩
  obtain ⟨i, hi, rfl⟩ := List.getElem_of_mem hy
  have := (p3 i hi).2.1
  unfold smKept; omega
theorem chainNew_ok {a : List UInt8} (h : a.length = 32) : chainOk (chainNew a) = true ∧ (chainNew a).f_N = 0 := by
  have e : chainNew a = ⟨derive [] a chainText 32, 0⟩ := by unfold chainNew; rw [if_pos h]
  rw [e]
  refine ⟨chainOk_iff.2 ⟨?_, by show (0 : Int) ≤ 0; omega, by show (0 : Int) ≤ 1000; omega⟩, rfl⟩
  show (expand (extract [] a) chainText ((32 : Nat) : Int)).length = 32
  have hx : (extract [] a).length ≤ 32 := extract_len _ _
  exact expand_len32 (by omega) (by simp [chainText]) 32 (by omega)
end Go.Proofs.Ytagljofpmjaciaa.V
