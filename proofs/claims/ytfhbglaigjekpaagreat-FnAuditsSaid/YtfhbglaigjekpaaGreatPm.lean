/- Leaves, ways and growths, in plain Lean: what is shown leads to the root. -/
import Derived.Test.YtfhbglaigjekpaaGreatZn
namespace Go.Proofs.YtfhbglaigjekpaaGreat.V
set_option linter.unusedVariables false

theorem rootOf_one {l : List (List UInt8)} (h : l.length = 1) : rootOf l = leafOf (l.getD 0 []) := by
  rw [rootOf, if_neg (by omega), if_neg (by omega), if_pos h]
theorem getD_takeL {l : List (List UInt8)} {i k : Nat} (h : i < k) : (l.take k).getD i [] = l.getD i [] := by
  rw [List.getD_eq_getElem?_getD, List.getD_eq_getElem?_getD, List.getElem?_take, if_pos h]
theorem getD_dropL {l : List (List UInt8)} {i k : Nat} (h : k ≤ i) : (l.drop k).getD (i - k) [] = l.getD i [] := by
  rw [List.getD_eq_getElem?_getD, List.getD_eq_getElem?_getD, List.getElem?_drop, Nat.add_sub_cancel' h]
theorem take_last {α : Type} (p : List α) (x : α) : (p ++ [x]).take ((p ++ [x]).length - 1) = p := by
  rw [List.length_append, List.length_cons, List.length_nil, Nat.add_sub_cancel, List.take_left]
theorem getD_last (p : List (List UInt8)) (x : List UInt8) : (p ++ [x]).getD ((p ++ [x]).length - 1) [] = x := by
  rw [List.length_append, List.length_cons, List.length_nil, Nat.add_sub_cancel, List.getD_eq_getElem?_getD, List.getElem?_append_right (Nat.le_refl _), Nat.sub_self]; rfl

/-- A leaf's way leads to the root. -/
theorem rootBy_path : ∀ (q : Nat) (l : List (List UInt8)) (i : Nat), l.length ≤ q → i < l.length → l.length ≤ 40 → rootByP (leafOf (l.getD i [])) i l.length (pathOf l i) = some (rootOf l) := by
  intro q
  induction q with
  | zero => intro l i h1 h2; omega
  | succ q ih =>
    intro l i h1 h2 h3
    by_cases e : l.length = 1
    · rw [pathOf_no (by omega), rootByP, if_pos e, if_pos List.length_nil, rootOf_one e, show i = 0 by omega]
    · have h4 : 2 ≤ l.length := by omega
      have hk := first_lt h4
      have hk0 := first_pos l.length
      have hc : 0 ≤ (i : Int) ∧ (i : Int) < (l.length : Int) ∧ 2 ≤ l.length ∧ l.length ≤ 40 := ⟨by omega, by omega, h4, h3⟩
      by_cases q1 : i < first l.length
      · rw [pathOf_low hc (by omega), rootByP, if_neg e, dif_neg (by simp), if_pos q1, take_last, getD_last]
        have hl : (l.take (first l.length)).length = first l.length := by rw [List.length_take]; omega
        have := ih (l.take (first l.length)) i (by omega) (by omega) (by omega)
        rw [hl, getD_takeL q1] at this
        rw [this, Option.map_some, rootOf_more h4 h3]
      · rw [pathOf_high hc (by omega), rootByP, if_neg e, dif_neg (by simp), if_neg q1, take_last, getD_last]
        have hl : (l.drop (first l.length)).length = l.length - first l.length := by rw [List.length_drop]
        have := ih (l.drop (first l.length)) (i - first l.length) (by omega) (by omega) (by omega)
        rw [hl, getD_dropL (by omega)] at this
        rw [show ((i : Int) - (first l.length : Int)) = ((i - first l.length : Nat) : Int) by omega, this, Option.map_some, rootOf_more h4 h3]
/-- How long a way must be. -/
def dep (i n : Nat) : Nat := if h : 2 ≤ n then 1 + (if i < first n then dep i (first n) else dep (i - first n) (n - first n)) else 0
termination_by n
decreasing_by
  · exact first_lt h
  · have := first_pos n; omega
theorem rootByP_dep (leaf : List UInt8) : ∀ (q i n : Nat) (p : List (List UInt8)) (r : List UInt8), p.length ≤ q → i < n → rootByP leaf i n p = some r → p.length = dep i n := by
  intro q
  induction q with
  | zero =>
    intro i n p r h1 h2 h
    rw [rootByP] at h
    by_cases e : n = 1
    · rw [dep, dif_neg (by omega)]; omega
    · rw [if_neg e, dif_pos (by omega)] at h; cases h
  | succ q ih =>
    intro i n p r h1 h2 h
    rw [rootByP] at h
    by_cases e : n = 1
    · rw [if_pos e] at h
      rw [dep, dif_neg (by omega)]
      by_cases e0 : p.length = 0
      · exact e0
      · rw [if_neg e0] at h; cases h
    · rw [if_neg e] at h
      by_cases e0 : p.length = 0
      · rw [dif_pos e0] at h; cases h
      · rw [dif_neg e0] at h
        have h4 : 2 ≤ n := by omega
        have hk := first_lt h4
        have hk0 := first_pos n
        have hl : (p.take (p.length - 1)).length = p.length - 1 := by rw [List.length_take]; omega
        rw [dep, dif_pos h4]
        by_cases q1 : i < first n
        · rw [if_pos q1] at h ⊢
          obtain ⟨r', hr, _⟩ := Option.map_eq_some_iff.1 h
          have := ih i (first n) _ r' (by omega) q1 hr
          omega
        · rw [if_neg q1] at h ⊢
          obtain ⟨r', hr, _⟩ := Option.map_eq_some_iff.1 h
          have := ih (i - first n) (n - first n) _ r' (by omega) (by omega) hr
          omega
theorem rootBy_right {l : List (List UInt8)} {i : Int} (h : 0 ≤ i ∧ i < l.length) (h2 : l.length ≤ 40) (x : List UInt8) : rootBy (leafOf (l.getD i.toNat [])) i l.length (pathOf l i) = some (rootOf l) ∧ rootBy (leafOf (l.getD i.toNat [])) i l.length (pathOf l i ++ [x]) = none := by
  obtain ⟨i, rfl⟩ : ∃ k : Nat, i = (k : Int) := ⟨i.toNat, by omega⟩
  have e := rootBy_path l.length l i (Nat.le_refl _) (by omega) h2
  have hd := rootByP_dep _ _ i l.length _ _ (Nat.le_refl _) (by omega) e
  unfold rootBy
  rw [if_pos (by omega), if_pos (by omega)]
  simp only [Int.toNat_natCast]
  refine ⟨e, ?_⟩
  cases h3 : rootByP (leafOf (l.getD i [])) i l.length (pathOf l i ++ [x]) with
  | none => rfl
  | some r =>
    have := rootByP_dep _ _ i l.length _ _ (Nat.le_refl _) (by omega) h3
    rw [List.length_append, List.length_cons, List.length_nil] at this
    omega

/-! ### growths -/
theorem first_same {m n : Nat} (h1 : first n < m) (h2 : m ≤ n) : first m = first n := by
  have h : ∃ e, first n = 2 ^ e ∧ n ≤ 2 * 2 ^ e := by
    unfold first
    refine ⟨Nat.log2 (n - 1), rfl, ?_⟩
    have : n - 1 < 2 ^ (Nat.log2 (n - 1) + 1) := Nat.lt_log2_self
    rw [Nat.pow_succ] at this
    omega
  obtain ⟨e, h3, h4⟩ := h
  rw [h3] at h1 ⊢
  exact (first_eq (.inr h1) (by omega)).symm
theorem grown_both (old : BL) : ∀ (q : Nat) (l : List BL) (m : Nat) (known : Bool), l.length ≤ q → 1 ≤ m → m ≤ l.length → l.length ≤ 40 → (known = true → old = rootOf (l.take m)) → bothR old m l.length (grown l m known) known = some (rootOf (l.take m), rootOf l, []) := by
  intro q
  induction q with
  | zero => intro l m known h1 h2 h3; omega
  | succ q ih =>
    intro l m known h1 h2 h3 h4 hold
    by_cases e : m = l.length
    · have et : l.take m = l := List.take_of_length_le (by omega)
      rw [bothR.eq_def, if_pos e, grown, if_pos e]
      cases known with
      | true =>
        have := hold rfl
        rw [et] at this
        rw [if_pos rfl, if_pos rfl, this, et]
      | false => rw [if_neg (by decide), if_neg (by decide), et]
    · have h5 : 2 ≤ l.length := by omega
      have hk := first_lt h5
      have hk0 := first_pos l.length
      by_cases q1 : m ≤ first l.length
      · have hl : (l.take (first l.length)).length = first l.length := by rw [List.length_take]; omega
        have et : (l.take (first l.length)).take m = l.take m := by rw [List.take_take, Nat.min_eq_left q1]
        have := ih (l.take (first l.length)) m known (by omega) h2 (by omega) (by omega) (by rw [et]; exact hold)
        rw [hl, et] at this
        have ha := bothR_app old _ m (first l.length) known _ [rootOf (l.drop (first l.length))] _ _ _ (Nat.le_refl _) this
        rw [grown, if_neg e, dif_pos h5, if_pos q1, bothR.eq_def, if_neg e, dif_pos h5, if_pos q1, ha]
        simp only [List.nil_append]
        rw [rootOf_more h5 h4]
      · have hl : (l.drop (first l.length)).length = l.length - first l.length := by rw [List.length_drop]
        have := ih (l.drop (first l.length)) (m - first l.length) false (by omega) (by omega) (by omega) (by omega) (fun h => by cases h)
        rw [hl] at this
        have ha := bothR_app old _ (m - first l.length) (l.length - first l.length) false _ [rootOf (l.take (first l.length))] _ _ _ (Nat.le_refl _) this
        rw [grown, if_neg e, dif_pos h5, if_neg q1, bothR.eq_def, if_neg e, dif_pos h5, if_neg q1, ha]
        simp only [List.nil_append]
        have hm : (l.take m).length = m := by rw [List.length_take]; omega
        have hf := first_same (m := m) (n := l.length) (by omega) h3
        have e1 : rootOf (l.take m) = nodeOf (rootOf (l.take (first l.length))) (rootOf ((l.drop (first l.length)).take (m - first l.length))) := by
          rw [rootOf_more (l := l.take m) (by omega) (by omega), hm, hf, List.take_take, Nat.min_eq_left (by omega), List.drop_take]
        rw [← e1, ← rootOf_more h5 h4]
theorem grownOk_right {l : List BL} {m : Int} (h : 1 ≤ m ∧ m ≤ l.length ∧ l.length ≤ 40) (bent x : BL) (hb : ¬ rootOf l = bent) :
    grownOk (rootOf (l.take m.toNat)) (rootOf l) m l.length (grownOf l m) = true ∧ grownOk (rootOf (l.take m.toNat)) bent m l.length (grownOf l m) = false ∧ grownOk (rootOf (l.take m.toNat)) (rootOf l) m l.length (grownOf l m ++ [x]) = false := by
  have e := grown_both (rootOf (l.take m.toNat)) l.length l m.toNat true (Nat.le_refl _) (by omega) (by omega) h.2.2 (fun _ => rfl)
  have hg : grownOf l m = grown l m.toNat true := by unfold grownOf; rw [if_pos h]
  have e2 := bothR_app _ _ m.toNat l.length true _ [x] _ _ _ (Nat.le_refl _) e
  have hc : ((1 : Int) ≤ l.length ∧ (l.length : Int) ≤ 40) ∧ 1 ≤ m ∧ m ≤ l.length := ⟨⟨by omega, by omega⟩, h.1, h.2.1⟩
  unfold grownOk
  rw [if_pos hc, if_pos hc, if_pos hc, hg]
  simp only [Int.toNat_natCast]
  rw [e, e2]
  simp [hb]

/-! ### a root has its length -/
theorem hash_32 {b : List UInt8} (h : b.length ≤ 4000) : (hash b).length = 32 := by
  unfold hash
  rw [if_pos h, wordBytes_len, hashN_len]
theorem rootOf_32 : ∀ (q : Nat) (l : List (List UInt8)), l.length ≤ q → l.length ≤ 40 → (∀ a ∈ l, a.length ≤ 3999) → (rootOf l).length = 32 := by
  intro q
  induction q with
  | zero =>
    intro l h1 h2 h3
    rw [rootOf, if_neg (by omega), if_pos (by omega)]
    exact hash_32 (by simp)
  | succ q ih =>
    intro l h1 h2 h3
    by_cases e0 : l.length = 0
    · rw [rootOf, if_neg (by omega), if_pos e0]
      exact hash_32 (by simp)
    · by_cases e : l.length = 1
      · rw [rootOf_one e]
        have : (l.getD 0 []).length ≤ 3999 := by
          rw [← getD0 (by omega)]
          exact h3 _ (List.getElem_mem _)
        unfold leafOf
        exact hash_32 (by simp only [List.length_append, List.length_cons, List.length_nil]; omega)
      · have h4 : 2 ≤ l.length := by omega
        rw [rootOf_more h4 h2]
        have a1 := rootOf_len (l.take (first l.length))
        have a2 := rootOf_len (l.drop (first l.length))
        unfold nodeOf
        exact hash_32 (by simp only [List.length_append, List.length_cons, List.length_nil]; omega)
end Go.Proofs.YtfhbglaigjekpaaGreat.V
