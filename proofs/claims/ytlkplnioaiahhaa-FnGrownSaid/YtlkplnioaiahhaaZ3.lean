/- Growth shown by a proof: both sides. -/
import Derived.Test.YtlkplnioaiahhaaZ2
import Derived.Test.YtlkplnioaiahhaaWsa
namespace Go.Proofs.Ytlkplnioaiahhaa.V
open Go Go.RowKit
set_option maxRecDepth 100000
set_option maxHeartbeats 4000000
set_option linter.unusedSimpArgs false
set_option linter.unusedVariables false
set_option pp.deepTerms false
set_option pp.deepTerms.threshold 3

abbrev BL := List UInt8
/-- The reference's reckoning: both roots, and what is left. -/
def bothR (old : BL) (m n : Nat) (proof : List BL) (known : Bool) : Option (BL × BL × List BL) :=
  if m = n then (if known = true then some (old, old, proof) else match proof with
    | [] => none
    | x :: rest => some (x, x, rest))
  else if h : 2 ≤ n then
    if m ≤ first n then match bothR old m (first n) proof known with
      | some (a, b, x :: rest) => some (a, nodeOf b x, rest)
      | _ => none
    else match bothR old (m - first n) (n - first n) proof false with
      | some (a, b, x :: rest) => some (nodeOf x a, nodeOf x b, rest)
      | _ => none
  else none
termination_by n
decreasing_by
  · exact first_lt h
  · have := first_pos n; omega
/-- The program's: from the last one on. -/
def rootsI (old : BL) (m n : Nat) (proof : List BL) (known : Bool) : BL × BL × Bool :=
  if m = n ∧ known = true then (old, old, decide (proof.length = 0))
  else if h0 : proof.length = 0 then ([], [], false)
  else if m = n then (proof.getD (proof.length - 1) [], proof.getD (proof.length - 1) [], decide ((proof.take (proof.length - 1)).length = 0))
  else if m ≤ first n then
    ((rootsI old m (first n) (proof.take (proof.length - 1)) known).1, nodeOf (rootsI old m (first n) (proof.take (proof.length - 1)) known).2.1 (proof.getD (proof.length - 1) []), (rootsI old m (first n) (proof.take (proof.length - 1)) known).2.2)
  else (nodeOf (proof.getD (proof.length - 1) []) (rootsI old (m - first n) (n - first n) (proof.take (proof.length - 1)) false).1, nodeOf (proof.getD (proof.length - 1) []) (rootsI old (m - first n) (n - first n) (proof.take (proof.length - 1)) false).2.1, (rootsI old (m - first n) (n - first n) (proof.take (proof.length - 1)) false).2.2)
termination_by proof.length
decreasing_by
  all_goals (simp only [List.length_take]; omega)

theorem bothR_app (old : BL) : ∀ (q m n : Nat) (known : Bool) (p t : List BL) (a b : BL) (r : List BL), n ≤ q → bothR old m n p known = some (a, b, r) → bothR old m n (p ++ t) known = some (a, b, r ++ t) := by
  intro q
  induction q with
  | zero =>
    intro m n known p t a b r hq h
    rw [bothR.eq_def] at h ⊢
    split at h
    · split at h
      · rename_i h1 h2
        rw [if_pos h1, if_pos h2]; cases h; rfl
      · rename_i h1 h2
        rw [if_pos h1, if_neg h2]
        cases p with
        | nil => cases h
        | cons x p => cases h; rfl
    · rw [dif_neg (by omega)] at h; cases h
  | succ q ih =>
    intro m n known p t a b r hq h
    rw [bothR.eq_def] at h ⊢
    split at h
    · split at h
      · rename_i h1 h2
        rw [if_pos h1, if_pos h2]; cases h; rfl
      · rename_i h1 h2
        rw [if_pos h1, if_neg h2]
        cases p with
        | nil => cases h
        | cons x p => cases h; rfl
    · rename_i h1
      rw [if_neg h1]
      by_cases h2 : 2 ≤ n
      · have hk := first_lt h2
        have hk0 := first_pos n
        rw [dif_pos h2] at h ⊢
        split at h
        · rename_i h3
          rw [if_pos h3]
          cases hi : bothR old m (first n) p known with
          | none => rw [hi] at h; cases h
          | some z =>
            obtain ⟨a', b', r'⟩ := z
            cases r' with
            | nil => rw [hi] at h; cases h
            | cons x r' =>
              rw [hi] at h
              rw [ih m (first n) known p t a' b' (x :: r') (by omega) hi]
              cases h; rfl
        · rename_i h3
          rw [if_neg h3]
          cases hi : bothR old (m - first n) (n - first n) p false with
          | none => rw [hi] at h; cases h
          | some z =>
            obtain ⟨a', b', r'⟩ := z
            cases r' with
            | nil => rw [hi] at h; cases h
            | cons x r' =>
              rw [hi] at h
              rw [ih (m - first n) (n - first n) false p t a' b' (x :: r') (by omega) hi]
              cases h; rfl
      · rw [dif_neg h2] at h; cases h
theorem bothR_cut (old : BL) : ∀ (q m n : Nat) (known : Bool) (p : List BL) (a b : BL) (r : List BL), n ≤ q → bothR old m n p known = some (a, b, r) → ∃ u, p = u ++ r ∧ bothR old m n u known = some (a, b, []) := by
  intro q
  induction q with
  | zero =>
    intro m n known p a b r hq h
    rw [bothR.eq_def] at h
    split at h
    · split at h
      · rename_i h1 h2
        cases h
        exact ⟨[], rfl, by rw [bothR.eq_def, if_pos h1, if_pos h2]⟩
      · rename_i h1 h2
        cases p with
        | nil => cases h
        | cons x p => cases h; exact ⟨[_], rfl, by rw [bothR.eq_def, if_pos h1, if_neg h2]⟩
    · rw [dif_neg (by omega)] at h; cases h
  | succ q ih =>
    intro m n known p a b r hq h
    rw [bothR.eq_def] at h
    split at h
    · split at h
      · rename_i h1 h2
        cases h
        exact ⟨[], rfl, by rw [bothR.eq_def, if_pos h1, if_pos h2]⟩
      · rename_i h1 h2
        cases p with
        | nil => cases h
        | cons x p => cases h; exact ⟨[_], rfl, by rw [bothR.eq_def, if_pos h1, if_neg h2]⟩
    · rename_i h1
      by_cases h2 : 2 ≤ n
      · have hk := first_lt h2
        have hk0 := first_pos n
        rw [dif_pos h2] at h
        split at h
        · rename_i h3
          cases hi : bothR old m (first n) p known with
          | none => rw [hi] at h; cases h
          | some z =>
            obtain ⟨a', b', r'⟩ := z
            cases r' with
            | nil => rw [hi] at h; cases h
            | cons x r' =>
              rw [hi] at h
              obtain ⟨u, hu, hv⟩ := ih m (first n) known p a' b' (x :: r') (by omega) hi
              cases h
              refine ⟨u ++ [x], by rw [hu]; simp, ?_⟩
              have := bothR_app old q m (first n) known u [x] _ _ [] (by omega) hv
              rw [bothR.eq_def, if_neg h1, dif_pos h2, if_pos h3, this]
              rfl
        · rename_i h3
          cases hi : bothR old (m - first n) (n - first n) p false with
          | none => rw [hi] at h; cases h
          | some z =>
            obtain ⟨a', b', r'⟩ := z
            cases r' with
            | nil => rw [hi] at h; cases h
            | cons x r' =>
              rw [hi] at h
              obtain ⟨u, hu, hv⟩ := ih (m - first n) (n - first n) false p a' b' (x :: r') (by omega) hi
              cases h
              refine ⟨u ++ [x], by rw [hu]; simp, ?_⟩
              have := bothR_app old q (m - first n) (n - first n) false u [x] _ _ [] (by omega) hv
              rw [bothR.eq_def, if_neg h1, dif_pos h2, if_neg h3, this]
              rfl
      · rw [dif_neg h2] at h; cases h
theorem last_split {p : List BL} (h : ¬ p.length = 0) : p = p.take (p.length - 1) ++ [p.getD (p.length - 1) []] := by
  have h1 : p.length - 1 < p.length := by omega
  conv => lhs; rw [← List.take_append_drop (p.length - 1) p]
  rw [List.drop_eq_getElem_cons h1, ← getDN h1]
  have : p.drop (p.length - 1 + 1) = [] := List.drop_eq_nil_of_le (by omega)
  rw [this]
theorem snoc_inj {p u : List BL} {x y : BL} (h : p ++ [x] = u ++ [y]) : p = u ∧ x = y := by
  have := List.append_inj' h rfl
  exact ⟨this.1, by simpa using this.2⟩
/-- Both come to the same. -/
theorem roots_eq (old : BL) : ∀ (q m n : Nat) (p : List BL) (known : Bool) (a b : BL), n ≤ q → 1 ≤ m → m ≤ n → (bothR old m n p known = some (a, b, []) ↔ rootsI old m n p known = (a, b, true)) := by
  intro q
  induction q with
  | zero => intro m n p known a b hq hm hn; omega
  | succ q ih =>
    intro m n p known a b hq hm hn
    by_cases h1 : m = n
    · cases known with
      | true =>
        rw [bothR.eq_def, rootsI, if_pos h1, if_pos rfl, if_pos ⟨h1, rfl⟩]
        simp only [Option.some.injEq, Prod.mk.injEq, decide_eq_true_eq, List.length_eq_zero_iff]
      | false =>
        rw [bothR.eq_def, rootsI, if_pos h1, if_neg (by decide), if_neg (by simp)]
        cases p with
        | nil => simp
        | cons x p =>
          rw [dif_neg (by simp), if_pos h1]
          simp only [Option.some.injEq, Prod.mk.injEq, decide_eq_true_eq]
          cases p with
          | nil => simp
          | cons y p => simp
    · have h2 : 2 ≤ n := by omega
      have hk := first_lt h2
      have hk0 := first_pos n
      by_cases h0 : p.length = 0
      · have hp : p = [] := List.eq_nil_of_length_eq_zero h0
        subst hp
        rw [rootsI, if_neg (fun h => h1 h.1), dif_pos h0]
        constructor
        · intro h
          exfalso
          rw [bothR.eq_def, if_neg h1, dif_pos h2] at h
          split at h
          · cases hi : bothR old m (first n) [] known with
            | none => rw [hi] at h; cases h
            | some z =>
              obtain ⟨a', b', r'⟩ := z
              obtain ⟨u, hu, _⟩ := bothR_cut old n m (first n) known [] a' b' r' (by omega) hi
              have : r' = [] := (List.append_eq_nil_iff.1 hu.symm).2
              subst this
              rw [hi] at h; cases h
          · cases hi : bothR old (m - first n) (n - first n) [] false with
            | none => rw [hi] at h; cases h
            | some z =>
              obtain ⟨a', b', r'⟩ := z
              obtain ⟨u, hu, _⟩ := bothR_cut old n (m - first n) (n - first n) false [] a' b' r' (by omega) hi
              have : r' = [] := (List.append_eq_nil_iff.1 hu.symm).2
              subst this
              rw [hi] at h; cases h
        · intro h; cases h
      · rw [rootsI, if_neg (fun h => h1 h.1), dif_neg h0, if_neg h1]
        have hps := last_split h0
        generalize hu : p.take (p.length - 1) = u at *
        generalize hx : p.getD (p.length - 1) [] = x at *
        by_cases h3 : m ≤ first n
        · rw [bothR.eq_def, if_neg h1, dif_pos h2, if_pos h3, if_pos h3]
          constructor
          · intro h
            cases hi : bothR old m (first n) p known with
            | none => rw [hi] at h; cases h
            | some z =>
              obtain ⟨a', b', r'⟩ := z
              cases r' with
              | nil => rw [hi] at h; cases h
              | cons y r' =>
                rw [hi] at h
                simp only [Option.some.injEq, Prod.mk.injEq] at h
                obtain ⟨ha, hb, hr⟩ := h
                subst hr
                obtain ⟨u', hu', hv⟩ := bothR_cut old n m (first n) known p a' b' [y] (by omega) hi
                rw [hps] at hu'
                obtain ⟨e1, e2⟩ := snoc_inj hu'
                subst e1 e2
                have := (ih m (first n) u known a' b' (by omega) hm h3).1 hv
                rw [this]
                simp only [← ha, ← hb]
          · intro h
            simp only [Prod.mk.injEq] at h
            obtain ⟨ha, hb, hr⟩ := h
            have h4 : rootsI old m (first n) u known = ((rootsI old m (first n) u known).1, (rootsI old m (first n) u known).2.1, true) := by rw [← hr]
            have h5 := (ih m (first n) u known _ _ (by omega) hm h3).2 h4
            have h6 := bothR_app old n m (first n) known u [x] _ _ [] (by omega) h5
            rw [hps, h6]
            simp only [List.nil_append]
            rw [ha, hb]
        · rw [bothR.eq_def, if_neg h1, dif_pos h2, if_neg h3, if_neg h3]
          constructor
          · intro h
            cases hi : bothR old (m - first n) (n - first n) p false with
            | none => rw [hi] at h; cases h
            | some z =>
              obtain ⟨a', b', r'⟩ := z
              cases r' with
              | nil => rw [hi] at h; cases h
              | cons y r' =>
                rw [hi] at h
                simp only [Option.some.injEq, Prod.mk.injEq] at h
                obtain ⟨ha, hb, hr⟩ := h
                subst hr
                obtain ⟨u', hu', hv⟩ := bothR_cut old n (m - first n) (n - first n) false p a' b' [y] (by omega) hi
                rw [hps] at hu'
                obtain ⟨e1, e2⟩ := snoc_inj hu'
                subst e1 e2
                have := (ih (m - first n) (n - first n) u false a' b' (by omega) (by omega) (by omega)).1 hv
                rw [this]
                simp only [← ha, ← hb]
          · intro h
            simp only [Prod.mk.injEq] at h
            obtain ⟨ha, hb, hr⟩ := h
            have h4 : rootsI old (m - first n) (n - first n) u false = ((rootsI old (m - first n) (n - first n) u false).1, (rootsI old (m - first n) (n - first n) u false).2.1, true) := by rw [← hr]
            have h5 := (ih (m - first n) (n - first n) u false _ _ (by omega) (by omega) (by omega)).2 h4
            have h6 := bothR_app old n (m - first n) (n - first n) false u [x] _ _ [] (by omega) h5
            rw [hps, h6]
            simp only [List.nil_append]
            rw [ha, hb]
end Go.Proofs.Ytlkplnioaiahhaa.V
