/- Ways to a root, proofs of growth, roots by a way: both sides. Laid by a program. Roots by a way: both sides. Laid by a program. Growth shown by a proof: both sides. Growth shown by a proof, walked: both sides. -/
import Derived.Test.YtfhbglaigjekpaaGreatWz
import Derived.Test.YtfhbglaigjekpaaGreatWsa
namespace Go.Proofs.YtfhbglaigjekpaaGreat.V
open Go Go.RowKit
set_option maxRecDepth 100000
set_option maxHeartbeats 4000000
set_option linter.unusedSimpArgs false
set_option linter.unusedVariables false
set_option pp.deepTerms false
set_option pp.deepTerms.threshold 3

/-! ### ways -/
def pathOf (l : List (List UInt8)) (i : Int) : List (List UInt8) :=
  if h : 0 ≤ i ∧ i < (l.length : Int) ∧ 2 ≤ l.length ∧ l.length ≤ 40 then
    if i < (first l.length : Int) then pathOf (l.take (first l.length)) i ++ [rootOf (l.drop (first l.length))]
    else pathOf (l.drop (first l.length)) (i - first l.length) ++ [rootOf (l.take (first l.length))]
  else []
termination_by l.length
decreasing_by
  · simp only [List.length_take]; have := first_lt h.2.2.1; omega
  · simp only [List.length_drop]; have := first_pos l.length; omega
theorem pathOf_no {l : List (List UInt8)} {i : Int} (h : ¬ (0 ≤ i ∧ i < (l.length : Int) ∧ 2 ≤ l.length ∧ l.length ≤ 40)) : pathOf l i = [] := by rw [pathOf, dif_neg h]
theorem pathOf_low {l : List (List UInt8)} {i : Int} (h : 0 ≤ i ∧ i < (l.length : Int) ∧ 2 ≤ l.length ∧ l.length ≤ 40) (hk : i < (first l.length : Int)) : pathOf l i = pathOf (l.take (first l.length)) i ++ [rootOf (l.drop (first l.length))] := by rw [pathOf, dif_pos h, if_pos hk]
theorem pathOf_high {l : List (List UInt8)} {i : Int} (h : 0 ≤ i ∧ i < (l.length : Int) ∧ 2 ≤ l.length ∧ l.length ≤ 40) (hk : ¬ i < (first l.length : Int)) : pathOf l i = pathOf (l.drop (first l.length)) (i - first l.length) ++ [rootOf (l.take (first l.length))] := by rw [pathOf, dif_pos h, if_neg hk]
theorem pathOf_len (n : Nat) : ∀ (l : List (List UInt8)) (i : Int), l.length ≤ n → (pathOf l i).length ≤ l.length ∧ ∀ a ∈ pathOf l i, a.length ≤ 32 := by
  induction n with
  | zero =>
    intro l i hn
    rw [pathOf_no (by omega)]
    exact ⟨Nat.zero_le _, by simp⟩
  | succ n ih =>
    intro l i hn
    by_cases h : 0 ≤ i ∧ i < (l.length : Int) ∧ 2 ≤ l.length ∧ l.length ≤ 40
    · have hk := first_lt h.2.2.1
      have hk0 := first_pos l.length
      by_cases hi : i < (first l.length : Int)
      · rw [pathOf_low h hi]
        obtain ⟨h1, h2⟩ := ih (l.take (first l.length)) i (by simp only [List.length_take]; omega)
        simp only [List.length_take] at h1
        refine ⟨by simp only [List.length_append, List.length_cons, List.length_nil]; omega, fun a ha => ?_⟩
        rcases List.mem_append.1 ha with ha | ha
        · exact h2 a ha
        · simp only [List.mem_singleton] at ha; subst ha; exact rootOf_len _
      · rw [pathOf_high h hi]
        obtain ⟨h1, h2⟩ := ih (l.drop (first l.length)) (i - first l.length) (by simp only [List.length_drop]; omega)
        simp only [List.length_drop] at h1
        refine ⟨by simp only [List.length_append, List.length_cons, List.length_nil]; omega, fun a ha => ?_⟩
        rcases List.mem_append.1 ha with ha | ha
        · exact h2 a ha
        · simp only [List.mem_singleton] at ha; subst ha; exact rootOf_len _
    · rw [pathOf_no h]
      exact ⟨Nat.zero_le _, by simp⟩

/-! ### growths -/
def grown (l : List (List UInt8)) (m : Nat) (known : Bool) : List (List UInt8) :=
  if m = l.length then (if known = true then [] else [rootOf l]) else
  if h : 2 ≤ l.length then
    if m ≤ first l.length then grown (l.take (first l.length)) m known ++ [rootOf (l.drop (first l.length))]
    else grown (l.drop (first l.length)) (m - first l.length) false ++ [rootOf (l.take (first l.length))]
  else []
termination_by l.length
decreasing_by
  · simp only [List.length_take]; have := first_lt h; omega
  · simp only [List.length_drop]; have := first_pos l.length; omega
theorem grown_len (n : Nat) : ∀ (l : List (List UInt8)) (m : Nat) (known : Bool), l.length ≤ n → (grown l m known).length ≤ l.length + 1 ∧ ∀ a ∈ grown l m known, a.length ≤ 32 := by
  induction n with
  | zero =>
    intro l m known hn
    rw [grown]
    split
    · split
      · exact ⟨Nat.zero_le _, by simp⟩
      · exact ⟨by simp, fun a ha => by simp only [List.mem_singleton] at ha; subst ha; exact rootOf_len _⟩
    · rw [dif_neg (by omega)]
      exact ⟨Nat.zero_le _, by simp⟩
  | succ n ih =>
    intro l m known hn
    rw [grown]
    split
    · split
      · exact ⟨Nat.zero_le _, by simp⟩
      · exact ⟨by simp, fun a ha => by simp only [List.mem_singleton] at ha; subst ha; exact rootOf_len _⟩
    · by_cases h : 2 ≤ l.length
      · have hk := first_lt h
        have hk0 := first_pos l.length
        rw [dif_pos h]
        split
        · obtain ⟨h1, h2⟩ := ih (l.take (first l.length)) m known (by simp only [List.length_take]; omega)
          simp only [List.length_take] at h1
          refine ⟨by simp only [List.length_append, List.length_cons, List.length_nil]; omega, fun a ha => ?_⟩
          rcases List.mem_append.1 ha with ha | ha
          · exact h2 a ha
          · simp only [List.mem_singleton] at ha; subst ha; exact rootOf_len _
        · obtain ⟨h1, h2⟩ := ih (l.drop (first l.length)) (m - first l.length) false (by simp only [List.length_drop]; omega)
          simp only [List.length_drop] at h1
          refine ⟨by simp only [List.length_append, List.length_cons, List.length_nil]; omega, fun a ha => ?_⟩
          rcases List.mem_append.1 ha with ha | ha
          · exact h2 a ha
          · simp only [List.mem_singleton] at ha; subst ha; exact rootOf_len _
      · rw [dif_neg h]
        exact ⟨Nat.zero_le _, by simp⟩
def grownOf (l : List (List UInt8)) (m : Int) : List (List UInt8) := if 1 ≤ m ∧ m ≤ (l.length : Int) ∧ l.length ≤ 40 then grown l m.toNat true else []
theorem grownOf_len (l : List (List UInt8)) (m : Int) : (grownOf l m).length ≤ 41 ∧ ∀ a ∈ grownOf l m, a.length ≤ 32 := by
  unfold grownOf
  split
  · have := grown_len l.length l m.toNat true (Nat.le_refl _)
    exact ⟨by omega, this.2⟩
  · exact ⟨by simp, by simp⟩

theorem implPath_step (w : World) (v : Value) (l : List (List UInt8)) (i : Int) (h : lists.rd w w.heap.size [v] l) (hf : Few l)
    (ih : 2 ≤ l.length ∧ l.length ≤ 40 → ∀ (w : World) (v : Value) (l' : List (List UInt8)) (i : Int), l'.length < l.length → lists.rd w w.heap.size [v] l' → Few l' →
      ACalls Tryz.prog 103 #[v, .int .i64 i] w fun r w' => ∃ fp, Sep w.heap.size w w' [Ck.own lists fp [r] (pathOf l' i)]) :
    ACalls Tryz.prog 103 #[v, .int .i64 i] w fun r w' => ∃ fp, Sep w.heap.size w w' [Ck.own lists fp [r] (pathOf l i)] := by
  have h0 := h
  have hlm := sl_len h
  obtain ⟨A, c, rfl, hc1, hc2, ha⟩ := sl_open h
  have H := Sep.start w
  refine body_of follows Tryz.func103 rfl rfl _ rfl (by kernel_rfl) (vs ?_)
  have el : w64 ((l.length : Int) - 1) = (l.length : Int) - 1 := w64_id (by omega) (by omega)
  rw [el]
  refine x_callw (in_ok w _ _ _) ?_
  by_cases h1 : 0 ≤ i ∧ i ≤ (l.length : Int) - 1
  · refine ve h1 ?_
    refine x_callw (in_ok w _ _ _) ?_
    by_cases h2 : (2 : Int) ≤ (l.length : Int) ∧ (l.length : Int) ≤ 40
    · refine ve h2 ?_
      refine x_callw (firstOf_ok w l.length (by omega)) ?_
      have hp : 0 ≤ i ∧ i < (l.length : Int) ∧ 2 ≤ l.length ∧ l.length ≤ 40 := by omega
      have hk := first_lt hp.2.2.1
      have hk0 := first_pos l.length
      have hlow := fun hk => pathOf_low hp hk
      have hhigh := fun hk => pathOf_high hp hk
      have ih := ih hp.2.2
      generalize first l.length = k at *
      by_cases hi : i < (k : Int)
      · refine ve hi ?_
        rw [hlow hi]
        refine draw_of [(0, true), (1, true), (2, true), (3, true), (5, true), (6, true), (7, true), (4, false), (8, false), (9, false), (10, false), (11, true)] w.heap.size [] fun w3 hh hb3 => vs ?_
        have H := H.go (hb3 _)
        have H3 := H
        refine q_to (wr := w) sl26 rfl h0 (Nat.le_of_lt hk) fun v1 hv1 => vs ?_
        refine q_from (wr := w) sl26 rfl h0 (Nat.le_of_lt hk) fun v2 hv2 => vs ?_
        refine x_callf H (ih w3 v1 _ i (by simp only [List.length_take]; omega) (H.rd hv1) (hf.take k)) fun r4 f4 w4 H => vs ?_
        refine ⟨kept_base H3 H, ?_⟩
        refine x_callf H (implRoot_ok (l.drop k).length w4 v2 _ (Nat.le_refl _) (H.rd hv2) (hf.drop k)) fun r5 f5 w5 H => vs ?_
        refine ⟨kept_base H3 H, ?_⟩
        refine x_lst1 sl26 H (cells_one (Kd.one _ (H.own (.head _)) _ (by simp))) rfl fun f6 v6 w6 H => vs ?_
        refine ⟨kept_base H3 H, ?_⟩
        have hpl := (pathOf_len (l.take k).length (l.take k) i (Nat.le_refl _)).1
        simp only [List.length_take] at hpl
        refine x_appO sl26 H rfl ?_ ?_ fun f7 v7 w7 H => vs ?_
        · simp only [List.length_cons, List.length_nil]; omega
        · simp only [List.length_cons, List.length_nil]; omega
        exact ⟨kept_base H3 H, _, H⟩
      · refine ve hi ?_
        rw [hhigh hi]
        have es : w64 (i - (k : Int)) = i - (k : Int) := w64_id (by omega) (by omega)
        refine draw_of [(0, true), (1, true), (2, true), (3, true), (4, true), (5, true), (7, true), (8, true), (9, true), (6, false), (10, false), (11, false), (12, false), (13, true)] w.heap.size [] fun w3 hh hb3 => ve es ?_
        have H := H.go (hb3 _)
        have H3 := H
        refine q_from (wr := w) sl26 rfl h0 (Nat.le_of_lt hk) fun v2 hv2 => ve es ?_
        refine q_to (wr := w) sl26 rfl h0 (Nat.le_of_lt hk) fun v1 hv1 => ve es ?_
        refine x_callf H (ih w3 v2 _ (i - (k : Int)) (by simp only [List.length_drop]; omega) (H.rd hv2) (hf.drop k)) fun r4 f4 w4 H => vs ?_
        refine ⟨kept_base H3 H, ?_⟩
        refine x_callf H (implRoot_ok (l.take k).length w4 v1 _ (Nat.le_refl _) (H.rd hv1) (hf.take k)) fun r5 f5 w5 H => vs ?_
        refine ⟨kept_base H3 H, ?_⟩
        refine x_lst1 sl26 H (cells_one (Kd.one _ (H.own (.head _)) _ (by simp))) rfl fun f6 v6 w6 H => vs ?_
        refine ⟨kept_base H3 H, ?_⟩
        have hpl := (pathOf_len (l.drop k).length (l.drop k) (i - k) (Nat.le_refl _)).1
        simp only [List.length_drop] at hpl
        refine x_appO sl26 H rfl ?_ ?_ fun f7 v7 w7 H => vs ?_
        · simp only [List.length_cons, List.length_nil]; omega
        · simp only [List.length_cons, List.length_nil]; omega
        exact ⟨kept_base H3 H, _, H⟩
    · refine ve h2 ?_
      rw [pathOf_no (by omega)]
      exact ⟨_, H.nothing (sl_zero w)⟩
  · refine ve h1 ?_
    rw [pathOf_no (by omega)]
    exact ⟨_, H.nothing (sl_zero w)⟩
theorem implPath_ok : ∀ (n : Nat) (w : World) (v : Value) (l : List (List UInt8)) (i : Int) (_ : l.length ≤ n) (_ : lists.rd w w.heap.size [v] l) (_ : Few l),
    ACalls Tryz.prog 103 #[v, .int .i64 i] w fun r w' => ∃ fp, Sep w.heap.size w w' [Ck.own lists fp [r] (pathOf l i)]
  | 0, w, v, l, i, hn, h, hf => implPath_step w v l i h hf fun h2 => by omega
  | n + 1, w, v, l, i, hn, h, hf => implPath_step w v l i h hf fun h2 w' v' l' i' hl' h' hf' => implPath_ok n w' v' l' i' (by omega) h' hf'

theorem specPath_step (w : World) (v : Value) (l : List (List UInt8)) (i : Int) (h : lists.rd w w.heap.size [v] l) (hf : Few l)
    (ih : 2 ≤ l.length ∧ l.length ≤ 40 → ∀ (w : World) (v : Value) (l' : List (List UInt8)) (i : Int), l'.length < l.length → lists.rd w w.heap.size [v] l' → Few l' →
      ACalls Tryz.prog 104 #[v, .int .i64 i] w fun r w' => ∃ fp, Sep w.heap.size w w' [Ck.own lists fp [r] (pathOf l' i)]) :
    ACalls Tryz.prog 104 #[v, .int .i64 i] w fun r w' => ∃ fp, Sep w.heap.size w w' [Ck.own lists fp [r] (pathOf l i)] := by
  have h0 := h
  have hlm := sl_len h
  obtain ⟨A, c, rfl, hc1, hc2, ha⟩ := sl_open h
  have H := Sep.start w
  refine body_of follows Tryz.func104 rfl rfl _ rfl (by kernel_rfl) (vs ?_)
  have el : w64 ((l.length : Int) - 1) = (l.length : Int) - 1 := w64_id (by omega) (by omega)
  rw [el]
  refine x_callw (l1In_ok w _ _ _) ?_
  by_cases h1 : 0 ≤ i ∧ i ≤ (l.length : Int) - 1
  · refine ve h1 ?_
    by_cases h2 : (2 : Int) ≤ (l.length : Int) ∧ (l.length : Int) ≤ 40
    · have q1 : ¬ ((40 : Int) < (l.length : Int)) := by omega
      have q2 : ((l.length : Int) = 1) = False := eq_false (by omega)
      refine ve (And.intro h1 (And.intro q1 q2)) ?_
      refine x_callw (half_ok w l.length (by omega)) ?_
      have hp : 0 ≤ i ∧ i < (l.length : Int) ∧ 2 ≤ l.length ∧ l.length ≤ 40 := by omega
      have hk := first_lt hp.2.2.1
      have hk0 := first_pos l.length
      have hlow := fun hk => pathOf_low hp hk
      have hhigh := fun hk => pathOf_high hp hk
      have ih := ih hp.2.2
      generalize first l.length = k at *
      by_cases hi : i < (k : Int)
      · refine ve hi ?_
        rw [hlow hi]
        refine draw_of [(0, true), (1, true), (2, true), (3, true), (5, true), (6, true), (7, true), (4, false), (8, false), (9, false), (10, false), (11, true)] w.heap.size [] fun w3 hh hb3 => vs ?_
        have H := H.go (hb3 _)
        have H3 := H
        refine q_to (wr := w) sl26 rfl h0 (Nat.le_of_lt hk) fun v1 hv1 => vs ?_
        refine q_from (wr := w) sl26 rfl h0 (Nat.le_of_lt hk) fun v2 hv2 => vs ?_
        refine x_callf H (ih w3 v1 _ i (by simp only [List.length_take]; omega) (H.rd hv1) (hf.take k)) fun r4 f4 w4 H => vs ?_
        refine ⟨kept_base H3 H, ?_⟩
        refine x_callf H (specRoot_ok (l.drop k).length w4 v2 _ (Nat.le_refl _) (H.rd hv2) (hf.drop k)) fun r5 f5 w5 H => vs ?_
        refine ⟨kept_base H3 H, ?_⟩
        refine x_lst1 sl26 H (cells_one (Kd.one _ (H.own (.head _)) _ (by simp))) rfl fun f6 v6 w6 H => vs ?_
        refine ⟨kept_base H3 H, ?_⟩
        have hpl := (pathOf_len (l.take k).length (l.take k) i (Nat.le_refl _)).1
        simp only [List.length_take] at hpl
        refine x_appO sl26 H rfl ?_ ?_ fun f7 v7 w7 H => vs ?_
        · simp only [List.length_cons, List.length_nil]; omega
        · simp only [List.length_cons, List.length_nil]; omega
        exact ⟨kept_base H3 H, _, H⟩
      · refine ve hi ?_
        rw [hhigh hi]
        have es : w64 (i - (k : Int)) = i - (k : Int) := w64_id (by omega) (by omega)
        refine draw_of [(0, true), (1, true), (2, true), (3, true), (4, true), (5, true), (7, true), (8, true), (9, true), (6, false), (10, false), (11, false), (12, false), (13, true)] w.heap.size [] fun w3 hh hb3 => ve es ?_
        have H := H.go (hb3 _)
        have H3 := H
        refine q_from (wr := w) sl26 rfl h0 (Nat.le_of_lt hk) fun v2 hv2 => ve es ?_
        refine q_to (wr := w) sl26 rfl h0 (Nat.le_of_lt hk) fun v1 hv1 => ve es ?_
        refine x_callf H (ih w3 v2 _ (i - (k : Int)) (by simp only [List.length_drop]; omega) (H.rd hv2) (hf.drop k)) fun r4 f4 w4 H => vs ?_
        refine ⟨kept_base H3 H, ?_⟩
        refine x_callf H (specRoot_ok (l.take k).length w4 v1 _ (Nat.le_refl _) (H.rd hv1) (hf.take k)) fun r5 f5 w5 H => vs ?_
        refine ⟨kept_base H3 H, ?_⟩
        refine x_lst1 sl26 H (cells_one (Kd.one _ (H.own (.head _)) _ (by simp))) rfl fun f6 v6 w6 H => vs ?_
        refine ⟨kept_base H3 H, ?_⟩
        have hpl := (pathOf_len (l.drop k).length (l.drop k) (i - k) (Nat.le_refl _)).1
        simp only [List.length_drop] at hpl
        refine x_appO sl26 H rfl ?_ ?_ fun f7 v7 w7 H => vs ?_
        · simp only [List.length_cons, List.length_nil]; omega
        · simp only [List.length_cons, List.length_nil]; omega
        exact ⟨kept_base H3 H, _, H⟩
    · rw [pathOf_no (by omega)]
      by_cases q1 : ((40 : Int) < (l.length : Int))
      · refine ve (And.intro h1 q1) ?_
        refine x_empO (d := bytes 5) H sl26 fun g w1 H => vs ?_
        exact ⟨_, H⟩
      · have q2 : ((l.length : Int) = 1) = True := eq_true (by omega)
        refine ve (And.intro h1 (And.intro q1 q2)) ?_
        refine x_empO (d := bytes 5) H sl26 fun g w1 H => vs ?_
        exact ⟨_, H⟩
  · refine ve h1 ?_
    rw [pathOf_no (by omega)]
    refine x_empO (d := bytes 5) H sl26 fun g w1 H => vs ?_
    exact ⟨_, H⟩
theorem specPath_ok : ∀ (n : Nat) (w : World) (v : Value) (l : List (List UInt8)) (i : Int) (_ : l.length ≤ n) (_ : lists.rd w w.heap.size [v] l) (_ : Few l),
    ACalls Tryz.prog 104 #[v, .int .i64 i] w fun r w' => ∃ fp, Sep w.heap.size w w' [Ck.own lists fp [r] (pathOf l i)]
  | 0, w, v, l, i, hn, h, hf => specPath_step w v l i h hf fun h2 => by omega
  | n + 1, w, v, l, i, hn, h, hf => specPath_step w v l i h hf fun h2 w' v' l' i' hl' h' hf' => specPath_ok n w' v' l' i' (by omega) h' hf'

theorem implGrown_ok : ∀ (n : Nat) (w : World) (v : Value) (l : List (List UInt8)) (m : Nat) (known : Bool) (_ : l.length ≤ n) (_ : l.length ≤ 40) (_ : 1 ≤ m) (_ : m ≤ l.length) (_ : lists.rd w w.heap.size [v] l) (_ : Few l),
    ACalls Tryz.prog 178 #[v, .int .i64 (m : Int), .bool known] w fun r w' => ∃ fp, Sep w.heap.size w w' [Ck.own lists fp [r] (grown l m known)] := by
  intro n
  induction n with
  | zero => intro w v l m known hn h40 hm1 hm2 h hf; omega
  | succ n ih =>
    intro w v l m known hn h40 hm1 hm2 h hf
    have h0 := h
    obtain ⟨A, c, rfl, hc1, hc2, ha⟩ := sl_open h
    have H := Sep.start w
    refine body_of follows Tryz.func178 rfl rfl _ rfl (by kernel_rfl) ?_
    by_cases he : m = l.length
    · have e0 : ((m : Int) = (l.length : Int)) = True := eq_true (by omega)
      cases known with
      | true =>
        refine ve e0 ?_
        have e : grown l m true = [] := by rw [grown, if_pos he, if_pos rfl]
        rw [e]
        exact ⟨_, H.nothing (sl_zero w)⟩
      | false =>
        refine ve e0 ?_
        have e : grown l m false = [rootOf l] := by rw [grown, if_pos he, if_neg (by decide)]
        rw [e]
        refine x_callf H (implRoot_ok l.length w _ l (Nat.le_refl _) h0 hf) fun r5 f5 w5 H => vs ?_
        refine x_lst1 sl26 H (cells_one (Kd.one _ (H.own (.head _)) _ (by simp))) rfl fun f6 v6 w6 H => vs ?_
        exact ⟨_, H⟩
    have e0 : ((m : Int) = (l.length : Int)) = False := eq_false (by omega)
    refine ve e0 ?_
    refine x_callw (firstOf_ok w l.length (by omega)) ?_
    have h2 : 2 ≤ l.length := by omega
    have hk := first_lt h2
    have hk0 := first_pos l.length
    have hu : grown l m known = if m ≤ first l.length then grown (l.take (first l.length)) m known ++ [rootOf (l.drop (first l.length))]
    else grown (l.drop (first l.length)) (m - first l.length) false ++ [rootOf (l.take (first l.length))] := by rw [grown, if_neg he, dif_pos h2]
    rw [hu]
    generalize first l.length = k at *
    by_cases hi : m ≤ k
    · have e1 : ((m : Int) ≤ (k : Int)) := by omega
      refine ve e1 ?_
      rw [if_pos hi]
      refine draw_of [(0, true), (1, true), (2, true), (3, true), (4, true), (6, true), (7, true), (8, true), (5, false), (9, false), (10, false), (11, false), (12, true)] w.heap.size [] fun w3 hh hb3 => vs ?_
      have H := H.go (hb3 _)
      have H3 := H
      refine q_to (wr := w) sl26 rfl h0 (Nat.le_of_lt hk) fun v1 hv1 => vs ?_
      refine q_from (wr := w) sl26 rfl h0 (Nat.le_of_lt hk) fun v2 hv2 => vs ?_
      refine x_callf H (ih w3 v1 _ m known (by simp only [List.length_take]; omega) (by simp only [List.length_take]; omega) hm1 (by simp only [List.length_take]; omega) (H.rd hv1) (hf.take k)) fun r4 f4 w4 H => vs ?_
      refine ⟨kept_base H3 H, ?_⟩
      refine x_callf H (implRoot_ok (l.drop k).length w4 v2 _ (Nat.le_refl _) (H.rd hv2) (hf.drop k)) fun r5 f5 w5 H => vs ?_
      refine ⟨kept_base H3 H, ?_⟩
      refine x_lst1 sl26 H (cells_one (Kd.one _ (H.own (.head _)) _ (by simp))) rfl fun f6 v6 w6 H => vs ?_
      refine ⟨kept_base H3 H, ?_⟩
      have hpl := (grown_len (l.take k).length (l.take k) m known (Nat.le_refl _)).1
      simp only [List.length_take] at hpl
      refine x_appO sl26 H rfl ?_ ?_ fun f7 v7 w7 H => vs ?_
      · simp only [List.length_cons, List.length_nil]; omega
      · simp only [List.length_cons, List.length_nil]; omega
      exact ⟨kept_base H3 H, _, H⟩
    · have e1 : ¬ ((m : Int) ≤ (k : Int)) := by omega
      refine ve e1 ?_
      rw [if_neg hi]
      have es : w64 ((m : Int) - (k : Int)) = ((m - k : Nat) : Int) := by unfold w64; omega
      refine draw_of [(0, true), (1, true), (2, true), (3, true), (4, true), (5, true), (7, true), (8, true), (9, true), (6, false), (10, false), (11, false), (12, false), (13, true)] w.heap.size [] fun w3 hh hb3 => ve es ?_
      have H := H.go (hb3 _)
      have H3 := H
      refine q_from (wr := w) sl26 rfl h0 (Nat.le_of_lt hk) fun v2 hv2 => ve es ?_
      refine q_to (wr := w) sl26 rfl h0 (Nat.le_of_lt hk) fun v1 hv1 => ve es ?_
      refine x_callf H (ih w3 v2 _ (m - k) false (by simp only [List.length_drop]; omega) (by simp only [List.length_drop]; omega) (by omega) (by simp only [List.length_drop]; omega) (H.rd hv2) (hf.drop k)) fun r4 f4 w4 H => vs ?_
      refine ⟨kept_base H3 H, ?_⟩
      refine x_callf H (implRoot_ok (l.take k).length w4 v1 _ (Nat.le_refl _) (H.rd hv1) (hf.take k)) fun r5 f5 w5 H => vs ?_
      refine ⟨kept_base H3 H, ?_⟩
      refine x_lst1 sl26 H (cells_one (Kd.one _ (H.own (.head _)) _ (by simp))) rfl fun f6 v6 w6 H => vs ?_
      refine ⟨kept_base H3 H, ?_⟩
      have hpl := (grown_len (l.drop k).length (l.drop k) (m - k) false (Nat.le_refl _)).1
      simp only [List.length_drop] at hpl
      refine x_appO sl26 H rfl ?_ ?_ fun f7 v7 w7 H => vs ?_
      · simp only [List.length_cons, List.length_nil]; omega
      · simp only [List.length_cons, List.length_nil]; omega
      exact ⟨kept_base H3 H, _, H⟩

theorem implGrownOf_ok (w : World) (v : Value) (l : List (List UInt8)) (m : Int) (h : lists.rd w w.heap.size [v] l) (hf : Few l) :
    ACalls Tryz.prog 110 #[v, .int .i64 m] w fun r w' => ∃ fp, Sep w.heap.size w w' [Ck.own lists fp [r] (grownOf l m)] := by
  have h0 := h
  obtain ⟨A, c, rfl, hc1, hc2, ha⟩ := sl_open h
  have H := Sep.start w
  refine body_of follows Tryz.func110 rfl rfl _ rfl (by kernel_rfl) ?_
  by_cases h40 : (40 : Int) < (l.length : Int)
  · have e : grownOf l m = [] := by unfold grownOf; rw [if_neg (by omega)]
    rw [e]
    refine vs ?_
    refine x_callw (in_ok w _ _ _) ?_
    by_cases h1 : 1 ≤ m ∧ m ≤ (l.length : Int)
    · refine ve (And.intro h1 h40) ?_
      exact ⟨_, H.nothing (sl_zero w)⟩
    · refine ve h1 ?_
      exact ⟨_, H.nothing (sl_zero w)⟩
  · refine vs ?_
    refine x_callw (in_ok w _ _ _) ?_
    by_cases h1 : 1 ≤ m ∧ m ≤ (l.length : Int)
    · refine ve (And.intro h1 h40) ?_
      have e : grownOf l m = grown l m.toNat true := by unfold grownOf; rw [if_pos (by omega)]
      rw [e]
      obtain ⟨q, rfl⟩ : ∃ q : Nat, m = (q : Int) := ⟨m.toNat, by omega⟩
      refine x_callf H (implGrown_ok l.length w _ l q true (Nat.le_refl _) (by omega) (by omega) (by omega) h0 hf) fun r1 f1 w1 H => vs ?_
      exact ⟨_, H⟩
    · refine ve h1 ?_
      have e : grownOf l m = [] := by unfold grownOf; rw [if_neg (by omega)]
      rw [e]
      exact ⟨_, H.nothing (sl_zero w)⟩

theorem specGrown_ok : ∀ (n : Nat) (w : World) (v : Value) (l : List (List UInt8)) (m : Nat) (known : Bool) (_ : l.length ≤ n) (_ : l.length ≤ 40) (_ : 1 ≤ m) (_ : m ≤ l.length) (_ : lists.rd w w.heap.size [v] l) (_ : Few l),
    ACalls Tryz.prog 179 #[v, .int .i64 (m : Int), .bool known] w fun r w' => ∃ fp, Sep w.heap.size w w' [Ck.own lists fp [r] (grown l m known)] := by
  intro n
  induction n with
  | zero => intro w v l m known hn h40 hm1 hm2 h hf; omega
  | succ n ih =>
    intro w v l m known hn h40 hm1 hm2 h hf
    have h0 := h
    obtain ⟨A, c, rfl, hc1, hc2, ha⟩ := sl_open h
    have H := Sep.start w
    refine body_of follows Tryz.func179 rfl rfl _ rfl (by kernel_rfl) ?_
    by_cases he : m = l.length
    · have e0 : ((m : Int) = (l.length : Int)) = True := eq_true (by omega)
      cases known with
      | true =>
        refine ve e0 ?_
        have e : grown l m true = [] := by rw [grown, if_pos he, if_pos rfl]
        rw [e]
        refine x_empO (d := bytes 5) H sl26 fun g w1 H => vs ?_
        exact ⟨_, H⟩
      | false =>
        refine ve e0 ?_
        have e : grown l m false = [rootOf l] := by rw [grown, if_pos he, if_neg (by decide)]
        rw [e]
        refine x_callf H (specRoot_ok l.length w _ l (Nat.le_refl _) h0 hf) fun r5 f5 w5 H => vs ?_
        refine x_lst1 sl26 H (cells_one (Kd.one _ (H.own (.head _)) _ (by simp))) rfl fun f6 v6 w6 H => vs ?_
        exact ⟨_, H⟩
    have e0 : ((m : Int) = (l.length : Int)) = False := eq_false (by omega)
    refine ve e0 ?_
    refine x_callw (half_ok w l.length (by omega)) ?_
    have h2 : 2 ≤ l.length := by omega
    have hk := first_lt h2
    have hk0 := first_pos l.length
    have hu : grown l m known = if m ≤ first l.length then grown (l.take (first l.length)) m known ++ [rootOf (l.drop (first l.length))]
    else grown (l.drop (first l.length)) (m - first l.length) false ++ [rootOf (l.take (first l.length))] := by rw [grown, if_neg he, dif_pos h2]
    rw [hu]
    generalize first l.length = k at *
    by_cases hi : m ≤ k
    · have e1 : ((m : Int) ≤ (k : Int)) := by omega
      refine ve e1 ?_
      rw [if_pos hi]
      refine draw_of [(0, true), (1, true), (2, true), (3, true), (4, true), (6, true), (7, true), (8, true), (5, false), (9, false), (10, false), (11, false), (12, true)] w.heap.size [] fun w3 hh hb3 => vs ?_
      have H := H.go (hb3 _)
      have H3 := H
      refine q_to (wr := w) sl26 rfl h0 (Nat.le_of_lt hk) fun v1 hv1 => vs ?_
      refine q_from (wr := w) sl26 rfl h0 (Nat.le_of_lt hk) fun v2 hv2 => vs ?_
      refine x_callf H (ih w3 v1 _ m known (by simp only [List.length_take]; omega) (by simp only [List.length_take]; omega) hm1 (by simp only [List.length_take]; omega) (H.rd hv1) (hf.take k)) fun r4 f4 w4 H => vs ?_
      refine ⟨kept_base H3 H, ?_⟩
      refine x_callf H (specRoot_ok (l.drop k).length w4 v2 _ (Nat.le_refl _) (H.rd hv2) (hf.drop k)) fun r5 f5 w5 H => vs ?_
      refine ⟨kept_base H3 H, ?_⟩
      refine x_lst1 sl26 H (cells_one (Kd.one _ (H.own (.head _)) _ (by simp))) rfl fun f6 v6 w6 H => vs ?_
      refine ⟨kept_base H3 H, ?_⟩
      have hpl := (grown_len (l.take k).length (l.take k) m known (Nat.le_refl _)).1
      simp only [List.length_take] at hpl
      refine x_appO sl26 H rfl ?_ ?_ fun f7 v7 w7 H => vs ?_
      · simp only [List.length_cons, List.length_nil]; omega
      · simp only [List.length_cons, List.length_nil]; omega
      exact ⟨kept_base H3 H, _, H⟩
    · have e1 : ¬ ((m : Int) ≤ (k : Int)) := by omega
      refine ve e1 ?_
      rw [if_neg hi]
      have es : w64 ((m : Int) - (k : Int)) = ((m - k : Nat) : Int) := by unfold w64; omega
      refine draw_of [(0, true), (1, true), (2, true), (3, true), (4, true), (5, true), (7, true), (8, true), (9, true), (6, false), (10, false), (11, false), (12, false), (13, true)] w.heap.size [] fun w3 hh hb3 => ve es ?_
      have H := H.go (hb3 _)
      have H3 := H
      refine q_from (wr := w) sl26 rfl h0 (Nat.le_of_lt hk) fun v2 hv2 => ve es ?_
      refine q_to (wr := w) sl26 rfl h0 (Nat.le_of_lt hk) fun v1 hv1 => ve es ?_
      refine x_callf H (ih w3 v2 _ (m - k) false (by simp only [List.length_drop]; omega) (by simp only [List.length_drop]; omega) (by omega) (by simp only [List.length_drop]; omega) (H.rd hv2) (hf.drop k)) fun r4 f4 w4 H => vs ?_
      refine ⟨kept_base H3 H, ?_⟩
      refine x_callf H (specRoot_ok (l.take k).length w4 v1 _ (Nat.le_refl _) (H.rd hv1) (hf.take k)) fun r5 f5 w5 H => vs ?_
      refine ⟨kept_base H3 H, ?_⟩
      refine x_lst1 sl26 H (cells_one (Kd.one _ (H.own (.head _)) _ (by simp))) rfl fun f6 v6 w6 H => vs ?_
      refine ⟨kept_base H3 H, ?_⟩
      have hpl := (grown_len (l.drop k).length (l.drop k) (m - k) false (Nat.le_refl _)).1
      simp only [List.length_drop] at hpl
      refine x_appO sl26 H rfl ?_ ?_ fun f7 v7 w7 H => vs ?_
      · simp only [List.length_cons, List.length_nil]; omega
      · simp only [List.length_cons, List.length_nil]; omega
      exact ⟨kept_base H3 H, _, H⟩

theorem specGrownOf_ok (w : World) (v : Value) (l : List (List UInt8)) (m : Int) (h : lists.rd w w.heap.size [v] l) (hf : Few l) :
    ACalls Tryz.prog 111 #[v, .int .i64 m] w fun r w' => ∃ fp, Sep w.heap.size w w' [Ck.own lists fp [r] (grownOf l m)] := by
  have h0 := h
  obtain ⟨A, c, rfl, hc1, hc2, ha⟩ := sl_open h
  have H := Sep.start w
  refine body_of follows Tryz.func111 rfl rfl _ rfl (by kernel_rfl) ?_
  by_cases h40 : (40 : Int) < (l.length : Int)
  · have e : grownOf l m = [] := by unfold grownOf; rw [if_neg (by omega)]
    rw [e]
    refine ve h40 ?_
    refine x_empO (d := bytes 5) H sl26 fun g w1 H => vs ?_
    exact ⟨_, H⟩
  · refine ve h40 ?_
    refine x_callw (l1In_ok w _ _ _) ?_
    by_cases h1 : 1 ≤ m ∧ m ≤ (l.length : Int)
    · refine ve h1 ?_
      have e : grownOf l m = grown l m.toNat true := by unfold grownOf; rw [if_pos (by omega)]
      rw [e]
      obtain ⟨q, rfl⟩ : ∃ q : Nat, m = (q : Int) := ⟨m.toNat, by omega⟩
      refine x_callf H (specGrown_ok l.length w _ l q true (Nat.le_refl _) (by omega) (by omega) (by omega) h0 hf) fun r1 f1 w1 H => vs ?_
      exact ⟨_, H⟩
    · refine ve h1 ?_
      have e : grownOf l m = [] := by unfold grownOf; rw [if_neg (by omega)]
      rw [e]
      refine x_empO (d := bytes 5) H sl26 fun g w1 H => vs ?_
      exact ⟨_, H⟩

theorem few_sm {l : List (List UInt8)} (h : l.length ≤ 1048576 ∧ ∀ y ∈ l, y.length ≤ 1048576) : Few l := fun a ha => Nat.le_trans (h.2 a ha) (by omega)
theorem implRootOf_ok (w : World) (v : Value) (l : List (List UInt8)) (h : lists.rd w w.heap.size [v] l) (hf : Few l) :
    ACalls Tryz.prog 115 #[v] w fun r w' => ∃ fp, Sep w.heap.size w w' [Ck.own (bytes 5) fp [r] (rootOf l)] := implRoot_ok l.length w v l (Nat.le_refl _) h hf
theorem implPathOf_ok (w : World) (v : Value) (l : List (List UInt8)) (i : Int) (h : lists.rd w w.heap.size [v] l) (hf : Few l) :
    ACalls Tryz.prog 103 #[v, .int .i64 i] w fun r w' => ∃ fp, Sep w.heap.size w w' [Ck.own lists fp [r] (pathOf l i)] := implPath_ok l.length w v l i (Nat.le_refl _) h hf
theorem specRootOf_ok (w : World) (v : Value) (l : List (List UInt8)) (h : lists.rd w w.heap.size [v] l) (hf : Few l) :
    ACalls Tryz.prog 116 #[v] w fun r w' => ∃ fp, Sep w.heap.size w w' [Ck.own (bytes 5) fp [r] (rootOf l)] := specRoot_ok l.length w v l (Nat.le_refl _) h hf
theorem specPathOf_ok (w : World) (v : Value) (l : List (List UInt8)) (i : Int) (h : lists.rd w w.heap.size [v] l) (hf : Few l) :
    ACalls Tryz.prog 104 #[v, .int .i64 i] w fun r w' => ∃ fp, Sep w.heap.size w w' [Ck.own lists fp [r] (pathOf l i)] := specPath_ok l.length w v l i (Nat.le_refl _) h hf

def rootByP (leaf : List UInt8) (i n : Nat) (path : List (List UInt8)) : Option (List UInt8) :=
  if n = 1 then (if path.length = 0 then some leaf else none) else
  if h : path.length = 0 then none else
  if i < first n then (rootByP leaf i (first n) (path.take (path.length - 1))).map fun r => nodeOf r (path.getD (path.length - 1) [])
  else (rootByP leaf (i - first n) (n - first n) (path.take (path.length - 1))).map fun r => nodeOf (path.getD (path.length - 1) []) r
termination_by path.length
decreasing_by
  all_goals (simp only [List.length_take]; omega)
def rootBy (leaf : List UInt8) (i n : Int) (path : List (List UInt8)) : Option (List UInt8) := if 0 ≤ i ∧ i < n ∧ n ≤ 40 then rootByP leaf i.toNat n.toNat path else none
theorem rootByP_len (leaf : List UInt8) : ∀ (k i n : Nat) (path : List (List UInt8)), path.length ≤ k → ∀ r, rootByP leaf i n path = some r → r.length ≤ leaf.length + 32 := by
  intro k
  induction k with
  | zero =>
    intro i n path hk r hr
    rw [rootByP] at hr
    have h0 : path.length = 0 := by omega
    split at hr
    · cases hr; omega
    · cases hr
  | succ k ih =>
    intro i n path hk r hr
    rw [rootByP] at hr
    split at hr
    · split at hr
      · cases hr; omega
      · cases hr
    · split at hr
      · cases hr
      · split at hr
        · obtain ⟨q, _, rfl⟩ := Option.map_eq_some_iff.1 hr
          have := nodeOf_len q (path.getD (path.length - 1) []); omega
        · obtain ⟨q, _, rfl⟩ := Option.map_eq_some_iff.1 hr
          have := nodeOf_len (path.getD (path.length - 1) []) q; omega
theorem rootBy_len (leaf : List UInt8) (i n : Int) (path : List (List UInt8)) : ((rootBy leaf i n path).getD []).length ≤ leaf.length + 32 := by
  unfold rootBy
  split
  · cases h : rootByP leaf i.toNat n.toNat path with
    | none => simp
    | some r => exact rootByP_len leaf _ _ _ _ (Nat.le_refl _) r h
  · simp
def Few' (l : List (List UInt8)) : Prop := ∀ a ∈ l, a.length ≤ 1073741824
theorem Few'.take {l : List (List UInt8)} (h : Few' l) (k : Nat) : Few' (l.take k) := fun a ha => h a (List.mem_of_mem_take ha)
theorem few_sm' {l : List (List UInt8)} (h : l.length ≤ 1048576 ∧ ∀ y ∈ l, y.length ≤ 1048576) : Few' l := fun a ha => Nat.le_trans (h.2 a ha) (by omega)
theorem getDN {l : List (List UInt8)} {i : Nat} (h : i < l.length) : l[i] = l.getD i [] := by rw [List.getD_eq_getElem?_getD, List.getElem?_eq_getElem h, Option.getD_some]

theorem implRB_ok : ∀ (q : Nat) (w : World) (v u : Value) (leaf : List UInt8) (i n : Nat) (path : List (List UInt8)) (_ : path.length ≤ q) (_ : i < n) (_ : n ≤ 40) (_ : leaf.length ≤ 1073741824) (_ : Few' path) (_ : (bytes 5).rd w w.heap.size [v] leaf) (_ : lists.rd w w.heap.size [u] path),
    ACalls Tryz.prog 46 #[v, .int .i64 (i : Int), .int .i64 (n : Int), u] w fun r w' => ∃ v fp, r = .tuple #[v, .bool (rootByP leaf i n path).isSome] ∧ Sep w.heap.size w w' [Ck.own (bytes 5) fp [v] ((rootByP leaf i n path).getD [])] := by
  intro q
  induction q with
  | zero =>
    intro w v u leaf i n path hq hin hn hlf hfw h h'
    have hp0 : path.length = 0 := by omega
    have h0 := h'
    obtain ⟨A, c, rfl, hc1, hc2, ha⟩ := sl_open h'
    have H := Sep.start w
    refine body_of follows Tryz.func46 rfl rfl _ rfl (by kernel_rfl) ?_
    have e1 : ¬ ((i : Int) < 0) := by omega
    have e2 : ¬ ((n : Int) ≤ (i : Int)) := by omega
    have e3 : ¬ ((40 : Int) < (n : Int)) := by omega
    have E := And.intro e1 (And.intro e2 e3)
    by_cases hn1 : n = 1
    · have en : ((n : Int) = 1) = True := eq_true (by omega)
      have ep : ((path.length : Int) = 0) = True := eq_true (by omega)
      refine ve (And.intro E (And.intro en ep)) ?_
      have em : rootByP leaf i n path = some leaf := by rw [rootByP, if_pos hn1, if_pos hp0]
      rw [em]
      refine x_lstR (d := bytes 5) H sl26 rfl [_] [leaf] ⟨h, trivial⟩ fun g2 w2 H hr => vs ?_
      have e : [leaf].flatten = leaf := by simp
      refine x_callf H (joined_ok w2 _ _ hr (by rw [e]; omega)) fun r3 f3 w3 H => vs ?_
      rw [e] at H
      exact ⟨_, _, rfl, H.head⟩
    have en : ((n : Int) = 1) = False := eq_false (by omega)
    have ep : ((path.length : Int) = 0) = True := eq_true (by omega)
    refine ve (And.intro E (And.intro en ep)) ?_
    have em : rootByP leaf i n path = none := by rw [rootByP, if_neg hn1, dif_pos hp0]
    rw [em]
    exact ⟨_, _, rfl, (H.nothing (sl_zero w)).head⟩
  | succ q ih =>
    intro w v u leaf i n path hq hin hn hlf hfw h h'
    have h0 := h'
    obtain ⟨A, c, rfl, hc1, hc2, ha⟩ := sl_open h'
    have H := Sep.start w
    refine body_of follows Tryz.func46 rfl rfl _ rfl (by kernel_rfl) ?_
    have e1 : ¬ ((i : Int) < 0) := by omega
    have e2 : ¬ ((n : Int) ≤ (i : Int)) := by omega
    have e3 : ¬ ((40 : Int) < (n : Int)) := by omega
    have E := And.intro e1 (And.intro e2 e3)
    by_cases hp0 : path.length = 0
    · have hskip := trivial
      by_cases hn1 : n = 1
      · have en : ((n : Int) = 1) = True := eq_true (by omega)
        have ep : ((path.length : Int) = 0) = True := eq_true (by omega)
        refine ve (And.intro E (And.intro en ep)) ?_
        have em : rootByP leaf i n path = some leaf := by rw [rootByP, if_pos hn1, if_pos hp0]
        rw [em]
        refine x_lstR (d := bytes 5) H sl26 rfl [_] [leaf] ⟨h, trivial⟩ fun g2 w2 H hr => vs ?_
        have e : [leaf].flatten = leaf := by simp
        refine x_callf H (joined_ok w2 _ _ hr (by rw [e]; omega)) fun r3 f3 w3 H => vs ?_
        rw [e] at H
        exact ⟨_, _, rfl, H.head⟩
      have en : ((n : Int) = 1) = False := eq_false (by omega)
      have ep : ((path.length : Int) = 0) = True := eq_true (by omega)
      refine ve (And.intro E (And.intro en ep)) ?_
      have em : rootByP leaf i n path = none := by rw [rootByP, if_neg hn1, dif_pos hp0]
      rw [em]
      exact ⟨_, _, rfl, (H.nothing (sl_zero w)).head⟩
    by_cases hn1 : n = 1
    · have en : ((n : Int) = 1) = True := eq_true (by omega)
      have ep : ((path.length : Int) = 0) = False := eq_false (by omega)
      refine ve (And.intro E (And.intro en ep)) ?_
      have em : rootByP leaf i n path = none := by rw [rootByP, if_pos hn1, if_neg hp0]
      rw [em]
      exact ⟨_, _, rfl, (H.nothing (sl_zero w)).head⟩
    have en : ((n : Int) = 1) = False := eq_false (by omega)
    have ep : ((path.length : Int) = 0) = False := eq_false (by omega)
    have el : w64 ((path.length : Int) - 1) = ((path.length - 1 : Nat) : Int) := by have := sl_len h0; unfold w64; omega
    refine ve (And.intro E (And.intro en ep)) ?_
    refine x_callw (firstOf_ok w n (by omega)) (ve el ?_)
    have hk := first_lt (n := n) (by omega)
    have hk0 := first_pos n
    have hu : rootByP leaf i n path = if i < first n then (rootByP leaf i (first n) (path.take (path.length - 1))).map fun r => nodeOf r (path.getD (path.length - 1) [])
      else (rootByP leaf (i - first n) (n - first n) (path.take (path.length - 1))).map fun r => nodeOf (path.getD (path.length - 1) []) r := by rw [rootByP, if_neg hn1, dif_neg hp0]
    rw [hu]
    generalize first n = k at *
    have hlast : (path.getD (path.length - 1) []).length ≤ 1073741824 := by rw [← getDN (by omega)]; exact hfw _ (List.getElem_mem _)
    refine draw_of [(0, true), (1, true), (2, true), (3, true), (4, true), (5, true), (6, true), (7, true), (8, true), (9, true), (10, true), (11, true), (12, true)] w.heap.size [] fun w3 hh hb3 => ve el ?_
    have H := H.go (hb3 _)
    refine q_to (wr := w) (hi := path.length - 1) sl26 rfl h0 (by omega) fun v1 hv1 => ve el ?_
    refine q_ele H sl26 rfl (path.length - 1) (by omega) ha rfl fun ad es hb hr hc => vs ?_
    obtain ⟨u2, rfl⟩ := sl_one hr
    rw [getDN] at hr
    refine q_ld1 sc22 hc rfl hb (vs ?_)
    by_cases hi : i < k
    · have e5 : ((i : Int) < (k : Int)) := by omega
      refine ve e5 ?_
      rw [if_pos hi]
      refine x_call (ih w3 v v1 leaf i k (path.take (path.length - 1)) (by simp only [List.length_take]; omega) (by omega) (by omega) hlf (hfw.take _) (H.rd h) (H.rd hv1)) fun _ w4 ⟨v4, f4, e, S⟩ => ?_
      subst e
      have H := H.join S
      simp only [List.cons_append, List.nil_append] at H
      have hol := rootByP_len leaf _ i k (path.take (path.length - 1)) (Nat.le_refl _)
      generalize rootByP leaf i k (path.take (path.length - 1)) = oo at *
      cases oo with
      | none =>
        simp only [Option.isSome_none, Option.map_none, Option.getD_none] at H ⊢
        refine vs ?_
        exact ⟨_, _, rfl, (H.nothing (sl_zero w4)).head⟩
      | some rr =>
        simp only [Option.isSome_some, Option.map_some, Option.getD_some] at H ⊢
        have hrl := hol rr rfl
        refine vs ?_
        refine x_callf H (implNodeOf_ok w4 _ _ _ _ (H.own (.head _)) (H.rd hr) (by omega)) fun r5 f5 w5 H => vs ?_
        exact ⟨_, _, rfl, H.head⟩
    · have e5 : ¬ ((i : Int) < (k : Int)) := by omega
      have e6 : w64 ((i : Int) - (k : Int)) = ((i - k : Nat) : Int) := by unfold w64; omega
      have e7 : w64 ((n : Int) - (k : Int)) = ((n - k : Nat) : Int) := by unfold w64; omega
      refine ve (And.intro e5 (And.intro e6 e7)) ?_
      rw [if_neg hi]
      refine x_call (ih w3 v v1 leaf (i - k) (n - k) (path.take (path.length - 1)) (by simp only [List.length_take]; omega) (by omega) (by omega) hlf (hfw.take _) (H.rd h) (H.rd hv1)) fun _ w4 ⟨v4, f4, e, S⟩ => ?_
      subst e
      have H := H.join S
      simp only [List.cons_append, List.nil_append] at H
      have hol := rootByP_len leaf _ (i - k) (n - k) (path.take (path.length - 1)) (Nat.le_refl _)
      generalize rootByP leaf (i - k) (n - k) (path.take (path.length - 1)) = oo at *
      cases oo with
      | none =>
        simp only [Option.isSome_none, Option.map_none, Option.getD_none] at H ⊢
        refine vs ?_
        exact ⟨_, _, rfl, (H.nothing (sl_zero w4)).head⟩
      | some rr =>
        simp only [Option.isSome_some, Option.map_some, Option.getD_some] at H ⊢
        have hrl := hol rr rfl
        refine vs ?_
        refine x_callf H (implNodeOf_ok w4 _ _ _ _ (H.rd hr) (H.own (.head _)) (by omega)) fun r5 f5 w5 H => vs ?_
        exact ⟨_, _, rfl, H.head⟩
theorem implRootBy_ok (w : World) (v : Value) (leaf : List UInt8) (i n : Int) (u : Value) (path : List (List UInt8)) (h : (bytes 5).rd w w.heap.size [v] leaf) (h' : lists.rd w w.heap.size [u] path) (hlf : leaf.length ≤ 1073741824) (hfw : Few' path) :
    ACalls Tryz.prog 46 #[v, .int .i64 i, .int .i64 n, u] w fun r w' => ∃ v fp, r = .tuple #[v, .bool (rootBy leaf i n path).isSome] ∧ Sep w.heap.size w w' [Ck.own (bytes 5) fp [v] ((rootBy leaf i n path).getD [])] := by
  by_cases hp : 0 ≤ i ∧ i < n ∧ n ≤ 40
  · obtain ⟨a, rfl⟩ : ∃ a : Nat, i = (a : Int) := ⟨i.toNat, by omega⟩
    obtain ⟨b, rfl⟩ : ∃ b : Nat, n = (b : Int) := ⟨n.toNat, by omega⟩
    have e : rootBy leaf (a : Int) (b : Int) path = rootByP leaf a b path := by unfold rootBy; rw [if_pos hp]; rfl
    rw [e]
    exact implRB_ok path.length w v u leaf a b path (Nat.le_refl _) (by omega) (by omega) hlf hfw h h'
  · have e : rootBy leaf i n path = none := by unfold rootBy; rw [if_neg hp]
    rw [e]
    simp only [Option.isSome_none, Option.getD_none]
    have H := Sep.start w
    refine body_of follows Tryz.func46 rfl rfl _ rfl (by kernel_rfl) ?_
    by_cases h1 : i < 0
    · refine ve h1 ?_
      exact ⟨_, _, rfl, H.nothing (sl_zero w)⟩
    by_cases h2 : n ≤ i
    · refine ve (And.intro h1 h2) ?_
      exact ⟨_, _, rfl, H.nothing (sl_zero w)⟩
    have h3 : 40 < n := by omega
    refine ve (And.intro h1 (And.intro h2 h3)) ?_
    exact ⟨_, _, rfl, H.nothing (sl_zero w)⟩


abbrev BL := List UInt8
/-- The reference's reckoning: both roots, and what is left. -/
def bothR (old : BL) (m n : Nat) (proof : List BL) (known : Bool) : Option (BL × BL × List BL) :=
  if m = n then (if known = true then some (old, old, proof) else match proof with
    | [] => none
    | x :: rest => some (x, x, rest))
  else if h : 2 ≤ n then
    if m ≤ first n then match bothR old m (first n) proof known with
      | some (a, b, x :: rest) => some (a, nodeOf b x, rest)
      | _ => none
    else match bothR old (m - first n) (n - first n) proof false with
      | some (a, b, x :: rest) => some (nodeOf x a, nodeOf x b, rest)
      | _ => none
  else none
termination_by n
decreasing_by
  · exact first_lt h
  · have := first_pos n; omega
/-- The program's: from the last one on. -/
def rootsI (old : BL) (m n : Nat) (proof : List BL) (known : Bool) : BL × BL × Bool :=
  if m = n ∧ known = true then (old, old, decide (proof.length = 0))
  else if h0 : proof.length = 0 then ([], [], false)
  else if m = n then (proof.getD (proof.length - 1) [], proof.getD (proof.length - 1) [], decide ((proof.take (proof.length - 1)).length = 0))
  else if m ≤ first n then
    ((rootsI old m (first n) (proof.take (proof.length - 1)) known).1, nodeOf (rootsI old m (first n) (proof.take (proof.length - 1)) known).2.1 (proof.getD (proof.length - 1) []), (rootsI old m (first n) (proof.take (proof.length - 1)) known).2.2)
  else (nodeOf (proof.getD (proof.length - 1) []) (rootsI old (m - first n) (n - first n) (proof.take (proof.length - 1)) false).1, nodeOf (proof.getD (proof.length - 1) []) (rootsI old (m - first n) (n - first n) (proof.take (proof.length - 1)) false).2.1, (rootsI old (m - first n) (n - first n) (proof.take (proof.length - 1)) false).2.2)
termination_by proof.length
decreasing_by
  all_goals (simp only [List.length_take]; omega)

theorem bothR_app (old : BL) : ∀ (q m n : Nat) (known : Bool) (p t : List BL) (a b : BL) (r : List BL), n ≤ q → bothR old m n p known = some (a, b, r) → bothR old m n (p ++ t) known = some (a, b, r ++ t) := by
  intro q
  induction q with
  | zero =>
    intro m n known p t a b r hq h
    rw [bothR.eq_def] at h ⊢
    split at h
    · split at h
      · rename_i h1 h2
        rw [if_pos h1, if_pos h2]; cases h; rfl
      · rename_i h1 h2
        rw [if_pos h1, if_neg h2]
        cases p with
        | nil => cases h
        | cons x p => cases h; rfl
    · rw [dif_neg (by omega)] at h; cases h
  | succ q ih =>
    intro m n known p t a b r hq h
    rw [bothR.eq_def] at h ⊢
    split at h
    · split at h
      · rename_i h1 h2
        rw [if_pos h1, if_pos h2]; cases h; rfl
      · rename_i h1 h2
        rw [if_pos h1, if_neg h2]
        cases p with
        | nil => cases h
        | cons x p => cases h; rfl
    · rename_i h1
      rw [if_neg h1]
      by_cases h2 : 2 ≤ n
      · have hk := first_lt h2
        have hk0 := first_pos n
        rw [dif_pos h2] at h ⊢
        split at h
        · rename_i h3
          rw [if_pos h3]
          cases hi : bothR old m (first n) p known with
          | none => rw [hi] at h; cases h
          | some z =>
            obtain ⟨a', b', r'⟩ := z
            cases r' with
            | nil => rw [hi] at h; cases h
            | cons x r' =>
              rw [hi] at h
              rw [ih m (first n) known p t a' b' (x :: r') (by omega) hi]
              cases h; rfl
        · rename_i h3
          rw [if_neg h3]
          cases hi : bothR old (m - first n) (n - first n) p false with
          | none => rw [hi] at h; cases h
          | some z =>
            obtain ⟨a', b', r'⟩ := z
            cases r' with
            | nil => rw [hi] at h; cases h
            | cons x r' =>
              rw [hi] at h
              rw [ih (m - first n) (n - first n) false p t a' b' (x :: r') (by omega) hi]
              cases h; rfl
      · rw [dif_neg h2] at h; cases h
theorem bothR_cut (old : BL) : ∀ (q m n : Nat) (known : Bool) (p : List BL) (a b : BL) (r : List BL), n ≤ q → bothR old m n p known = some (a, b, r) → ∃ u, p = u ++ r ∧ bothR old m n u known = some (a, b, []) := by
  intro q
  induction q with
  | zero =>
    intro m n known p a b r hq h
    rw [bothR.eq_def] at h
    split at h
    · split at h
      · rename_i h1 h2
        cases h
        exact ⟨[], rfl, by rw [bothR.eq_def, if_pos h1, if_pos h2]⟩
      · rename_i h1 h2
        cases p with
        | nil => cases h
        | cons x p => cases h; exact ⟨[_], rfl, by rw [bothR.eq_def, if_pos h1, if_neg h2]⟩
    · rw [dif_neg (by omega)] at h; cases h
  | succ q ih =>
    intro m n known p a b r hq h
    rw [bothR.eq_def] at h
    split at h
    · split at h
      · rename_i h1 h2
        cases h
        exact ⟨[], rfl, by rw [bothR.eq_def, if_pos h1, if_pos h2]⟩
      · rename_i h1 h2
        cases p with
        | nil => cases h
        | cons x p => cases h; exact ⟨[_], rfl, by rw [bothR.eq_def, if_pos h1, if_neg h2]⟩
    · rename_i h1
      by_cases h2 : 2 ≤ n
      · have hk := first_lt h2
        have hk0 := first_pos n
        rw [dif_pos h2] at h
        split at h
        · rename_i h3
          cases hi : bothR old m (first n) p known with
          | none => rw [hi] at h; cases h
          | some z =>
            obtain ⟨a', b', r'⟩ := z
            cases r' with
            | nil => rw [hi] at h; cases h
            | cons x r' =>
              rw [hi] at h
              obtain ⟨u, hu, hv⟩ := ih m (first n) known p a' b' (x :: r') (by omega) hi
              cases h
              refine ⟨u ++ [x], by rw [hu]; simp, ?_⟩
              have := bothR_app old q m (first n) known u [x] _ _ [] (by omega) hv
              rw [bothR.eq_def, if_neg h1, dif_pos h2, if_pos h3, this]
              rfl
        · rename_i h3
          cases hi : bothR old (m - first n) (n - first n) p false with
          | none => rw [hi] at h; cases h
          | some z =>
            obtain ⟨a', b', r'⟩ := z
            cases r' with
            | nil => rw [hi] at h; cases h
            | cons x r' =>
              rw [hi] at h
              obtain ⟨u, hu, hv⟩ := ih (m - first n) (n - first n) false p a' b' (x :: r') (by omega) hi
              cases h
              refine ⟨u ++ [x], by rw [hu]; simp, ?_⟩
              have := bothR_app old q (m - first n) (n - first n) false u [x] _ _ [] (by omega) hv
              rw [bothR.eq_def, if_neg h1, dif_pos h2, if_neg h3, this]
              rfl
      · rw [dif_neg h2] at h; cases h
theorem last_split {p : List BL} (h : ¬ p.length = 0) : p = p.take (p.length - 1) ++ [p.getD (p.length - 1) []] := by
  have h1 : p.length - 1 < p.length := by omega
  conv => lhs; rw [← List.take_append_drop (p.length - 1) p]
  rw [List.drop_eq_getElem_cons h1, ← getDN h1]
  have : p.drop (p.length - 1 + 1) = [] := List.drop_eq_nil_of_le (by omega)
  rw [this]
theorem snoc_inj {p u : List BL} {x y : BL} (h : p ++ [x] = u ++ [y]) : p = u ∧ x = y := by
  have := List.append_inj' h rfl
  exact ⟨this.1, by simpa using this.2⟩
/-- Both come to the same. -/
theorem roots_eq (old : BL) : ∀ (q m n : Nat) (p : List BL) (known : Bool) (a b : BL), n ≤ q → 1 ≤ m → m ≤ n → (bothR old m n p known = some (a, b, []) ↔ rootsI old m n p known = (a, b, true)) := by
  intro q
  induction q with
  | zero => intro m n p known a b hq hm hn; omega
  | succ q ih =>
    intro m n p known a b hq hm hn
    by_cases h1 : m = n
    · cases known with
      | true =>
        rw [bothR.eq_def, rootsI, if_pos h1, if_pos rfl, if_pos ⟨h1, rfl⟩]
        simp only [Option.some.injEq, Prod.mk.injEq, decide_eq_true_eq, List.length_eq_zero_iff]
      | false =>
        rw [bothR.eq_def, rootsI, if_pos h1, if_neg (by decide), if_neg (by simp)]
        cases p with
        | nil => simp
        | cons x p =>
          rw [dif_neg (by simp), if_pos h1]
          simp only [Option.some.injEq, Prod.mk.injEq, decide_eq_true_eq]
          cases p with
          | nil => simp
          | cons y p => simp
    · have h2 : 2 ≤ n := by omega
      have hk := first_lt h2
      have hk0 := first_pos n
      by_cases h0 : p.length = 0
      · have hp : p = [] := List.eq_nil_of_length_eq_zero h0
        subst hp
        rw [rootsI, if_neg (fun h => h1 h.1), dif_pos h0]
        constructor
        · intro h
          exfalso
          rw [bothR.eq_def, if_neg h1, dif_pos h2] at h
          split at h
          · cases hi : bothR old m (first n) [] known with
            | none => rw [hi] at h; cases h
            | some z =>
              obtain ⟨a', b', r'⟩ := z
              obtain ⟨u, hu, _⟩ := bothR_cut old n m (first n) known [] a' b' r' (by omega) hi
              have : r' = [] := (List.append_eq_nil_iff.1 hu.symm).2
              subst this
              rw [hi] at h; cases h
          · cases hi : bothR old (m - first n) (n - first n) [] false with
            | none => rw [hi] at h; cases h
            | some z =>
              obtain ⟨a', b', r'⟩ := z
              obtain ⟨u, hu, _⟩ := bothR_cut old n (m - first n) (n - first n) false [] a' b' r' (by omega) hi
              have : r' = [] := (List.append_eq_nil_iff.1 hu.symm).2
              subst this
              rw [hi] at h; cases h
        · intro h; cases h
      · rw [rootsI, if_neg (fun h => h1 h.1), dif_neg h0, if_neg h1]
        have hps := last_split h0
        generalize hu : p.take (p.length - 1) = u at *
        generalize hx : p.getD (p.length - 1) [] = x at *
        by_cases h3 : m ≤ first n
        · rw [bothR.eq_def, if_neg h1, dif_pos h2, if_pos h3, if_pos h3]
          constructor
          · intro h
            cases hi : bothR old m (first n) p known with
            | none => rw [hi] at h; cases h
            | some z =>
              obtain ⟨a', b', r'⟩ := z
              cases r' with
              | nil => rw [hi] at h; cases h
              | cons y r' =>
                rw [hi] at h
                simp only [Option.some.injEq, Prod.mk.injEq] at h
                obtain ⟨ha, hb, hr⟩ := h
                subst hr
                obtain ⟨u', hu', hv⟩ := bothR_cut old n m (first n) known p a' b' [y] (by omega) hi
                rw [hps] at hu'
                obtain ⟨e1, e2⟩ := snoc_inj hu'
                subst e1 e2
                have := (ih m (first n) u known a' b' (by omega) hm h3).1 hv
                rw [this]
                simp only [← ha, ← hb]
          · intro h
            simp only [Prod.mk.injEq] at h
            obtain ⟨ha, hb, hr⟩ := h
            have h4 : rootsI old m (first n) u known = ((rootsI old m (first n) u known).1, (rootsI old m (first n) u known).2.1, true) := by rw [← hr]
            have h5 := (ih m (first n) u known _ _ (by omega) hm h3).2 h4
            have h6 := bothR_app old n m (first n) known u [x] _ _ [] (by omega) h5
            rw [hps, h6]
            simp only [List.nil_append]
            rw [ha, hb]
        · rw [bothR.eq_def, if_neg h1, dif_pos h2, if_neg h3, if_neg h3]
          constructor
          · intro h
            cases hi : bothR old (m - first n) (n - first n) p false with
            | none => rw [hi] at h; cases h
            | some z =>
              obtain ⟨a', b', r'⟩ := z
              cases r' with
              | nil => rw [hi] at h; cases h
              | cons y r' =>
                rw [hi] at h
                simp only [Option.some.injEq, Prod.mk.injEq] at h
                obtain ⟨ha, hb, hr⟩ := h
                subst hr
                obtain ⟨u', hu', hv⟩ := bothR_cut old n (m - first n) (n - first n) false p a' b' [y] (by omega) hi
                rw [hps] at hu'
                obtain ⟨e1, e2⟩ := snoc_inj hu'
                subst e1 e2
                have := (ih (m - first n) (n - first n) u false a' b' (by omega) (by omega) (by omega)).1 hv
                rw [this]
                simp only [← ha, ← hb]
          · intro h
            simp only [Prod.mk.injEq] at h
            obtain ⟨ha, hb, hr⟩ := h
            have h4 : rootsI old (m - first n) (n - first n) u false = ((rootsI old (m - first n) (n - first n) u false).1, (rootsI old (m - first n) (n - first n) u false).2.1, true) := by rw [← hr]
            have h5 := (ih (m - first n) (n - first n) u false _ _ (by omega) (by omega) (by omega)).2 h4
            have h6 := bothR_app old n (m - first n) (n - first n) false u [x] _ _ [] (by omega) h5
            rw [hps, h6]
            simp only [List.nil_append]
            rw [ha, hb]

theorem rootsI_len (old : BL) (ho : old.length ≤ 1073741824) : ∀ (q m n : Nat) (p : List BL) (known : Bool), p.length ≤ q → Few' p → (rootsI old m n p known).1.length ≤ 1073741824 ∧ (rootsI old m n p known).2.1.length ≤ 1073741824 := by
  intro q
  induction q with
  | zero =>
    intro m n p known hq hf
    rw [rootsI]
    split
    · exact ⟨ho, ho⟩
    · rw [dif_pos (by omega)]
      exact ⟨by simp, by simp⟩
  | succ q ih =>
    intro m n p known hq hf
    rw [rootsI]
    split
    · exact ⟨ho, ho⟩
    · by_cases h0 : p.length = 0
      · rw [dif_pos h0]
        exact ⟨by simp, by simp⟩
      · rw [dif_neg h0]
        have hl : (p.getD (p.length - 1) []).length ≤ 1073741824 := by rw [← getDN (by omega)]; exact hf _ (List.getElem_mem _)
        split
        · exact ⟨hl, hl⟩
        · split
          · have := ih m (first n) (p.take (p.length - 1)) known (by simp only [List.length_take]; omega) (hf.take _)
            exact ⟨this.1, Nat.le_trans (nodeOf_len _ _) (by omega)⟩
          · exact ⟨Nat.le_trans (nodeOf_len _ _) (by omega), Nat.le_trans (nodeOf_len _ _) (by omega)⟩
theorem dec_len {α : Type} (l : List α) : decide ((l.length : Int) = 0) = decide (l.length = 0) := decide_eq_decide.2 (by omega)

def RootsPost (w : World) (x : BL × BL × Bool) (r : Value) (w' : World) : Prop := ∃ va vb, r = .tuple #[va, vb, .bool x.2.2] ∧ Below w.heap.size w w' ∧ (bytes 5).rd w' w'.heap.size [va] x.1 ∧ (bytes 5).rd w' w'.heap.size [vb] x.2.1

theorem implRoots_ok : ∀ (q : Nat) (w : World) (v u : Value) (old : BL) (m n : Nat) (p : List BL) (known : Bool) (_ : p.length ≤ q) (_ : 1 ≤ m) (_ : m ≤ n) (_ : n ≤ 40) (_ : old.length ≤ 1073741824) (_ : Few' p) (_ : (bytes 5).rd w w.heap.size [v] old) (_ : lists.rd w w.heap.size [u] p),
    ACalls Tryz.prog 121 #[v, .int .i64 (m : Int), .int .i64 (n : Int), u, .bool known] w (RootsPost w (rootsI old m n p known)) := by
  intro q
  induction q with
  | zero =>
    intro w v u old m n p known hq hm hmn hn ho hf h h'
    have hp0 : p.length = 0 := by omega
    obtain ⟨A, c, rfl, hc1, hc2, ha⟩ := sl_open h'
    have e0 : ((p.length : Int) = 0) = True := eq_true (by omega)
    refine body_of follows Tryz.func121 rfl rfl _ rfl (by kernel_rfl) ?_
    by_cases h1 : m = n
    · have e1 : ((m : Int) = (n : Int)) = True := eq_true (by omega)
      cases known with
      | true =>
        refine ve e1 ?_
        rw [rootsI, if_pos ⟨h1, rfl⟩, dec_len]
        exact ⟨_, _, rfl, Below.refl .., h, h⟩
      | false =>
        refine ve (And.intro e1 e0) ?_
        rw [rootsI, if_neg (by simp), dif_pos hp0]
        exact ⟨_, _, rfl, Below.refl .., rd_nil .., rd_nil ..⟩
    · have e1 : ((m : Int) = (n : Int)) = False := eq_false (by omega)
      refine ve (And.intro e1 e0) ?_
      rw [rootsI, if_neg (fun h => h1 h.1), dif_pos hp0]
      exact ⟨_, _, rfl, Below.refl .., rd_nil .., rd_nil ..⟩
  | succ q ih =>
    intro w v u old m n p known hq hm hmn hn ho hf h h'
    have h0 := h'
    obtain ⟨A, c, rfl, hc1, hc2, ha⟩ := sl_open h'
    have H := Sep.start w
    refine body_of follows Tryz.func121 rfl rfl _ rfl (by kernel_rfl) ?_
    by_cases hk1 : m = n ∧ known = true
    · have e1 : ((m : Int) = (n : Int)) = True := eq_true (by omega)
      obtain ⟨h1, rfl⟩ := hk1
      refine ve e1 ?_
      rw [rootsI, if_pos ⟨h1, rfl⟩, dec_len]
      exact ⟨_, _, rfl, Below.refl .., h, h⟩
    have hcond : ∃ b : Bool, b = (decide ((m : Int) = (n : Int)) && known) ∧ b = false := ⟨_, rfl, by
      by_cases h1 : m = n
      · have : known = false := by cases known <;> simp_all
        simp [this]
      · have : ¬ (m : Int) = (n : Int) := by omega
        simp [this]⟩
    by_cases hp0 : p.length = 0
    · have e0 : ((p.length : Int) = 0) = True := eq_true (by omega)
      rw [rootsI, if_neg hk1, dif_pos hp0]
      by_cases h1 : m = n
      · have e1 : ((m : Int) = (n : Int)) = True := eq_true (by omega)
        have ek : known = false := by cases known <;> simp_all
        subst ek
        refine ve (And.intro e1 e0) ?_
        exact ⟨_, _, rfl, Below.refl .., rd_nil .., rd_nil ..⟩
      · have e1 : ((m : Int) = (n : Int)) = False := eq_false (by omega)
        refine ve (And.intro e1 e0) ?_
        exact ⟨_, _, rfl, Below.refl .., rd_nil .., rd_nil ..⟩
    have e0 : ((p.length : Int) = 0) = False := eq_false (by omega)
    have el : w64 ((p.length : Int) - 1) = ((p.length - 1 : Nat) : Int) := by have := sl_len h0; unfold w64; omega
    have hlast : (p.getD (p.length - 1) []).length ≤ 1073741824 := by rw [← getDN (by omega)]; exact hf _ (List.getElem_mem _)
    rw [rootsI, if_neg hk1, dif_neg hp0]
    by_cases h1 : m = n
    · have e1 : ((m : Int) = (n : Int)) = True := eq_true (by omega)
      have ek : known = false := by cases known <;> simp_all
      subst ek
      rw [if_pos h1]
      refine ve (And.intro e1 e0) ?_
      refine draw_of [(0, true), (1, true), (2, true), (3, true), (4, true), (5, true), (6, true), (7, true), (8, true), (9, true), (10, true), (11, true), (12, true)] w.heap.size [] fun w3 hh hb3 => ve el ?_
      have H := H.go (hb3 _)
      refine q_to (wr := w) (hi := p.length - 1) sl26 rfl h0 (by omega) fun v1 hv1 => ?_
      obtain ⟨A1, c1, rfl, _, _, _⟩ := sl_open hv1
      refine ve el ?_
      refine q_ele H sl26 rfl (p.length - 1) (by omega) ha rfl fun ad es hb hr hc => vs ?_
      obtain ⟨u2, rfl⟩ := sl_one hr
      rw [getDN] at hr
      refine q_ld1 sc22 hc rfl hb (ve e1 ?_)
      rw [dec_len]
      exact ⟨_, _, rfl, H.bel, H.rd hr, H.rd hr⟩
    have e1 : ((m : Int) = (n : Int)) = False := eq_false (by omega)
    rw [if_neg h1]
    refine ve (And.intro e1 e0) ?_
    refine draw_of [(0, true), (1, true), (2, true), (3, true), (4, true), (5, true), (6, true), (7, true), (8, true), (9, true), (10, true), (11, true), (12, true)] w.heap.size [] fun w3 hh hb3 => ve el ?_
    have H := H.go (hb3 _)
    refine q_to (wr := w) (hi := p.length - 1) sl26 rfl h0 (by omega) fun v1 hv1 => ve el ?_
    refine q_ele H sl26 rfl (p.length - 1) (by omega) ha rfl fun ad es hb hr hc => vs ?_
    obtain ⟨u2, rfl⟩ := sl_one hr
    rw [getDN] at hr
    refine q_ld1 sc22 hc rfl hb (ve e1 ?_)
    refine x_callw (firstOf_ok w3 n (by omega)) ?_
    have hk := first_lt (n := n) (by omega)
    have hk0 := first_pos n
    generalize first n = k at *
    by_cases hi : m ≤ k
    · have e5 : ((m : Int) ≤ (k : Int)) := by omega
      refine ve e5 ?_
      rw [if_pos hi]
      refine x_call (ih w3 v v1 old m k (p.take (p.length - 1)) known (by simp only [List.length_take]; omega) hm hi (by omega) ho (hf.take _) (H.rd h) (H.rd hv1)) fun _ w4 ⟨va, vb, e, hb4, hra, hrb⟩ => ?_
      subst e
      have H := H.go hb4
      have hl2 := (rootsI_len old ho _ m k (p.take (p.length - 1)) known (Nat.le_refl _) (hf.take _)).2
      generalize rootsI old m k (p.take (p.length - 1)) known = R at *
      refine vs ?_
      refine x_call (implNodeOf_ok w4 vb _ u2 _ hrb (H.rd hr) (by omega)) fun r5 w5 ⟨f5, S⟩ => ?_
      have H := H.join S
      refine vs ?_
      exact ⟨_, _, rfl, H.bel, Kd.le _ (Kd.mono _ hra S.bel) S.bel.size, H.own (.head _)⟩
    · have e5 : ¬ ((m : Int) ≤ (k : Int)) := by omega
      have e6 : w64 ((m : Int) - (k : Int)) = ((m - k : Nat) : Int) := by unfold w64; omega
      have e7 : w64 ((n : Int) - (k : Int)) = ((n - k : Nat) : Int) := by unfold w64; omega
      refine ve (And.intro e5 (And.intro e6 e7)) ?_
      rw [if_neg hi]
      refine x_call (ih w3 v v1 old (m - k) (n - k) (p.take (p.length - 1)) false (by simp only [List.length_take]; omega) (by omega) (by omega) (by omega) ho (hf.take _) (H.rd h) (H.rd hv1)) fun _ w4 ⟨va, vb, e, hb4, hra, hrb⟩ => ?_
      subst e
      have H := H.go hb4
      have hl2 := rootsI_len old ho _ (m - k) (n - k) (p.take (p.length - 1)) false (Nat.le_refl _) (hf.take _)
      generalize rootsI old (m - k) (n - k) (p.take (p.length - 1)) false = R at *
      refine vs ?_
      refine x_call (implNodeOf_ok w4 u2 _ va _ (H.rd hr) hra (by omega)) fun r5 w5 ⟨f5, S⟩ => ?_
      have H := H.join S
      refine vs ?_
      refine x_call (implNodeOf_ok w5 u2 _ vb _ (H.rd hr) (Kd.le _ (Kd.mono _ hrb S.bel) S.bel.size) (by omega)) fun r6 w6 ⟨f6, S6⟩ => ?_
      have H := H.join S6
      refine vs ?_
      exact ⟨_, _, rfl, H.bel, H.own (.tail _ (.head _)), H.own (.head _)⟩

def BothPost (w : World) (x : Option (BL × BL × List BL)) (r : Value) (w' : World) : Prop := ∃ va vb vr, r = .tuple #[va, vb, vr, .bool x.isSome] ∧ Below w.heap.size w w' ∧ ∀ a b rest, x = some (a, b, rest) → (bytes 5).rd w' w'.heap.size [va] a ∧ (bytes 5).rd w' w'.heap.size [vb] b ∧ lists.rd w' w'.heap.size [vr] rest ∧ a.length ≤ 1073741824 ∧ b.length ≤ 1073741824 ∧ Few' rest

theorem Few'.drop {l : List (List UInt8)} (h : Few' l) (k : Nat) : Few' (l.drop k) := fun a ha => h a (List.mem_of_mem_drop ha)
def grownOk (old root : BL) (m n : Int) (p : List BL) : Bool :=
  if (1 ≤ n ∧ n ≤ 40) ∧ 1 ≤ m ∧ m ≤ n then match bothR old m.toNat n.toNat p true with
    | some (a, b, []) => decide (a = old) && decide (b = root)
    | _ => false
  else false
theorem implGrownOk_ok (w : World) (v : Value) (old : BL) (u : Value) (root : BL) (m n : Int) (y : Value) (p : List BL) (h : (bytes 5).rd w w.heap.size [v] old) (h' : (bytes 5).rd w w.heap.size [u] root) (hp : lists.rd w w.heap.size [y] p) (ho : old.length ≤ 1073741824) (hf : Few' p) :
    ACalls Tryz.prog 48 #[v, u, .int .i64 m, .int .i64 n, y] w fun r w' => r = .bool (grownOk old root m n p) ∧ Below w.heap.size w w' := by
  have H := Sep.start w
  refine body_of follows Tryz.func48 rfl rfl _ rfl (by kernel_rfl) (vs ?_)
  refine x_callw (in_ok w _ _ _) ?_
  unfold grownOk
  by_cases h1 : 1 ≤ n ∧ n ≤ 40
  · refine ve h1 ?_
    refine x_callw (in_ok w _ _ _) ?_
    by_cases h2 : 1 ≤ m ∧ m ≤ n
    · refine ve h2 ?_
      rw [if_pos ⟨h1, h2⟩]
      obtain ⟨a, rfl⟩ : ∃ a : Nat, m = (a : Int) := ⟨m.toNat, by omega⟩
      obtain ⟨b, rfl⟩ : ∃ b : Nat, n = (b : Int) := ⟨n.toNat, by omega⟩
      simp only [Int.toNat_natCast]
      refine x_call (implRoots_ok p.length w v y old a b p true (Nat.le_refl _) (by omega) (by omega) (by omega) ho hf h hp) fun _ w4 ⟨va, vb, e, hb4, hra, hrb⟩ => ?_
      subst e
      have H := H.go hb4
      have hq := fun a' b' => roots_eq old b a b p true a' b' (Nat.le_refl _) (by omega) (by omega)
      generalize rootsI old a b p true = R at *
      obtain ⟨a', b', ok⟩ := R
      cases ok with
      | false =>
        have hno : ∀ a' b', bothR old a b p true ≠ some (a', b', []) := fun x y hxy => by have := (hq x y).1 hxy; simp at this
        have e3 : (match bothR old a b p true with | some (a, b, []) => decide (a = old) && decide (b = root) | _ => false) = false := by
          split
          · rename_i x y hxy; exact absurd hxy (hno x y)
          · rfl
        rw [e3]
        refine vs ?_
        exact H.bel
      | true =>
        have hyes := (hq a' b').2 rfl
        rw [hyes]
        refine vs ?_
        refine x_callw (implSame_ok w4 va v _ _ hra (H.rd h)) ?_
        by_cases hA : a' = old
        · refine ve (eq_true hA) ?_
          refine x_callw (implSame_ok w4 vb u _ _ hrb (H.rd h')) (vs ?_)
          simp only [hA, decide_true, Bool.true_and]
          first | exact H.bel | exact ⟨rfl, H.bel⟩ | exact ⟨trivial, H.bel⟩
        · refine ve (eq_false hA) ?_
          simp only [hA, decide_false, Bool.false_and]
          first | exact H.bel | exact ⟨rfl, H.bel⟩ | exact ⟨trivial, H.bel⟩
    · refine ve h2 ?_
      try rw [if_neg (fun h => h2 h.2)]
      first | exact H.bel | exact ⟨rfl, H.bel⟩ | exact ⟨trivial, H.bel⟩
  · refine ve h1 ?_
    try rw [if_neg (fun h => h1 h.1)]
    first | exact H.bel | exact ⟨rfl, H.bel⟩ | exact ⟨trivial, H.bel⟩
end Go.Proofs.YtfhbglaigjekpaaGreat.V
