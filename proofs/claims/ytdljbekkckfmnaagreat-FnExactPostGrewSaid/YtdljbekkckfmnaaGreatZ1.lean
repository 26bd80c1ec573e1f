/- Ways to a root, proofs of growth, roots by a way: both sides. Laid by a program. -/
import Derived.Test.YtdljbekkckfmnaaGreatWz
namespace Go.Proofs.YtdljbekkckfmnaaGreat.V
open Go Go.RowKit
set_option maxRecDepth 100000
set_option maxHeartbeats 4000000
set_option linter.unusedSimpArgs false
set_option linter.unusedVariables false
set_option pp.deepTerms false
set_option pp.deepTerms.threshold 3

/-! ### ways -/
def pathOf (l : List (List UInt8)) (i : Int) : List (List UInt8) :=
  if h : 0 ≤ i ∧ i < (l.length : Int) ∧ 2 ≤ l.length ∧ l.length ≤ 40 then
    if i < (first l.length : Int) then pathOf (l.take (first l.length)) i ++ [rootOf (l.drop (first l.length))]
    else pathOf (l.drop (first l.length)) (i - first l.length) ++ [rootOf (l.take (first l.length))]
  else []
termination_by l.length
decreasing_by
  · simp only [List.length_take]; have := first_lt h.2.2.1; omega
  · simp only [List.length_drop]; have := first_pos l.length; omega
theorem pathOf_no {l : List (List UInt8)} {i : Int} (h : ¬ (0 ≤ i ∧ i < (l.length : Int) ∧ 2 ≤ l.length ∧ l.length ≤ 40)) : pathOf l i = [] := by rw [pathOf, dif_neg h]
theorem pathOf_low {l : List (List UInt8)} {i : Int} (h : 0 ≤ i ∧ i < (l.length : Int) ∧ 2 ≤ l.length ∧ l.length ≤ 40) (hk : i < (first l.length : Int)) : pathOf l i = pathOf (l.take (first l.length)) i ++ [rootOf (l.drop (first l.length))] := by rw [pathOf, dif_pos h, if_pos hk]
theorem pathOf_high {l : List (List UInt8)} {i : Int} (h : 0 ≤ i ∧ i < (l.length : Int) ∧ 2 ≤ l.length ∧ l.length ≤ 40) (hk : ¬ i < (first l.length : Int)) : pathOf l i = pathOf (l.drop (first l.length)) (i - first l.length) ++ [rootOf (l.take (first l.length))] := by rw [pathOf, dif_pos h, if_neg hk]
theorem pathOf_len (n : Nat) : ∀ (l : List (List UInt8)) (i : Int), l.length ≤ n → (pathOf l i).length ≤ l.length ∧ ∀ a ∈ pathOf l i, a.length ≤ 32 := by
  induction n with
  | zero =>
    intro l i hn
    rw [pathOf_no (by omega)]
    exact ⟨Nat.zero_le _, by simp⟩
  | succ n ih =>
    intro l i hn
    by_cases h : 0 ≤ i ∧ i < (l.length : Int) ∧ 2 ≤ l.length ∧ l.length ≤ 40
    · have hk := first_lt h.2.2.1
      have hk0 := first_pos l.length
      by_cases hi : i < (first l.length : Int)
      · rw [pathOf_low h hi]
        obtain ⟨h1, h2⟩ := ih (l.take (first l.length)) i (by simp only [List.length_take]; omega)
        simp only [List.length_take] at h1
        refine ⟨by simp only [List.length_append, List.length_cons, List.length_nil]; omega, fun a ha => ?_⟩
        rcases List.mem_append.1 ha with ha | ha
        · exact h2 a ha
        · simp only [List.mem_singleton] at ha; subst ha; exact rootOf_len _
      · rw [pathOf_high h hi]
        obtain ⟨h1, h2⟩ := ih (l.drop (first l.length)) (i - first l.length) (by simp only [List.length_drop]; omega)
        simp only [List.length_drop] at h1
        refine ⟨by simp only [List.length_append, List.length_cons, List.length_nil]; omega, fun a ha => ?_⟩
        rcases List.mem_append.1 ha with ha | ha
        · exact h2 a ha
        · simp only [List.mem_singleton] at ha; subst ha; exact rootOf_len _
    · rw [pathOf_no h]
      exact ⟨Nat.zero_le _, by simp⟩

/-! ### growths -/
def grown (l : List (List UInt8)) (m : Nat) (known : Bool) : List (List UInt8) :=
  if m = l.length then (if known = true then [] else [rootOf l]) else
  if h : 2 ≤ l.length then
    if m ≤ first l.length then grown (l.take (first l.length)) m known ++ [rootOf (l.drop (first l.length))]
    else grown (l.drop (first l.length)) (m - first l.length) false ++ [rootOf (l.take (first l.length))]
  else []
termination_by l.length
decreasing_by
  · simp only [List.length_take]; have := first_lt h; omega
  · simp only [List.length_drop]; have := first_pos l.length; omega
theorem grown_len (n : Nat) : ∀ (l : List (List UInt8)) (m : Nat) (known : Bool), l.length ≤ n → (grown l m known).length ≤ l.length + 1 ∧ ∀ a ∈ grown l m known, a.length ≤ 32 := by
  induction n with
  | zero =>
    intro l m known hn
    rw [grown]
    split
    · split
      · exact ⟨Nat.zero_le _, by simp⟩
      · exact ⟨by simp, fun a ha => by simp only [List.mem_singleton] at ha; subst ha; exact rootOf_len _⟩
    · rw [dif_neg (by omega)]
      exact ⟨Nat.zero_le _, by simp⟩
  | succ n ih =>
    intro l m known hn
    rw [grown]
    split
    · split
      · exact ⟨Nat.zero_le _, by simp⟩
      · exact ⟨by simp, fun a ha => by simp only [List.mem_singleton] at ha; subst ha; exact rootOf_len _⟩
    · by_cases h : 2 ≤ l.length
      · have hk := first_lt h
        have hk0 := first_pos l.length
        rw [dif_pos h]
        split
        · obtain ⟨h1, h2⟩ := ih (l.take (first l.length)) m known (by simp only [List.length_take]; omega)
          simp only [List.length_take] at h1
          refine ⟨by simp only [List.length_append, List.length_cons, List.length_nil]; omega, fun a ha => ?_⟩
          rcases List.mem_append.1 ha with ha | ha
          · exact h2 a ha
          · simp only [List.mem_singleton] at ha; subst ha; exact rootOf_len _
        · obtain ⟨h1, h2⟩ := ih (l.drop (first l.length)) (m - first l.length) false (by simp only [List.length_drop]; omega)
          simp only [List.length_drop] at h1
          refine ⟨by simp only [List.length_append, List.length_cons, List.length_nil]; omega, fun a ha => ?_⟩
          rcases List.mem_append.1 ha with ha | ha
          · exact h2 a ha
          · simp only [List.mem_singleton] at ha; subst ha; exact rootOf_len _
      · rw [dif_neg h]
        exact ⟨Nat.zero_le _, by simp⟩
def grownOf (l : List (List UInt8)) (m : Int) : List (List UInt8) := if 1 ≤ m ∧ m ≤ (l.length : Int) ∧ l.length ≤ 40 then grown l m.toNat true else []
theorem grownOf_len (l : List (List UInt8)) (m : Int) : (grownOf l m).length ≤ 41 ∧ ∀ a ∈ grownOf l m, a.length ≤ 32 := by
  unfold grownOf
  split
  · have := grown_len l.length l m.toNat true (Nat.le_refl _)
    exact ⟨by omega, this.2⟩
  · exact ⟨by simp, by simp⟩

theorem implPath_step (w : World) (v : Value) (l : List (List UInt8)) (i : Int) (h : lists.rd w w.heap.size [v] l) (hf : Few l)
    (ih : 2 ≤ l.length ∧ l.length ≤ 40 → ∀ (w : World) (v : Value) (l' : List (List UInt8)) (i : Int), l'.length < l.length → lists.rd w w.heap.size [v] l' → Few l' →
      ACalls Tryz.prog 96 #[v, .int .i64 i] w fun r w' => ∃ fp, Sep w.heap.size w w' [Ck.own lists fp [r] (pathOf l' i)]) :
    ACalls Tryz.prog 96 #[v, .int .i64 i] w fun r w' => ∃ fp, Sep w.heap.size w w' [Ck.own lists fp [r] (pathOf l i)] := by
  have h0 := h
  have hlm := sl_len h
  obtain ⟨A, c, rfl, hc1, hc2, ha⟩ := sl_open h
  have H := Sep.start w
  refine body_of follows Tryz.func96 rfl rfl _ rfl (by kernel_rfl) (vs ?_)
  have el : w64 ((l.length : Int) - 1) = (l.length : Int) - 1 := w64_id (by omega) (by omega)
  rw [el]
  refine x_callw (in_ok w _ _ _) ?_
  by_cases h1 : 0 ≤ i ∧ i ≤ (l.length : Int) - 1
  · refine ve h1 ?_
    refine x_callw (in_ok w _ _ _) ?_
    by_cases h2 : (2 : Int) ≤ (l.length : Int) ∧ (l.length : Int) ≤ 40
    · refine ve h2 ?_
      refine x_callw (firstOf_ok w l.length (by omega)) ?_
      have hp : 0 ≤ i ∧ i < (l.length : Int) ∧ 2 ≤ l.length ∧ l.length ≤ 40 := by omega
      have hk := first_lt hp.2.2.1
      have hk0 := first_pos l.length
      have hlow := fun hk => pathOf_low hp hk
      have hhigh := fun hk => pathOf_high hp hk
      have ih := ih hp.2.2
      generalize first l.length = k at *
      by_cases hi : i < (k : Int)
      · refine ve hi ?_
        rw [hlow hi]
        refine draw_of [(0, true), (1, true), (2, true), (3, true), (5, true), (6, true), (7, true), (4, false), (8, false), (9, false), (10, false), (11, true)] w.heap.size [] fun w3 hh hb3 => vs ?_
        have H := H.go (hb3 _)
        have H3 := H
        refine q_to (wr := w) sl38 rfl h0 (Nat.le_of_lt hk) fun v1 hv1 => vs ?_
        refine q_from (wr := w) sl38 rfl h0 (Nat.le_of_lt hk) fun v2 hv2 => vs ?_
        refine x_callf H (ih w3 v1 _ i (by simp only [List.length_take]; omega) (H.rd hv1) (hf.take k)) fun r4 f4 w4 H => vs ?_
        refine ⟨kept_base H3 H, ?_⟩
        refine x_callf H (implRoot_ok (l.drop k).length w4 v2 _ (Nat.le_refl _) (H.rd hv2) (hf.drop k)) fun r5 f5 w5 H => vs ?_
        refine ⟨kept_base H3 H, ?_⟩
        refine x_lst1 sl38 H (cells_one (Kd.one _ (H.own (.head _)) _ (by simp))) rfl fun f6 v6 w6 H => vs ?_
        refine ⟨kept_base H3 H, ?_⟩
        have hpl := (pathOf_len (l.take k).length (l.take k) i (Nat.le_refl _)).1
        simp only [List.length_take] at hpl
        refine x_appO sl38 H rfl ?_ ?_ fun f7 v7 w7 H => vs ?_
        · simp only [List.length_cons, List.length_nil]; omega
        · simp only [List.length_cons, List.length_nil]; omega
        exact ⟨kept_base H3 H, _, H⟩
      · refine ve hi ?_
        rw [hhigh hi]
        have es : w64 (i - (k : Int)) = i - (k : Int) := w64_id (by omega) (by omega)
        refine draw_of [(0, true), (1, true), (2, true), (3, true), (4, true), (5, true), (7, true), (8, true), (9, true), (6, false), (10, false), (11, false), (12, false), (13, true)] w.heap.size [] fun w3 hh hb3 => ve es ?_
        have H := H.go (hb3 _)
        have H3 := H
        refine q_from (wr := w) sl38 rfl h0 (Nat.le_of_lt hk) fun v2 hv2 => ve es ?_
        refine q_to (wr := w) sl38 rfl h0 (Nat.le_of_lt hk) fun v1 hv1 => ve es ?_
        refine x_callf H (ih w3 v2 _ (i - (k : Int)) (by simp only [List.length_drop]; omega) (H.rd hv2) (hf.drop k)) fun r4 f4 w4 H => vs ?_
        refine ⟨kept_base H3 H, ?_⟩
        refine x_callf H (implRoot_ok (l.take k).length w4 v1 _ (Nat.le_refl _) (H.rd hv1) (hf.take k)) fun r5 f5 w5 H => vs ?_
        refine ⟨kept_base H3 H, ?_⟩
        refine x_lst1 sl38 H (cells_one (Kd.one _ (H.own (.head _)) _ (by simp))) rfl fun f6 v6 w6 H => vs ?_
        refine ⟨kept_base H3 H, ?_⟩
        have hpl := (pathOf_len (l.drop k).length (l.drop k) (i - k) (Nat.le_refl _)).1
        simp only [List.length_drop] at hpl
        refine x_appO sl38 H rfl ?_ ?_ fun f7 v7 w7 H => vs ?_
        · simp only [List.length_cons, List.length_nil]; omega
        · simp only [List.length_cons, List.length_nil]; omega
        exact ⟨kept_base H3 H, _, H⟩
    · refine ve h2 ?_
      rw [pathOf_no (by omega)]
      exact ⟨_, H.nothing (sl_zero w)⟩
  · refine ve h1 ?_
    rw [pathOf_no (by omega)]
    exact ⟨_, H.nothing (sl_zero w)⟩
theorem implPath_ok : ∀ (n : Nat) (w : World) (v : Value) (l : List (List UInt8)) (i : Int) (_ : l.length ≤ n) (_ : lists.rd w w.heap.size [v] l) (_ : Few l),
    ACalls Tryz.prog 96 #[v, .int .i64 i] w fun r w' => ∃ fp, Sep w.heap.size w w' [Ck.own lists fp [r] (pathOf l i)]
  | 0, w, v, l, i, hn, h, hf => implPath_step w v l i h hf fun h2 => by omega
  | n + 1, w, v, l, i, hn, h, hf => implPath_step w v l i h hf fun h2 w' v' l' i' hl' h' hf' => implPath_ok n w' v' l' i' (by omega) h' hf'

theorem specPath_step (w : World) (v : Value) (l : List (List UInt8)) (i : Int) (h : lists.rd w w.heap.size [v] l) (hf : Few l)
    (ih : 2 ≤ l.length ∧ l.length ≤ 40 → ∀ (w : World) (v : Value) (l' : List (List UInt8)) (i : Int), l'.length < l.length → lists.rd w w.heap.size [v] l' → Few l' →
      ACalls Tryz.prog 95 #[v, .int .i64 i] w fun r w' => ∃ fp, Sep w.heap.size w w' [Ck.own lists fp [r] (pathOf l' i)]) :
    ACalls Tryz.prog 95 #[v, .int .i64 i] w fun r w' => ∃ fp, Sep w.heap.size w w' [Ck.own lists fp [r] (pathOf l i)] := by
  have h0 := h
  have hlm := sl_len h
  obtain ⟨A, c, rfl, hc1, hc2, ha⟩ := sl_open h
  have H := Sep.start w
  refine body_of follows Tryz.func95 rfl rfl _ rfl (by kernel_rfl) (vs ?_)
  have el : w64 ((l.length : Int) - 1) = (l.length : Int) - 1 := w64_id (by omega) (by omega)
  rw [el]
  refine x_callw (l1In_ok w _ _ _) ?_
  by_cases h1 : 0 ≤ i ∧ i ≤ (l.length : Int) - 1
  · refine ve h1 ?_
    by_cases h2 : (2 : Int) ≤ (l.length : Int) ∧ (l.length : Int) ≤ 40
    · have q1 : ¬ ((40 : Int) < (l.length : Int)) := by omega
      have q2 : ((l.length : Int) = 1) = False := eq_false (by omega)
      refine ve (And.intro h1 (And.intro q1 q2)) ?_
      refine x_callw (half_ok w l.length (by omega)) ?_
      have hp : 0 ≤ i ∧ i < (l.length : Int) ∧ 2 ≤ l.length ∧ l.length ≤ 40 := by omega
      have hk := first_lt hp.2.2.1
      have hk0 := first_pos l.length
      have hlow := fun hk => pathOf_low hp hk
      have hhigh := fun hk => pathOf_high hp hk
      have ih := ih hp.2.2
      generalize first l.length = k at *
      by_cases hi : i < (k : Int)
      · refine ve hi ?_
        rw [hlow hi]
        refine draw_of [(0, true), (1, true), (2, true), (3, true), (5, true), (6, true), (7, true), (4, false), (8, false), (9, false), (10, false), (11, true)] w.heap.size [] fun w3 hh hb3 => vs ?_
        have H := H.go (hb3 _)
        have H3 := H
        refine q_to (wr := w) sl38 rfl h0 (Nat.le_of_lt hk) fun v1 hv1 => vs ?_
        refine q_from (wr := w) sl38 rfl h0 (Nat.le_of_lt hk) fun v2 hv2 => vs ?_
        refine x_callf H (ih w3 v1 _ i (by simp only [List.length_take]; omega) (H.rd hv1) (hf.take k)) fun r4 f4 w4 H => vs ?_
        refine ⟨kept_base H3 H, ?_⟩
        refine x_callf H (specRoot_ok (l.drop k).length w4 v2 _ (Nat.le_refl _) (H.rd hv2) (hf.drop k)) fun r5 f5 w5 H => vs ?_
        refine ⟨kept_base H3 H, ?_⟩
        refine x_lst1 sl38 H (cells_one (Kd.one _ (H.own (.head _)) _ (by simp))) rfl fun f6 v6 w6 H => vs ?_
        refine ⟨kept_base H3 H, ?_⟩
        have hpl := (pathOf_len (l.take k).length (l.take k) i (Nat.le_refl _)).1
        simp only [List.length_take] at hpl
        refine x_appO sl38 H rfl ?_ ?_ fun f7 v7 w7 H => vs ?_
        · simp only [List.length_cons, List.length_nil]; omega
        · simp only [List.length_cons, List.length_nil]; omega
        exact ⟨kept_base H3 H, _, H⟩
      · refine ve hi ?_
        rw [hhigh hi]
        have es : w64 (i - (k : Int)) = i - (k : Int) := w64_id (by omega) (by omega)
        refine draw_of [(0, true), (1, true), (2, true), (3, true), (4, true), (5, true), (7, true), (8, true), (9, true), (6, false), (10, false), (11, false), (12, false), (13, true)] w.heap.size [] fun w3 hh hb3 => ve es ?_
        have H := H.go (hb3 _)
        have H3 := H
        refine q_from (wr := w) sl38 rfl h0 (Nat.le_of_lt hk) fun v2 hv2 => ve es ?_
        refine q_to (wr := w) sl38 rfl h0 (Nat.le_of_lt hk) fun v1 hv1 => ve es ?_
        refine x_callf H (ih w3 v2 _ (i - (k : Int)) (by simp only [List.length_drop]; omega) (H.rd hv2) (hf.drop k)) fun r4 f4 w4 H => vs ?_
        refine ⟨kept_base H3 H, ?_⟩
        refine x_callf H (specRoot_ok (l.take k).length w4 v1 _ (Nat.le_refl _) (H.rd hv1) (hf.take k)) fun r5 f5 w5 H => vs ?_
        refine ⟨kept_base H3 H, ?_⟩
        refine x_lst1 sl38 H (cells_one (Kd.one _ (H.own (.head _)) _ (by simp))) rfl fun f6 v6 w6 H => vs ?_
        refine ⟨kept_base H3 H, ?_⟩
        have hpl := (pathOf_len (l.drop k).length (l.drop k) (i - k) (Nat.le_refl _)).1
        simp only [List.length_drop] at hpl
        refine x_appO sl38 H rfl ?_ ?_ fun f7 v7 w7 H => vs ?_
        · simp only [List.length_cons, List.length_nil]; omega
        · simp only [List.length_cons, List.length_nil]; omega
        exact ⟨kept_base H3 H, _, H⟩
    · rw [pathOf_no (by omega)]
      by_cases q1 : ((40 : Int) < (l.length : Int))
      · refine ve (And.intro h1 q1) ?_
        refine x_empO (d := bytes 5) H sl38 fun g w1 H => vs ?_
        exact ⟨_, H⟩
      · have q2 : ((l.length : Int) = 1) = True := eq_true (by omega)
        refine ve (And.intro h1 (And.intro q1 q2)) ?_
        refine x_empO (d := bytes 5) H sl38 fun g w1 H => vs ?_
        exact ⟨_, H⟩
  · refine ve h1 ?_
    rw [pathOf_no (by omega)]
    refine x_empO (d := bytes 5) H sl38 fun g w1 H => vs ?_
    exact ⟨_, H⟩
theorem specPath_ok : ∀ (n : Nat) (w : World) (v : Value) (l : List (List UInt8)) (i : Int) (_ : l.length ≤ n) (_ : lists.rd w w.heap.size [v] l) (_ : Few l),
    ACalls Tryz.prog 95 #[v, .int .i64 i] w fun r w' => ∃ fp, Sep w.heap.size w w' [Ck.own lists fp [r] (pathOf l i)]
  | 0, w, v, l, i, hn, h, hf => specPath_step w v l i h hf fun h2 => by omega
  | n + 1, w, v, l, i, hn, h, hf => specPath_step w v l i h hf fun h2 w' v' l' i' hl' h' hf' => specPath_ok n w' v' l' i' (by omega) h' hf'

theorem implGrown_ok : ∀ (n : Nat) (w : World) (v : Value) (l : List (List UInt8)) (m : Nat) (known : Bool) (_ : l.length ≤ n) (_ : l.length ≤ 40) (_ : 1 ≤ m) (_ : m ≤ l.length) (_ : lists.rd w w.heap.size [v] l) (_ : Few l),
    ACalls Tryz.prog 118 #[v, .int .i64 (m : Int), .bool known] w fun r w' => ∃ fp, Sep w.heap.size w w' [Ck.own lists fp [r] (grown l m known)] := by
  intro n
  induction n with
  | zero => intro w v l m known hn h40 hm1 hm2 h hf; omega
  | succ n ih =>
    intro w v l m known hn h40 hm1 hm2 h hf
    have h0 := h
    obtain ⟨A, c, rfl, hc1, hc2, ha⟩ := sl_open h
    have H := Sep.start w
    refine body_of follows Tryz.func118 rfl rfl _ rfl (by kernel_rfl) ?_
    by_cases he : m = l.length
    · have e0 : ((m : Int) = (l.length : Int)) = True := eq_true (by omega)
      cases known with
      | true =>
        refine ve e0 ?_
        have e : grown l m true = [] := by rw [grown, if_pos he, if_pos rfl]
        rw [e]
        exact ⟨_, H.nothing (sl_zero w)⟩
      | false =>
        refine ve e0 ?_
        have e : grown l m false = [rootOf l] := by rw [grown, if_pos he, if_neg (by decide)]
        rw [e]
        refine x_callf H (implRoot_ok l.length w _ l (Nat.le_refl _) h0 hf) fun r5 f5 w5 H => vs ?_
        refine x_lst1 sl38 H (cells_one (Kd.one _ (H.own (.head _)) _ (by simp))) rfl fun f6 v6 w6 H => vs ?_
        exact ⟨_, H⟩
    have e0 : ((m : Int) = (l.length : Int)) = False := eq_false (by omega)
    refine ve e0 ?_
    refine x_callw (firstOf_ok w l.length (by omega)) ?_
    have h2 : 2 ≤ l.length := by omega
    have hk := first_lt h2
    have hk0 := first_pos l.length
    have hu : grown l m known = if m ≤ first l.length then grown (l.take (first l.length)) m known ++ [rootOf (l.drop (first l.length))]
    else grown (l.drop (first l.length)) (m - first l.length) false ++ [rootOf (l.take (first l.length))] := by rw [grown, if_neg he, dif_pos h2]
    rw [hu]
    generalize first l.length = k at *
    by_cases hi : m ≤ k
    · have e1 : ((m : Int) ≤ (k : Int)) := by omega
      refine ve e1 ?_
      rw [if_pos hi]
      refine draw_of [(0, true), (1, true), (2, true), (3, true), (4, true), (6, true), (7, true), (8, true), (5, false), (9, false), (10, false), (11, false), (12, true)] w.heap.size [] fun w3 hh hb3 => vs ?_
      have H := H.go (hb3 _)
      have H3 := H
      refine q_to (wr := w) sl38 rfl h0 (Nat.le_of_lt hk) fun v1 hv1 => vs ?_
      refine q_from (wr := w) sl38 rfl h0 (Nat.le_of_lt hk) fun v2 hv2 => vs ?_
      refine x_callf H (ih w3 v1 _ m known (by simp only [List.length_take]; omega) (by simp only [List.length_take]; omega) hm1 (by simp only [List.length_take]; omega) (H.rd hv1) (hf.take k)) fun r4 f4 w4 H => vs ?_
      refine ⟨kept_base H3 H, ?_⟩
      refine x_callf H (implRoot_ok (l.drop k).length w4 v2 _ (Nat.le_refl _) (H.rd hv2) (hf.drop k)) fun r5 f5 w5 H => vs ?_
      refine ⟨kept_base H3 H, ?_⟩
      refine x_lst1 sl38 H (cells_one (Kd.one _ (H.own (.head _)) _ (by simp))) rfl fun f6 v6 w6 H => vs ?_
      refine ⟨kept_base H3 H, ?_⟩
      have hpl := (grown_len (l.take k).length (l.take k) m known (Nat.le_refl _)).1
      simp only [List.length_take] at hpl
      refine x_appO sl38 H rfl ?_ ?_ fun f7 v7 w7 H => vs ?_
      · simp only [List.length_cons, List.length_nil]; omega
      · simp only [List.length_cons, List.length_nil]; omega
      exact ⟨kept_base H3 H, _, H⟩
    · have e1 : ¬ ((m : Int) ≤ (k : Int)) := by omega
      refine ve e1 ?_
      rw [if_neg hi]
      have es : w64 ((m : Int) - (k : Int)) = ((m - k : Nat) : Int) := by unfold w64; omega
      refine draw_of [(0, true), (1, true), (2, true), (3, true), (4, true), (5, true), (7, true), (8, true), (9, true), (6, false), (10, false), (11, false), (12, false), (13, true)] w.heap.size [] fun w3 hh hb3 => ve es ?_
      have H := H.go (hb3 _)
      have H3 := H
      refine q_from (wr := w) sl38 rfl h0 (Nat.le_of_lt hk) fun v2 hv2 => ve es ?_
      refine q_to (wr := w) sl38 rfl h0 (Nat.le_of_lt hk) fun v1 hv1 => ve es ?_
      refine x_callf H (ih w3 v2 _ (m - k) false (by simp only [List.length_drop]; omega) (by simp only [List.length_drop]; omega) (by omega) (by simp only [List.length_drop]; omega) (H.rd hv2) (hf.drop k)) fun r4 f4 w4 H => vs ?_
      refine ⟨kept_base H3 H, ?_⟩
      refine x_callf H (implRoot_ok (l.take k).length w4 v1 _ (Nat.le_refl _) (H.rd hv1) (hf.take k)) fun r5 f5 w5 H => vs ?_
      refine ⟨kept_base H3 H, ?_⟩
      refine x_lst1 sl38 H (cells_one (Kd.one _ (H.own (.head _)) _ (by simp))) rfl fun f6 v6 w6 H => vs ?_
      refine ⟨kept_base H3 H, ?_⟩
      have hpl := (grown_len (l.drop k).length (l.drop k) (m - k) false (Nat.le_refl _)).1
      simp only [List.length_drop] at hpl
      refine x_appO sl38 H rfl ?_ ?_ fun f7 v7 w7 H => vs ?_
      · simp only [List.length_cons, List.length_nil]; omega
      · simp only [List.length_cons, List.length_nil]; omega
      exact ⟨kept_base H3 H, _, H⟩

theorem implGrownOf_ok (w : World) (v : Value) (l : List (List UInt8)) (m : Int) (h : lists.rd w w.heap.size [v] l) (hf : Few l) :
    ACalls Tryz.prog 63 #[v, .int .i64 m] w fun r w' => ∃ fp, Sep w.heap.size w w' [Ck.own lists fp [r] (grownOf l m)] := by
  have h0 := h
  obtain ⟨A, c, rfl, hc1, hc2, ha⟩ := sl_open h
  have H := Sep.start w
  refine body_of follows Tryz.func63 rfl rfl _ rfl (by kernel_rfl) ?_
  by_cases h40 : (40 : Int) < (l.length : Int)
  · have e : grownOf l m = [] := by unfold grownOf; rw [if_neg (by omega)]
    rw [e]
    refine vs ?_
    refine x_callw (in_ok w _ _ _) ?_
    by_cases h1 : 1 ≤ m ∧ m ≤ (l.length : Int)
    · refine ve (And.intro h1 h40) ?_
      exact ⟨_, H.nothing (sl_zero w)⟩
    · refine ve h1 ?_
      exact ⟨_, H.nothing (sl_zero w)⟩
  · refine vs ?_
    refine x_callw (in_ok w _ _ _) ?_
    by_cases h1 : 1 ≤ m ∧ m ≤ (l.length : Int)
    · refine ve (And.intro h1 h40) ?_
      have e : grownOf l m = grown l m.toNat true := by unfold grownOf; rw [if_pos (by omega)]
      rw [e]
      obtain ⟨q, rfl⟩ : ∃ q : Nat, m = (q : Int) := ⟨m.toNat, by omega⟩
      refine x_callf H (implGrown_ok l.length w _ l q true (Nat.le_refl _) (by omega) (by omega) (by omega) h0 hf) fun r1 f1 w1 H => vs ?_
      exact ⟨_, H⟩
    · refine ve h1 ?_
      have e : grownOf l m = [] := by unfold grownOf; rw [if_neg (by omega)]
      rw [e]
      exact ⟨_, H.nothing (sl_zero w)⟩

theorem specGrown_ok : ∀ (n : Nat) (w : World) (v : Value) (l : List (List UInt8)) (m : Nat) (known : Bool) (_ : l.length ≤ n) (_ : l.length ≤ 40) (_ : 1 ≤ m) (_ : m ≤ l.length) (_ : lists.rd w w.heap.size [v] l) (_ : Few l),
    ACalls Tryz.prog 145 #[v, .int .i64 (m : Int), .bool known] w fun r w' => ∃ fp, Sep w.heap.size w w' [Ck.own lists fp [r] (grown l m known)] := by
  intro n
  induction n with
  | zero => intro w v l m known hn h40 hm1 hm2 h hf; omega
  | succ n ih =>
    intro w v l m known hn h40 hm1 hm2 h hf
    have h0 := h
    obtain ⟨A, c, rfl, hc1, hc2, ha⟩ := sl_open h
    have H := Sep.start w
    refine body_of follows Tryz.func145 rfl rfl _ rfl (by kernel_rfl) ?_
    by_cases he : m = l.length
    · have e0 : ((m : Int) = (l.length : Int)) = True := eq_true (by omega)
      cases known with
      | true =>
        refine ve e0 ?_
        have e : grown l m true = [] := by rw [grown, if_pos he, if_pos rfl]
        rw [e]
        refine x_empO (d := bytes 5) H sl38 fun g w1 H => vs ?_
        exact ⟨_, H⟩
      | false =>
        refine ve e0 ?_
        have e : grown l m false = [rootOf l] := by rw [grown, if_pos he, if_neg (by decide)]
        rw [e]
        refine x_callf H (specRoot_ok l.length w _ l (Nat.le_refl _) h0 hf) fun r5 f5 w5 H => vs ?_
        refine x_lst1 sl38 H (cells_one (Kd.one _ (H.own (.head _)) _ (by simp))) rfl fun f6 v6 w6 H => vs ?_
        exact ⟨_, H⟩
    have e0 : ((m : Int) = (l.length : Int)) = False := eq_false (by omega)
    refine ve e0 ?_
    refine x_callw (half_ok w l.length (by omega)) ?_
    have h2 : 2 ≤ l.length := by omega
    have hk := first_lt h2
    have hk0 := first_pos l.length
    have hu : grown l m known = if m ≤ first l.length then grown (l.take (first l.length)) m known ++ [rootOf (l.drop (first l.length))]
    else grown (l.drop (first l.length)) (m - first l.length) false ++ [rootOf (l.take (first l.length))] := by rw [grown, if_neg he, dif_pos h2]
    rw [hu]
    generalize first l.length = k at *
    by_cases hi : m ≤ k
    · have e1 : ((m : Int) ≤ (k : Int)) := by omega
      refine ve e1 ?_
      rw [if_pos hi]
      refine draw_of [(0, true), (1, true), (2, true), (3, true), (4, true), (6, true), (7, true), (8, true), (5, false), (9, false), (10, false), (11, false), (12, true)] w.heap.size [] fun w3 hh hb3 => vs ?_
      have H := H.go (hb3 _)
      have H3 := H
      refine q_to (wr := w) sl38 rfl h0 (Nat.le_of_lt hk) fun v1 hv1 => vs ?_
      refine q_from (wr := w) sl38 rfl h0 (Nat.le_of_lt hk) fun v2 hv2 => vs ?_
      refine x_callf H (ih w3 v1 _ m known (by simp only [List.length_take]; omega) (by simp only [List.length_take]; omega) hm1 (by simp only [List.length_take]; omega) (H.rd hv1) (hf.take k)) fun r4 f4 w4 H => vs ?_
      refine ⟨kept_base H3 H, ?_⟩
      refine x_callf H (specRoot_ok (l.drop k).length w4 v2 _ (Nat.le_refl _) (H.rd hv2) (hf.drop k)) fun r5 f5 w5 H => vs ?_
      refine ⟨kept_base H3 H, ?_⟩
      refine x_lst1 sl38 H (cells_one (Kd.one _ (H.own (.head _)) _ (by simp))) rfl fun f6 v6 w6 H => vs ?_
      refine ⟨kept_base H3 H, ?_⟩
      have hpl := (grown_len (l.take k).length (l.take k) m known (Nat.le_refl _)).1
      simp only [List.length_take] at hpl
      refine x_appO sl38 H rfl ?_ ?_ fun f7 v7 w7 H => vs ?_
      · simp only [List.length_cons, List.length_nil]; omega
      · simp only [List.length_cons, List.length_nil]; omega
      exact ⟨kept_base H3 H, _, H⟩
    · have e1 : ¬ ((m : Int) ≤ (k : Int)) := by omega
      refine ve e1 ?_
      rw [if_neg hi]
      have es : w64 ((m : Int) - (k : Int)) = ((m - k : Nat) : Int) := by unfold w64; omega
      refine draw_of [(0, true), (1, true), (2, true), (3, true), (4, true), (5, true), (7, true), (8, true), (9, true), (6, false), (10, false), (11, false), (12, false), (13, true)] w.heap.size [] fun w3 hh hb3 => ve es ?_
      have H := H.go (hb3 _)
      have H3 := H
      refine q_from (wr := w) sl38 rfl h0 (Nat.le_of_lt hk) fun v2 hv2 => ve es ?_
      refine q_to (wr := w) sl38 rfl h0 (Nat.le_of_lt hk) fun v1 hv1 => ve es ?_
      refine x_callf H (ih w3 v2 _ (m - k) false (by simp only [List.length_drop]; omega) (by simp only [List.length_drop]; omega) (by omega) (by simp only [List.length_drop]; omega) (H.rd hv2) (hf.drop k)) fun r4 f4 w4 H => vs ?_
      refine ⟨kept_base H3 H, ?_⟩
      refine x_callf H (specRoot_ok (l.take k).length w4 v1 _ (Nat.le_refl _) (H.rd hv1) (hf.take k)) fun r5 f5 w5 H => vs ?_
      refine ⟨kept_base H3 H, ?_⟩
      refine x_lst1 sl38 H (cells_one (Kd.one _ (H.own (.head _)) _ (by simp))) rfl fun f6 v6 w6 H => vs ?_
      refine ⟨kept_base H3 H, ?_⟩
      have hpl := (grown_len (l.drop k).length (l.drop k) (m - k) false (Nat.le_refl _)).1
      simp only [List.length_drop] at hpl
      refine x_appO sl38 H rfl ?_ ?_ fun f7 v7 w7 H => vs ?_
      · simp only [List.length_cons, List.length_nil]; omega
      · simp only [List.length_cons, List.length_nil]; omega
      exact ⟨kept_base H3 H, _, H⟩

theorem specGrownOf_ok (w : World) (v : Value) (l : List (List UInt8)) (m : Int) (h : lists.rd w w.heap.size [v] l) (hf : Few l) :
    ACalls Tryz.prog 98 #[v, .int .i64 m] w fun r w' => ∃ fp, Sep w.heap.size w w' [Ck.own lists fp [r] (grownOf l m)] := by
  have h0 := h
  obtain ⟨A, c, rfl, hc1, hc2, ha⟩ := sl_open h
  have H := Sep.start w
  refine body_of follows Tryz.func98 rfl rfl _ rfl (by kernel_rfl) ?_
  by_cases h40 : (40 : Int) < (l.length : Int)
  · have e : grownOf l m = [] := by unfold grownOf; rw [if_neg (by omega)]
    rw [e]
    refine ve h40 ?_
    refine x_empO (d := bytes 5) H sl38 fun g w1 H => vs ?_
    exact ⟨_, H⟩
  · refine ve h40 ?_
    refine x_callw (l1In_ok w _ _ _) ?_
    by_cases h1 : 1 ≤ m ∧ m ≤ (l.length : Int)
    · refine ve h1 ?_
      have e : grownOf l m = grown l m.toNat true := by unfold grownOf; rw [if_pos (by omega)]
      rw [e]
      obtain ⟨q, rfl⟩ : ∃ q : Nat, m = (q : Int) := ⟨m.toNat, by omega⟩
      refine x_callf H (specGrown_ok l.length w _ l q true (Nat.le_refl _) (by omega) (by omega) (by omega) h0 hf) fun r1 f1 w1 H => vs ?_
      exact ⟨_, H⟩
    · refine ve h1 ?_
      have e : grownOf l m = [] := by unfold grownOf; rw [if_neg (by omega)]
      rw [e]
      refine x_empO (d := bytes 5) H sl38 fun g w1 H => vs ?_
      exact ⟨_, H⟩

theorem few_sm {l : List (List UInt8)} (h : l.length ≤ 1048576 ∧ ∀ y ∈ l, y.length ≤ 1048576) : Few l := fun a ha => Nat.le_trans (h.2 a ha) (by omega)
theorem implRootOf_ok (w : World) (v : Value) (l : List (List UInt8)) (h : lists.rd w w.heap.size [v] l) (hf : Few l) :
    ACalls Tryz.prog 51 #[v] w fun r w' => ∃ fp, Sep w.heap.size w w' [Ck.own (bytes 5) fp [r] (rootOf l)] := implRoot_ok l.length w v l (Nat.le_refl _) h hf
theorem implPathOf_ok (w : World) (v : Value) (l : List (List UInt8)) (i : Int) (h : lists.rd w w.heap.size [v] l) (hf : Few l) :
    ACalls Tryz.prog 96 #[v, .int .i64 i] w fun r w' => ∃ fp, Sep w.heap.size w w' [Ck.own lists fp [r] (pathOf l i)] := implPath_ok l.length w v l i (Nat.le_refl _) h hf
theorem specRootOf_ok (w : World) (v : Value) (l : List (List UInt8)) (h : lists.rd w w.heap.size [v] l) (hf : Few l) :
    ACalls Tryz.prog 53 #[v] w fun r w' => ∃ fp, Sep w.heap.size w w' [Ck.own (bytes 5) fp [r] (rootOf l)] := specRoot_ok l.length w v l (Nat.le_refl _) h hf
theorem specPathOf_ok (w : World) (v : Value) (l : List (List UInt8)) (i : Int) (h : lists.rd w w.heap.size [v] l) (hf : Few l) :
    ACalls Tryz.prog 95 #[v, .int .i64 i] w fun r w' => ∃ fp, Sep w.heap.size w w' [Ck.own lists fp [r] (pathOf l i)] := specPath_ok l.length w v l i (Nat.le_refl _) h hf
end Go.Proofs.YtdljbekkckfmnaaGreat.V
