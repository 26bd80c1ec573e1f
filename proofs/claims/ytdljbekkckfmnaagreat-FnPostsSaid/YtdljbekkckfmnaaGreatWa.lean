/- The laws' helpers on bytes: copies, comparisons, sizes, marks. -/
import Derived.Test.YtdljbekkckfmnaaGreatVs
namespace Go.Proofs.YtdljbekkckfmnaaGreat.V
open Go Go.RowKit
set_option maxRecDepth 100000
set_option maxHeartbeats 4000000
set_option linter.unusedSimpArgs false
set_option linter.unusedVariables false
set_option pp.deepTerms false
set_option pp.deepTerms.threshold 3

theorem l1In_ok (w : World) (x lo hi : Int) : ACalls Tryz.prog 82 #[.int .i64 x, .int .i64 lo, .int .i64 hi] w fun r w' => r = .bool (decide (lo ≤ x ∧ x ≤ hi)) ∧ w' = w := by
  refine body_of follows Tryz.func82 rfl rfl _ rfl (by kernel_rfl) (vs ?_)
  exact ways (vh fun _ => trivial) (vh fun _ => trivial)
theorem in_ok (w : World) (x lo hi : Int) : ACalls Tryz.prog 61 #[.int .i64 x, .int .i64 lo, .int .i64 hi] w fun r w' => r = .bool (decide (lo ≤ x ∧ x ≤ hi)) ∧ w' = w := by
  refine body_of follows Tryz.func61 rfl rfl _ rfl (by kernel_rfl) (vs ?_)
  exact ways (vh fun _ => trivial) (vh fun _ => trivial)

theorem take_set {α : Type} (a : List α) (z : α) (k : Nat) (hk : k < a.length) : (a.take k ++ List.replicate (a.length - k) z).set k a[k] = a.take (k + 1) ++ List.replicate (a.length - (k + 1)) z := by
  apply List.ext_getElem?
  intro i
  rw [List.getElem?_set]
  simp only [List.length_append, List.length_take, List.length_replicate]
  by_cases h : k = i
  · subst h
    rw [if_pos rfl, if_pos (by omega), List.getElem?_append_left (by simp; omega)]
    simp [hk]
  · rw [if_neg h, List.getElem?_append, List.getElem?_append]
    simp only [List.length_take]
    by_cases h1 : i < k
    · rw [if_pos (by omega), if_pos (by omega)]
      simp [List.getElem?_take, h1, show i < k + 1 by omega]
    · rw [if_neg (by omega), if_neg (by omega)]
      simp only [List.getElem?_replicate]
      congr 1
      simp; omega
theorem take_zero_repl {α : Type} (a : List α) (z : α) : a.take 0 ++ List.replicate (a.length - 0) z = List.replicate a.length z := by simp
theorem take_all_repl {α : Type} (a : List α) (z : α) {k : Nat} (h : k = a.length) : a.take k ++ List.replicate (a.length - k) z = a := by subst h; simp
theorem len_tr {α : Type} (a : List α) (z : α) {k : Nat} (h : k ≤ a.length) : (a.take k ++ List.replicate (a.length - k) z).length = a.length := by simp; omega

theorem toByteS_ok (w : World) (v : Value) (a : List UInt8) (h : (bytes 5).rd w w.heap.size [v] a) (hl : a.length ≤ 281474976710656) :
    ACalls Tryz.prog 92 #[v] w fun r w' => ∃ fp, Sep w.heap.size w w' [Ck.own (bytes 5) fp [r] a] := by
  obtain ⟨A, c, rfl, hc1, hc2, ha⟩ := sl_open h
  have H := Sep.start w
  refine body_of follows Tryz.func92 rfl rfl _ rfl (by kernel_rfl) (vs ?_)
  refine x_mk H pl_u8 (x := 0) sl22 trivial (by omega) (by omega) fun g w1 H => vs ?_
  refine loop_at (σ := Nat) (fun k => [(0, .slice A a.length c), (3, .slice (some ⟨g, 0, none⟩) a.length a.length), (4, .int .i64 (k : Int))])
    (fun k w' => k ≤ a.length ∧ Sep w.heap.size w w' [Ck.own (bytes 5) [g] [.slice (some ⟨g, 0, none⟩) a.length a.length] (a.take k ++ List.replicate (a.length - k) 0)]) (fun k => a.length - k) 0 (vs trivial) ⟨Nat.zero_le _, by rw [take_zero_repl]; exact H⟩ ?_
  rintro k s w2 ⟨hk, H⟩
  refine vs (ways ?_ ?_)
  · refine vh fun hlt => ?_
    have hk2 : k < a.length := by omega
    refine x_el pl_u8 sl22 (ha.mono H.bel) (by omega) hlt fun ad hb hc _ => vs ?_
    refine x_load sc5 hc (vs ?_)
    refine x_index sl22 rfl (by omega) hlt (vs ?_)
    refine x_set H pl_u8 sc5 (x := a[k]) hk2 trivial fun w3 H => vs ?_
    rw [take_set a 0 k hk2] at H
    exact ⟨k + 1, i64_eq (by unfold w64; omega), ⟨hk2, H⟩, by omega⟩
  · refine vh fun hlt => ?_
    rw [take_all_repl a 0 (by omega)] at H
    exact ⟨_, H⟩

theorem take_ext {α : Type} {a b : List α} {k : Nat} (h : a.take k = b.take k) (hk : k < a.length) (hk2 : k < b.length) (e : a[k] = b[k]) : a.take (k + 1) = b.take (k + 1) := by
  rw [List.take_add_one, List.take_add_one, h, List.getElem?_eq_getElem hk, List.getElem?_eq_getElem hk2, e]

theorem eqByteS_ok (w : World) (v v' : Value) (a b : List UInt8) (h : (bytes 5).rd w w.heap.size [v] a) (h' : (bytes 5).rd w w.heap.size [v'] b) :
    ACalls Tryz.prog 40 #[v, v'] w fun r w' => r = .bool (decide (a = b)) ∧ Below w.heap.size w w' := by
  have hl := sl_len h
  obtain ⟨A, c, rfl, hc1, hc2, ha⟩ := sl_open h
  obtain ⟨A', c', rfl, hc1', hc2', ha'⟩ := sl_open h'
  refine body_of follows Tryz.func40 rfl rfl _ rfl (by kernel_rfl) (vs (ways ?_ ?_))
  · refine vh fun heq => ?_
    refine loop_at (σ := Nat) (fun k => [(0, .slice A a.length c), (1, .slice A' b.length c'), (5, .int .i64 (k : Int))])
      (fun k w' => k ≤ a.length ∧ a.take k = b.take k ∧ Below w.heap.size w w') (fun k => a.length - k) 0 (vs trivial) ⟨Nat.zero_le _, rfl, Below.refl ..⟩ ?_
    rintro k s w2 ⟨hk, ht, hb⟩
    refine vs (ways ?_ ?_)
    · refine vh fun hlt => ?_
      have hk2 : k < a.length := by omega
      obtain ⟨h1, h2, h3⟩ := (pl_u8.slRd.1 ha).2 k hk2
      obtain ⟨h4, h5, h6⟩ := (pl_u8.slRd.1 ha').2 k (by omega)
      refine draw_of [(0, true), (1, true), (2, true), (3, true), (4, true), (5, true), (6, true), (7, true), (8, true)] w.heap.size [] fun w3 hh hb3 => vs ?_
      refine qx_index sl22 h1 (by omega) hlt (vs ?_)
      refine qx_load sc5 (((hb.trans (hb3 _)).cell (by rw [Kd.add_block]; omega)).trans h3) (by rw [Kd.add_block]; exact h2) (by simp) (vs ?_)
      refine qx_index sl22 h4 (by omega) (by omega) (vs ?_)
      refine qx_load sc5 (((hb.trans (hb3 _)).cell (by rw [Kd.add_block]; omega)).trans h6) (by rw [Kd.add_block]; exact h5) (by simp) (vs ?_)
      refine ways ?_ ?_
      · refine vh fun heq2 => ?_
        exact ⟨k + 1, i64_eq (by unfold w64; omega), ⟨hk2, take_ext ht hk2 (by omega) heq2, hb.trans (hb3 _)⟩, by omega⟩
      · refine vh fun hne => ?_
        have : ¬ a = b := fun e => hne (by subst e; rfl)
        simp only [this, decide_false, true_and]
        exact hb.trans (hb3 _)
    · refine vh fun hlt => ?_
      have : a = b := by
        rw [List.take_of_length_le (by omega), List.take_of_length_le (by omega)] at ht; exact ht
      simp only [this, decide_true, true_and]
      exact hb
  · refine vh fun hne => ?_
    have : ¬ a = b := fun e => hne (by rw [e])
    simp only [this, decide_false, true_and]
    exact Below.refl ..

theorem szByteS_ok (w : World) (v : Value) (a : List UInt8) (left : Int) (h : (bytes 5).rd w w.heap.size [v] a) (h0 : 0 ≤ left) (h1 : left ≤ 1048576) :
    ACalls Tryz.prog 90 #[v, .int .i64 left] w fun r w' => ∃ z : Int, r = .int .i64 z ∧ Below w.heap.size w w' ∧ -1 ≤ z ∧ z ≤ left ∧ (0 ≤ z → a.length ≤ 1048576) := by
  have hl := sl_len h
  obtain ⟨A, c, rfl, hc1, hc2, ha⟩ := sl_open h
  refine body_of follows Tryz.func90 rfl rfl _ rfl (by kernel_rfl) (vs ?_)
  rw [w64_id (n := left - a.length) (by omega) (by omega)]
  refine ways ?_ ?_
  · refine vh fun hlt => ?_
    exact ⟨-1, rfl, Below.refl .., by omega, by omega, by omega⟩
  · refine vh fun hlt => ?_
    exact ⟨_, rfl, Below.refl .., by omega, by omega, by omega⟩
end Go.Proofs.YtdljbekkckfmnaaGreat.V
