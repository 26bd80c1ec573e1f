/- Items, queues and posts that are alike, told by the laws. -/
import Derived.Test.YtdljbekkckfmnaaGreatWqr
namespace Go.Proofs.YtdljbekkckfmnaaGreat.V
open Go Go.RowKit
set_option maxRecDepth 100000
set_option maxHeartbeats 4000000
set_option linter.unusedSimpArgs false
set_option linter.unusedVariables false
set_option pp.deepTerms false
set_option pp.deepTerms.threshold 3

theorem lawsSameItem_ok (w : World) (cs ds : List Value) (x : MItem) (h : kItem.rd w w.heap.size cs x) (h' : kItem.rd w w.heap.size ds x) :
    ACalls Tryz.prog 32 #[.agg cs.toArray, .agg ds.toArray] w fun r w' => r = .bool true ∧ Below w.heap.size w w' := by
  obtain ⟨u, rfl, _, _, _, hb1⟩ := kItem_open h
  obtain ⟨u', rfl, _, _, _, hb2⟩ := kItem_open h'
  have H := Sep.start w
  refine body_of follows Tryz.func32 rfl rfl _ rfl (by kernel_rfl) (vs ?_)
  refine x_bx H [.string ⟨(x.f_Route).toArray⟩, .int .i64 x.f_Topic, .int .i64 x.f_Due, u] fun g1 w1 H => vs ?_
  refine x_bx H [.string ⟨(x.f_Route).toArray⟩, .int .i64 x.f_Topic, .int .i64 x.f_Due, u'] fun g2 w2 H => vs ?_
  refine x_ld H sc9 ?_
  refine vs ?_
  refine x_ld H sc9 ?_
  refine vs ?_
  refine x_ld H sc3 ?_
  refine vs ?_
  refine x_ld H sc3 ?_
  refine vs ?_
  refine x_ld H sc3 ?_
  refine vs ?_
  refine x_ld H sc3 ?_
  refine vs ?_
  refine x_ld H sc22 ?_
  refine vs ?_
  refine x_str Tryz.underlying22 Tryz.underlying5 Tryz.underlying9 (H.rd hb1) (vs ?_)
  refine x_ld H sc22 ?_
  refine vs ?_
  refine x_str Tryz.underlying22 Tryz.underlying5 Tryz.underlying9 (H.rd hb2) (vs ?_)
  first | exact ⟨rfl, H.bel⟩ | exact H.bel
theorem lawsSameItems_ok (w : World) (v v' : Value) (l : List MItem) (h : items.rd w w.heap.size [v] l) (h' : items.rd w w.heap.size [v'] l) :
    ACalls Tryz.prog 84 #[v, v'] w fun r w' => r = .bool true ∧ Below w.heap.size w w' := by
  have hla := sl_len h
  obtain ⟨A, c, rfl, hc1, hc2, ha⟩ := sl_open h
  obtain ⟨B, c', rfl, hc1', hc2', hb⟩ := sl_open h'
  refine body_of follows Tryz.func84 rfl rfl _ rfl (by kernel_rfl) (vs ?_)
  refine loop_at (σ := Nat) (fun k => [(0, .slice A l.length c), (1, .slice B l.length c'), (5, .int .i64 (k : Int))])
    (fun k w' => k ≤ l.length ∧ Sep w.heap.size w w' []) (fun k => l.length - k) 0 (vs trivial) ⟨Nat.zero_le _, Sep.start w⟩ ?_
  rintro k s w2 ⟨hk, H⟩
  refine vs (ways ?_ ?_)
  · refine vh fun hlt => ?_
    have hk2 : k < l.length := by omega
    refine draw_at [(0, true), (1, true), (2, true), (3, true), (4, true), (5, true), (6, true), (7, true), (8, false), (9, true)] fun w3 hh hb3 => vs ?_
    have H := H.go (hb3 _)
    refine q_ele H sl24 rfl k hk2 ha rfl fun ad es hd1 hr hcl => ?_
    obtain ⟨u, rfl, _, _, _, _⟩ := kItem_open hr
    refine vs ?_
    refine q_lds st32 hcl rfl (Nat.lt_of_lt_of_le hd1 H.ns) ?_
    refine vs ?_
    refine q_ele H sl24 rfl k hk2 hb rfl fun ad2 es2 hd2 hr2 hcl2 => ?_
    obtain ⟨u2, rfl, _, _, _, _⟩ := kItem_open hr2
    refine vs ?_
    refine q_lds st32 hcl2 rfl (Nat.lt_of_lt_of_le hd2 H.ns) ?_
    refine vs ?_
    refine x_call (lawsSameItem_ok w3 _ _ l[k] (H.rd hr) (H.rd hr2)) fun _ w4 ⟨e, hb4⟩ => ?_
    subst e
    refine vs ?_
    refine ⟨kept_of hb4 (Nat.le_refl _), ?_⟩
    have H := H.go hb4
    exact ⟨k + 1, i64_eq (by unfold w64; omega), ⟨hk2, H⟩, by omega⟩
  · refine vh fun hlt => ?_
    first | exact ⟨rfl, H.bel⟩ | exact H.bel
theorem lawsSamePost_ok (w : World) (cs ds : List Value) (p : MPost) (h : kPost.rd w w.heap.size cs p) (h' : kPost.rd w w.heap.size ds p) :
    ACalls Tryz.prog 31 #[.agg cs.toArray, .agg ds.toArray] w fun r w' => r = .bool true ∧ Below w.heap.size w w' := by
  obtain ⟨v0, v2, rfl, hq1, _, hb1, _⟩ := kPost_open h
  obtain ⟨u0, u2, rfl, hq2, _, hb2, _⟩ := kPost_open h'
  have H := Sep.start w
  refine body_of follows Tryz.func31 rfl rfl _ rfl (by kernel_rfl) (vs ?_)
  refine x_bx H [v0, .int .i64 p.f_Time, v2, .int .i64 p.f_Sure] fun g1 w1 H => vs ?_
  refine x_bx H [u0, .int .i64 p.f_Time, u2, .int .i64 p.f_Sure] fun g2 w2 H => vs ?_
  refine x_ld H sc24 ?_
  refine vs ?_
  refine x_ld H sc24 ?_
  refine vs ?_
  refine x_callb H (lawsSameItems_ok w2 _ _ p.f_Queue (H.rd hq1) (H.rd hq2)) fun w3 H => vs ?_
  refine x_ld H sc3 ?_
  refine vs ?_
  refine x_ld H sc3 ?_
  refine vs ?_
  refine x_ld H sc22 ?_
  refine vs ?_
  refine x_str Tryz.underlying22 Tryz.underlying5 Tryz.underlying9 (H.rd hb1) (vs ?_)
  refine x_ld H sc22 ?_
  refine vs ?_
  refine x_str Tryz.underlying22 Tryz.underlying5 Tryz.underlying9 (H.rd hb2) (vs ?_)
  refine x_ld H sc3 ?_
  refine vs ?_
  refine x_ld H sc3 ?_
  refine vs ?_
  first | exact ⟨rfl, H.bel⟩ | exact H.bel
end Go.Proofs.YtdljbekkckfmnaaGreat.V
