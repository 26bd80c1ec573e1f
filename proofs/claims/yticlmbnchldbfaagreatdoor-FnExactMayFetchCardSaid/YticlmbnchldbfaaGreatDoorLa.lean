/- The law FnExactMayFetch, walked. Laid by a program. -/
import Derived.Test.YticlmbnchldbfaaGreatDoorWto
namespace Go.Proofs.YticlmbnchldbfaaGreatDoor.V
open Go Go.RowKit
set_option maxRecDepth 100000
set_option maxHeartbeats 4000000
set_option linter.unusedSimpArgs false
set_option linter.unusedVariables false
set_option pp.deepTerms false
set_option pp.deepTerms.threshold 3
theorem FnExactMayFetch_ok (w : World) (v0 : Value) (x0 : (List UInt8)) (h0 : ((Kd.slice 5 Kd.u8)).rd w w.heap.size [v0] x0) (v1 : Value) (x1 : (List UInt8)) (h1 : (Kd.str).rd w w.heap.size [v1] x1) (v2 : Value) (x2 : (List UInt8)) (h2 : (Kd.str).rd w w.heap.size [v2] x2) (v3 : Value) (x3 : Int) (h3 : (Kd.i64).rd w w.heap.size [v3] x3) (ht : Libs w) :
    ACalls Tryz.prog 4 #[v0, v1, v2, v3] w fun r w' => r = .bool true ∧ Below w.heap.size w w' := by
  have hv0 := h0
  have hlm0 := sl_len h0
  obtain ⟨A0, k0, rfl, _, _, _⟩ := sl_open h0
  have hr1 := h1.2
  obtain rfl := (List.cons.inj h1.1).1
  have hr2 := h2.2
  obtain rfl := (List.cons.inj h2.1).1
  have hr3 := h3.2
  obtain rfl := (List.cons.inj h3.1).1
  have H := Sep.start w
  refine body_of follows Tryz.func4 rfl rfl _ rfl (by kernel_rfl) (vs ?_)
  refine ways ?_ ?_
  · refine vh fun _ => ?_
    exact H.bel
  refine vh fun hs0 => ?_
  refine ways ?_ ?_
  · refine vh fun _ => ?_
    exact H.bel
  refine vh fun hs1 => ?_
  refine ways ?_ ?_
  · refine vh fun _ => ?_
    exact H.bel
  refine vh fun hs2 => ?_
  refine x_callf H (toByteS_ok w _ _ (H.rd h0) (by omega)) fun r1 f1 w1 H => vs ?_
  refine x_callb H (specMayFetch_ok w1 _ x0 x1 x2 x3 (H.own (.head _)) (by omega) (ht.below H.bel)) fun w2 H => vs ?_
  refine x_callf H (toByteS_ok w2 _ _ (H.rd h0) (by omega)) fun r5 f5 w3 H => vs ?_
  refine x_callb H (implMayFetch_ok w3 _ x0 x1 x2 x3 (H.own (.head _)) (by omega) (ht.below H.bel)) fun w4 H => vs ?_
  refine x_callf H (toByteS_ok w4 _ _ (H.rd h0) (by omega)) fun r9 f9 w5 H => vs ?_
  refine x_callb H (eqByteS_ok w5 _ _ _ _ (H.own (.tail _ (.head _))) (H.own (.head _))) fun w6 H => vs ?_
  exact H.bel
end Go.Proofs.YticlmbnchldbfaaGreatDoor.V
