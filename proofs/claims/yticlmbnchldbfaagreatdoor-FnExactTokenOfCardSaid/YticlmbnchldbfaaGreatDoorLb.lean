/- The law FnExactTokenOf, walked. -/
import Derived.Test.YticlmbnchldbfaaGreatDoorWto
namespace Go.Proofs.YticlmbnchldbfaaGreatDoor.V
open Go Go.RowKit
set_option maxRecDepth 100000
set_option maxHeartbeats 4000000
set_option linter.unusedSimpArgs false
set_option linter.unusedVariables false
set_option pp.deepTerms false
set_option pp.deepTerms.threshold 3
theorem FnExactTokenOf_ok (w : World) (v0 : Value) (x0 : (List UInt8)) (h0 : ((Kd.slice 5 Kd.u8)).rd w w.heap.size [v0] x0) (v1 : Value) (x1 : (List UInt8)) (h1 : (Kd.str).rd w w.heap.size [v1] x1) (ht : Libs w) :
    ACalls Tryz.prog 5 #[v0, v1] w fun r w' => r = .bool true ∧ Below w.heap.size w w' := by
  have hv0 := h0
  have hlm0 := sl_len h0
  obtain ⟨A0, k0, rfl, _, _, _⟩ := sl_open h0
  have hr1 := h1.2
  obtain rfl := (List.cons.inj h1.1).1
  have H := Sep.start w
  refine body_of follows Tryz.func5 rfl rfl _ rfl (by kernel_rfl) (vs ?_)
  refine ways ?_ ?_
  · refine vh fun _ => ?_
    exact H.bel
  refine vh fun hs0 => ?_
  refine ways ?_ ?_
  · refine vh fun _ => ?_
    exact H.bel
  refine vh fun hs1 => ?_
  have hsm := tokenOf_sm (k := x0) (s := x1) (by omega)
  refine x_callf H (toByteS_ok w _ _ (H.rd h0) (by omega)) fun r1 f1 w1 H => vs ?_
  refine x_callb H (specTokenOf_ok w1 _ x0 x1 (H.own (.head _)) (by omega) (ht.below H.bel)) fun w2 H => vs ?_
  refine x_al H st25 fun g5 w3 H => vs ?_
  refine x_sta H st25 (vs := [.string ⟨(tokenOf x0 x1).1.f_Route.toArray⟩, .int .i64 (tokenOf x0 x1).1.f_Until]) (h1 := oneT) fun w4 H => vs ?_
  refine x_callf H (toByteS_ok w4 _ _ (H.rd h0) (by omega)) fun r5 f5 w5 H => vs ?_
  refine x_callb H (implTokenOf_ok w5 _ x0 x1 (H.own (.head _)) (by omega) (ht.below H.bel)) fun w6 H => vs ?_
  refine x_al H st25 fun g8 w7 H => vs ?_
  refine x_sta H st25 (vs := [.string ⟨(tokenOf x0 x1).1.f_Route.toArray⟩, .int .i64 (tokenOf x0 x1).1.f_Until]) (h1 := oneT) fun w8 H => vs ?_
  refine x_lda H st25 ?_
  refine vs ?_
  refine x_lda H st25 ?_
  refine vs ?_
  refine x_callb H (eqToken_ok w8 _ _ (tokenOf x0 x1).1 (kToken_of _ (by omega) hsm.2) (kToken_of _ (by omega) hsm.2)) fun w9 H => vs ?_
  refine x_callf H (toByteS_ok w9 _ _ (H.rd h0) (by omega)) fun r9 f9 w10 H => vs ?_
  refine x_callb H (eqByteS_ok w10 _ _ x0 x0 (H.own (.tail _ (.tail _ (.head _)))) (H.own (.head _))) fun w11 H => vs ?_
  exact H.bel
end Go.Proofs.YticlmbnchldbfaaGreatDoor.V
