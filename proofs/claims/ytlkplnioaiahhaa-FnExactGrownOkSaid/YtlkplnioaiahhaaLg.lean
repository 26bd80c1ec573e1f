/- The law FnExactGrownOk, walked. Laid by a program. -/
import Derived.Test.YtlkplnioaiahhaaZ4
import Derived.Test.YtlkplnioaiahhaaWm
import Derived.Test.YtlkplnioaiahhaaWx
import Derived.Test.YtlkplnioaiahhaaWt
namespace Go.Proofs.Ytlkplnioaiahhaa.V
open Go Go.RowKit
set_option maxRecDepth 100000
set_option maxHeartbeats 8000000
set_option linter.unusedSimpArgs false
set_option linter.unusedVariables false
set_option pp.deepTerms false
set_option pp.deepTerms.threshold 3
theorem FnExactGrownOk_ok (w : World) (v0 : Value) (x0 : (List UInt8)) (h0 : ((Kd.slice 5 Kd.u8)).rd w w.heap.size [v0] x0) (v1 : Value) (x1 : (List UInt8)) (h1 : ((Kd.slice 5 Kd.u8)).rd w w.heap.size [v1] x1) (v2 : Value) (x2 : Int) (h2 : (Kd.i64).rd w w.heap.size [v2] x2) (v3 : Value) (x3 : Int) (h3 : (Kd.i64).rd w w.heap.size [v3] x3) (v4 : Value) (x4 : (List (List UInt8))) (h4 : ((Kd.slice 22 (Kd.slice 5 Kd.u8))).rd w w.heap.size [v4] x4) :
    ACalls Try.prog 8 #[v0, v1, v2, v3, v4] w fun r w' => r = .bool true ∧ Below w.heap.size w w' := by
  have hv0 := h0
  have hlm0 := sl_len h0
  obtain ⟨A0, k0, rfl, _, _, _⟩ := sl_open h0
  have hv1 := h1
  have hlm1 := sl_len h1
  obtain ⟨A1, k1, rfl, _, _, _⟩ := sl_open h1
  have hr2 := h2.2
  obtain rfl := (List.cons.inj h2.1).1
  have hr3 := h3.2
  obtain rfl := (List.cons.inj h3.1).1
  have hv4 := h4
  have hlm4 := sl_len h4
  obtain ⟨A4, k4, rfl, _, _, _⟩ := sl_open h4
  have H := Sep.start w
  refine body_of follows Try.func8 rfl rfl _ rfl (by kernel_rfl) (vs ?_)
  refine ways ?_ ?_
  · refine vh fun _ => ?_
    exact H.bel
  refine vh fun hs0 => ?_
  refine ways ?_ ?_
  · refine vh fun _ => ?_
    exact H.bel
  refine vh fun hs1 => ?_
  refine x_call (szByteSS_ok w _ _ _ (H.rd h4) (by omega) (by omega)) fun _ w1 ⟨z4, e, hb, lo4, hi4, s⟩ => ?_
  subst e
  have H := H.go hb
  refine vs (ways ?_ ?_)
  · refine vh fun _ => ?_
    exact H.bel
  refine vh fun hge => ?_
  have hs4 := s (by omega)
  refine x_callf H (toByteS_ok w1 _ _ (H.rd h0) (by omega)) fun r1 f1 w2 H => vs ?_
  refine x_callf H (toByteS_ok w2 _ _ (H.rd h1) (by omega)) fun r2 f2 w3 H => vs ?_
  refine x_callf H (toByteSS_ok w3 _ _ (H.rd h4) hs4) fun r5 f5 w4 H => vs ?_
  refine x_callb H (specGrownOk_ok w4 _ x0 _ x1 x2 x3 _ x4 (H.own (.tail _ (.tail _ (.head _)))) (H.own (.tail _ (.head _))) (H.own (.head _)) (by omega) (few_sm' hs4)) fun w5 H => vs ?_
  refine x_callf H (toByteS_ok w5 _ _ (H.rd h0) (by omega)) fun r6 f6 w6 H => vs ?_
  refine x_callf H (toByteS_ok w6 _ _ (H.rd h1) (by omega)) fun r7 f7 w7 H => vs ?_
  refine x_callf H (toByteSS_ok w7 _ _ (H.rd h4) hs4) fun r10 f10 w8 H => vs ?_
  refine x_callb H (implGrownOk_ok w8 _ x0 _ x1 x2 x3 _ x4 (H.own (.tail _ (.tail _ (.head _)))) (H.own (.tail _ (.head _))) (H.own (.head _)) (by omega) (few_sm' hs4)) fun w9 H => vs ?_
  refine x_callf H (toByteS_ok w9 _ _ (H.rd h0) (by omega)) fun r11 f11 w10 H => vs ?_
  refine x_callb H (eqByteS_ok w10 _ _ _ _ (H.own (.tail _ (.tail _ (.tail _ (.head _))))) (H.own (.head _))) fun w11 H => vs ?_
  refine x_callf H (toByteS_ok w11 _ _ (H.rd h1) (by omega)) fun r12 f12 w12 H => vs ?_
  refine x_callb H (eqByteS_ok w12 _ _ _ _ (H.own (.tail _ (.tail _ (.tail _ (.head _))))) (H.own (.head _))) fun w13 H => vs ?_
  refine x_callf H (toByteSS_ok w13 _ _ (H.rd h4) hs4) fun r13 f13 w14 H => vs ?_
  refine x_callb H (eqByteSS_ok w14 _ _ x4 (H.own (.tail _ (.tail _ (.tail _ (.head _))))) (H.own (.head _))) fun w15 H => vs ?_
  exact H.bel
end Go.Proofs.Ytlkplnioaiahhaa.V
