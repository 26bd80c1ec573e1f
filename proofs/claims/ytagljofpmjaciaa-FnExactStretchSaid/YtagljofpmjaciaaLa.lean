/- The law FnExactStretch, walked. Laid by a program. -/
import Derived.Test.YtagljofpmjaciaaWmc
import Derived.Test.YtagljofpmjaciaaWm
namespace Go.Proofs.Ytagljofpmjaciaa.V
open Go Go.RowKit
set_option maxRecDepth 100000
set_option maxHeartbeats 8000000
set_option linter.unusedSimpArgs false
set_option linter.unusedVariables false
set_option pp.deepTerms false
set_option pp.deepTerms.threshold 3
theorem FnExactStretch_ok (w : World) (v0 : Value) (x0 : (List UInt8)) (h0 : ((Kd.slice 5 Kd.u8)).rd w w.heap.size [v0] x0) (v1 : Value) (x1 : (List UInt8)) (h1 : ((Kd.slice 5 Kd.u8)).rd w w.heap.size [v1] x1) (v2 : Value) (x2 : Int) (h2 : (Kd.i64).rd w w.heap.size [v2] x2) (v3 : Value) (x3 : Int) (h3 : (Kd.i64).rd w w.heap.size [v3] x3) :
    ACalls Try.prog 6 #[v0, v1, v2, v3] w fun r w' => r = .bool true ∧ Below w.heap.size w w' := by
  have hv0 := h0
  have hlm0 := sl_len h0
  obtain ⟨A0, k0, rfl, _, _, _⟩ := sl_open h0
  have hv1 := h1
  have hlm1 := sl_len h1
  obtain ⟨A1, k1, rfl, _, _, _⟩ := sl_open h1
  have hr2 := h2.2
  obtain rfl := (List.cons.inj h2.1).1
  have hr3 := h3.2
  obtain rfl := (List.cons.inj h3.1).1
  have H := Sep.start w
  refine body_of follows Try.func6 rfl rfl _ rfl (by kernel_rfl) (vs ?_)
  refine ways ?_ ?_
  · refine vh fun _ => ?_
    exact H.bel
  refine vh fun hs0 => ?_
  refine ways ?_ ?_
  · refine vh fun _ => ?_
    exact H.bel
  refine vh fun hs1 => ?_
  refine x_callf H (toByteS_ok w _ _ (H.rd h0) (by omega)) fun r1 f1 w1 H => vs ?_
  refine x_callf H (toByteS_ok w1 _ _ (H.rd h1) (by omega)) fun r2 f2 w2 H => vs ?_
  refine x_callf H (specStretch_ok w2 _ x0 _ x1 x2 x3 (H.own (.tail _ (.head _))) (H.own (.head _))) fun v5_0 f5_0 w3 H => vs ?_
  refine x_callf H (toByteS_ok w3 _ _ (H.rd h0) (by omega)) fun r6 f6 w4 H => vs ?_
  refine x_callf H (toByteS_ok w4 _ _ (H.rd h1) (by omega)) fun r7 f7 w5 H => vs ?_
  refine x_callf H (implStretch_ok w5 _ x0 _ x1 x2 x3 (H.own (.tail _ (.head _))) (H.own (.head _))) fun v10_0 f10_0 w6 H => vs ?_
  refine x_callb H (eqByteS_ok w6 _ _ _ _ (H.own (.head _)) (H.own (.tail _ (.tail _ (.tail _ (.head _)))))) fun w7 H => vs ?_
  refine x_callf H (toByteS_ok w7 _ _ (H.rd h0) (by omega)) fun r11 f11 w8 H => vs ?_
  refine x_callb H (eqByteS_ok w8 _ _ _ _ (H.own (.tail _ (.tail _ (.tail _ (.head _))))) (H.own (.head _))) fun w9 H => vs ?_
  refine x_callf H (toByteS_ok w9 _ _ (H.rd h1) (by omega)) fun r12 f12 w10 H => vs ?_
  refine x_callb H (eqByteS_ok w10 _ _ _ _ (H.own (.tail _ (.tail _ (.tail _ (.head _))))) (H.own (.head _))) fun w11 H => vs ?_
  have ht0 : (x0).length ≤ 1099511627776 := by omega
  have ht1 : (x1).length ≤ 1099511627776 := by omega
  have H := H.front (h := (.there (.there (.there (.there .here)))))
  refine x_call (markByteS_ok H (1) (by omega)) fun _ w12 ⟨e, fm13, H⟩ => ?_
  subst e
  refine vs ?_
  have H := H.front (h := (.there (.there (.there (.there .here)))))
  refine x_call (markByteS_ok H (1 + (x0).length) (by omega)) fun _ w13 ⟨e, fm14, H⟩ => ?_
  subst e
  have nk : ¬ ((1 + (x0).length + (x1).length : Nat) : Int) < 0 := by omega
  refine ve nk ?_
  refine x_callb H (eqByteS_ok w13 _ _ _ _ (H.own (.tail _ (.tail _ (.tail _ (.tail _ (.head _)))))) (H.own (.tail _ (.tail _ (.tail _ (.tail _ (.tail _ (.head _)))))))) fun w14 H => vs ?_
  have hg0 : (stretch x0 x1 x2 x3).length ≤ 1152921504606846976 := (by have := stretch_len x0 x1 x2 x3; omega)
  have H := H.front (h := (.there (.there (.there (.there .here)))))
  refine x_call (markByteS_ok H (1) (by omega)) fun _ w15 ⟨e, fm15, H⟩ => ?_
  subst e
  refine vs ?_
  refine x_callw (heldByteS_ok w15 _ (stretch x0 x1 x2 x3) (1) (H.own (.head _)) (by omega)) ?_
  have nn16 : ¬ ((1 + (stretch x0 x1 x2 x3).length : Nat) : Int) < 0 := by omega
  refine ve nn16 ?_
  refine x_callf H (toByteS_ok w15 _ _ (H.rd h0) (by omega)) fun r17 f17 w16 H => vs ?_
  refine x_callf H (toByteS_ok w16 _ _ (H.rd h1) (by omega)) fun r18 f18 w17 H => vs ?_
  refine x_callf H (implStretch_ok w17 _ x0 _ x1 x2 x3 (H.own (.tail _ (.head _))) (H.own (.head _))) fun v21_0 f21_0 w18 H => vs ?_
  refine x_callb H (eqByteS_ok w18 _ _ _ _ (H.own (.head _)) (H.own (.tail _ (.tail _ (.tail _ (.tail _ (.tail _ (.tail _ (.tail _ (.tail _ (.head _))))))))))) fun w19 H => vs ?_
  refine x_callw (heldByteS_ok w19 _ (stretch x0 x1 x2 x3) (1) (H.own (.tail _ (.tail _ (.tail _ (.head _))))) (by omega)) ?_
  have nn22 : ¬ ((1 + (stretch x0 x1 x2 x3).length : Nat) : Int) < 0 := by omega
  refine ve nn22 ?_
  exact H.bel
end Go.Proofs.Ytagljofpmjaciaa.V
