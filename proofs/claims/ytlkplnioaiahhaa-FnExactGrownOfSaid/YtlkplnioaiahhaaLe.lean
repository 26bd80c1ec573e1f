/- The law FnExactGrownOf, walked. Laid by a program. -/
import Derived.Test.YtlkplnioaiahhaaZ1
import Derived.Test.YtlkplnioaiahhaaWm
import Derived.Test.YtlkplnioaiahhaaWx
import Derived.Test.YtlkplnioaiahhaaWt
namespace Go.Proofs.Ytlkplnioaiahhaa.V
open Go Go.RowKit
set_option maxRecDepth 100000
set_option maxHeartbeats 8000000
set_option linter.unusedSimpArgs false
set_option linter.unusedVariables false
set_option pp.deepTerms false
set_option pp.deepTerms.threshold 3
theorem FnExactGrownOf_ok (w : World) (v0 : Value) (x0 : (List (List UInt8))) (h0 : ((Kd.slice 22 (Kd.slice 5 Kd.u8))).rd w w.heap.size [v0] x0) (v1 : Value) (x1 : Int) (h1 : (Kd.i64).rd w w.heap.size [v1] x1) :
    ACalls Try.prog 11 #[v0, v1] w fun r w' => r = .bool true ∧ Below w.heap.size w w' := by
  have hv0 := h0
  have hlm0 := sl_len h0
  obtain ⟨A0, k0, rfl, _, _, _⟩ := sl_open h0
  have hr1 := h1.2
  obtain rfl := (List.cons.inj h1.1).1
  have H := Sep.start w
  refine body_of follows Try.func11 rfl rfl _ rfl (by kernel_rfl) (vs ?_)
  refine x_call (szByteSS_ok w _ _ _ (H.rd h0) (by omega) (by omega)) fun _ w1 ⟨z0, e, hb, lo0, hi0, s⟩ => ?_
  subst e
  have H := H.go hb
  refine vs (ways ?_ ?_)
  · refine vh fun _ => ?_
    exact H.bel
  refine vh fun hge => ?_
  have hs0 := s (by omega)
  refine x_callf H (toByteSS_ok w1 _ _ (H.rd h0) hs0) fun r1 f1 w2 H => vs ?_
  refine x_callf H (specGrownOf_ok w2 _ x0 x1 (H.own (.head _)) (few_sm hs0)) fun v3_0 f3_0 w3 H => vs ?_
  refine x_callf H (toByteSS_ok w3 _ _ (H.rd h0) hs0) fun r4 f4 w4 H => vs ?_
  refine x_callf H (implGrownOf_ok w4 _ x0 x1 (H.own (.head _)) (few_sm hs0)) fun v6_0 f6_0 w5 H => vs ?_
  refine x_callb H (eqByteSS_ok w5 _ _ _ (H.own (.head _)) (H.own (.tail _ (.tail _ (.head _))))) fun w6 H => vs ?_
  refine x_callf H (toByteSS_ok w6 _ _ (H.rd h0) hs0) fun r7 f7 w7 H => vs ?_
  refine x_callb H (eqByteSS_ok w7 _ _ x0 (H.own (.tail _ (.tail _ (.head _)))) (H.own (.head _))) fun w8 H => vs ?_
  have ht0 := totByteSS_le hs0
  have H := H.front (h := (.there (.there .here)))
  refine x_call (markByteSS_ok H (1) (by omega)) fun _ w9 ⟨e, fm8, H⟩ => ?_
  subst e
  have nk : ¬ ((1 + (totByteSS (x0)) : Nat) : Int) < 0 := by omega
  refine ve nk ?_
  refine x_callb H (eqByteSS_ok w9 _ _ _ (H.own (.tail _ (.tail _ (.head _)))) (H.own (.tail _ (.tail _ (.tail _ (.head _)))))) fun w10 H => vs ?_
  have hg0 : (totByteSS (grownOf x0 x1)) ≤ 1152921504606846976 := (Nat.le_trans (totL_le (B := 32) fun y hy => (grownOf_len x0 x1).2 y hy) (by have := (grownOf_len x0 x1).1; omega))
  have H := H.front (h := (.there (.there .here)))
  refine x_call (markByteSS_ok H (1) (by omega)) fun _ w11 ⟨e, fm9, H⟩ => ?_
  subst e
  refine vs ?_
  refine x_callb H (heldByteSS_ok w11 _ (grownOf x0 x1) (1) (H.own (.head _)) (by omega)) fun w12 H => ?_
  have nn10 : ¬ ((1 + (totByteSS (grownOf x0 x1)) : Nat) : Int) < 0 := by omega
  refine ve nn10 ?_
  refine x_callf H (toByteSS_ok w12 _ _ (H.rd h0) hs0) fun r11 f11 w13 H => vs ?_
  refine x_callf H (implGrownOf_ok w13 _ x0 x1 (H.own (.head _)) (few_sm hs0)) fun v13_0 f13_0 w14 H => vs ?_
  refine x_callb H (eqByteSS_ok w14 _ _ _ (H.own (.head _)) (H.own (.tail _ (.tail _ (.tail _ (.tail _ (.tail _ (.head _)))))))) fun w15 H => vs ?_
  refine x_callb H (heldByteSS_ok w15 _ (grownOf x0 x1) (1) (H.own (.tail _ (.tail _ (.head _)))) (by omega)) fun w16 H => ?_
  have nn14 : ¬ ((1 + (totByteSS (grownOf x0 x1)) : Nat) : Int) < 0 := by omega
  refine ve nn14 ?_
  exact H.bel
end Go.Proofs.Ytlkplnioaiahhaa.V
