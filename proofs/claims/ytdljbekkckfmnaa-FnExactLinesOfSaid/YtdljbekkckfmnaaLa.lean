/- The law FnExactLinesOf, walked. Laid by a program. -/
import Derived.Test.YtdljbekkckfmnaaWqs
import Derived.Test.YtdljbekkckfmnaaWx
namespace Go.Proofs.Ytdljbekkckfmnaa.V
open Go Go.RowKit
set_option maxRecDepth 100000
set_option maxHeartbeats 8000000
set_option linter.unusedSimpArgs false
set_option linter.unusedVariables false
set_option pp.deepTerms false
set_option pp.deepTerms.threshold 3
theorem FnExactLinesOf_ok (w : World) (v0 : Value) (x0 : (List UInt8)) (h0 : ((Kd.slice 5 Kd.u8)).rd w w.heap.size [v0] x0) :
    ACalls Try.prog 3 #[v0] w fun r w' => r = .bool true ∧ Below w.heap.size w w' := by
  have hv0 := h0
  have hlm0 := sl_len h0
  obtain ⟨A0, k0, rfl, _, _, _⟩ := sl_open h0
  have H := Sep.start w
  refine body_of follows Try.func3 rfl rfl _ rfl (by kernel_rfl) (vs ?_)
  refine ways ?_ ?_
  · refine vh fun _ => ?_
    exact H.bel
  refine vh fun hs0 => ?_
  refine x_callf H (toByteS_ok w _ _ (H.rd h0) (by omega)) fun r1 f1 w1 H => vs ?_
  refine x_callf H (specLinesOf_ok w1 _ x0 (H.own (.head _)) (by omega)) fun v2_0 f2_0 w2 H => vs ?_
  refine x_callf H (toByteS_ok w2 _ _ (H.rd h0) (by omega)) fun r3 f3 w3 H => vs ?_
  refine x_callf H (implLinesOf_ok w3 _ x0 (H.own (.head _)) (by omega)) fun v4_0 f4_0 w4 H => vs ?_
  refine x_callb H (eqByteSS_ok w4 _ _ _ (H.own (.head _)) (H.own (.tail _ (.tail _ (.head _))))) fun w5 H => vs ?_
  refine x_callf H (toByteS_ok w5 _ _ (H.rd h0) (by omega)) fun r5 f5 w6 H => vs ?_
  refine x_callb H (eqByteS_ok w6 _ _ _ _ (H.own (.tail _ (.tail _ (.head _)))) (H.own (.head _))) fun w7 H => vs ?_
  have ht0 : (x0).length ≤ 1099511627776 := by omega
  have H := H.front (h := (.there (.there .here)))
  refine x_call (markByteS_ok H (1) (by omega)) fun _ w8 ⟨e, fm6, H⟩ => ?_
  subst e
  have nk : ¬ ((1 + (x0).length : Nat) : Int) < 0 := by omega
  refine ve nk ?_
  refine x_callb H (eqByteSS_ok w8 _ _ _ (H.own (.tail _ (.tail _ (.head _)))) (H.own (.tail _ (.tail _ (.tail _ (.head _)))))) fun w9 H => vs ?_
  have hg0 : (totByteSS ((linesOf x0))) ≤ 1152921504606846976 := (by have := totByteSS_le (linesOf_sm x0); omega)
  have H := H.front (h := (.there (.there .here)))
  refine x_call (markByteSS_ok H (1) (by omega)) fun _ w10 ⟨e, fm7, H⟩ => ?_
  subst e
  refine vs ?_
  refine x_callb H (heldByteSS_ok w10 _ ((linesOf x0)) (1) (H.own (.head _)) (by omega)) fun w11 H => ?_
  have nn8 : ¬ ((1 + (totByteSS ((linesOf x0))) : Nat) : Int) < 0 := by omega
  refine ve nn8 ?_
  refine x_callf H (toByteS_ok w11 _ _ (H.rd h0) (by omega)) fun r9 f9 w12 H => vs ?_
  refine x_callf H (implLinesOf_ok w12 _ x0 (H.own (.head _)) (by omega)) fun v10_0 f10_0 w13 H => vs ?_
  refine x_callb H (eqByteSS_ok w13 _ _ _ (H.own (.head _)) (H.own (.tail _ (.tail _ (.tail _ (.tail _ (.tail _ (.head _)))))))) fun w14 H => vs ?_
  refine x_callb H (heldByteSS_ok w14 _ ((linesOf x0)) (1) (H.own (.tail _ (.tail _ (.head _)))) (by omega)) fun w15 H => ?_
  have nn11 : ¬ ((1 + (totByteSS ((linesOf x0))) : Nat) : Int) < 0 := by omega
  refine ve nn11 ?_
  exact H.bel
end Go.Proofs.Ytdljbekkckfmnaa.V
