/- The law FnExactRootOf, walked. Laid by a program. -/
import Derived.Test.YtlkplnioaiahhaaWz
import Derived.Test.YtlkplnioaiahhaaWm
import Derived.Test.YtlkplnioaiahhaaWx
import Derived.Test.YtlkplnioaiahhaaWt
namespace Go.Proofs.Ytlkplnioaiahhaa.V
open Go Go.RowKit
set_option maxRecDepth 100000
set_option maxHeartbeats 8000000
set_option linter.unusedSimpArgs false
set_option linter.unusedVariables false
set_option pp.deepTerms false
set_option pp.deepTerms.threshold 3
theorem few_sm {l : List (List UInt8)} (h : smByteSS l) : Few l := fun a ha => Nat.le_trans (h.2 a ha) (by omega)
theorem FnExactRootOf_ok (w : World) (v0 : Value) (x0 : (List (List UInt8))) (h0 : ((Kd.slice 22 (Kd.slice 5 Kd.u8))).rd w w.heap.size [v0] x0) :
    ACalls Try.prog 7 #[v0] w fun r w' => r = .bool true ∧ Below w.heap.size w w' := by
  have hv0 := h0
  have hlm0 := sl_len h0
  obtain ⟨A0, k0, rfl, _, _, _⟩ := sl_open h0
  have H := Sep.start w
  refine body_of follows Try.func7 rfl rfl _ rfl (by kernel_rfl) (vs ?_)
  refine x_call (szByteSS_ok w _ _ _ (H.rd h0) (by omega) (by omega)) fun _ w1 ⟨z0, e, hb, lo0, hi0, s⟩ => ?_
  subst e
  have H := H.go hb
  refine vs (ways ?_ ?_)
  · refine vh fun _ => ?_
    exact H.bel
  refine vh fun hge => ?_
  have hs0 := s (by omega)
  refine x_callf H (toByteSS_ok w1 _ _ (H.rd h0) hs0) fun r1 f1 w2 H => vs ?_
  refine x_callf H (specRootOf_ok x0.length w2 _ x0 (Nat.le_refl _) (H.own (.head _)) (few_sm hs0)) fun v2_0 f2_0 w3 H => vs ?_
  refine x_callf H (toByteSS_ok w3 _ _ (H.rd h0) hs0) fun r3 f3 w4 H => vs ?_
  refine x_callf H (implRootOf_ok x0.length w4 _ x0 (Nat.le_refl _) (H.own (.head _)) (few_sm hs0)) fun v4_0 f4_0 w5 H => vs ?_
  refine x_callb H (eqByteS_ok w5 _ _ _ _ (H.own (.head _)) (H.own (.tail _ (.tail _ (.head _))))) fun w6 H => vs ?_
  refine x_callf H (toByteSS_ok w6 _ _ (H.rd h0) hs0) fun r5 f5 w7 H => vs ?_
  refine x_callb H (eqByteSS_ok w7 _ _ x0 (H.own (.tail _ (.tail _ (.head _)))) (H.own (.head _))) fun w8 H => vs ?_
  have ht0 := totByteSS_le hs0
  have H := H.front (h := (.there (.there .here)))
  refine x_call (markByteSS_ok H (1) (by omega)) fun _ w9 ⟨e, fm6, H⟩ => ?_
  subst e
  have nk : ¬ ((1 + (totByteSS (x0)) : Nat) : Int) < 0 := by omega
  refine ve nk ?_
  refine x_callb H (eqByteS_ok w9 _ _ _ _ (H.own (.tail _ (.tail _ (.head _)))) (H.own (.tail _ (.tail _ (.tail _ (.head _)))))) fun w10 H => vs ?_
  have hg0 : (rootOf x0).length ≤ 1152921504606846976 := (by have := rootOf_len x0; omega)
  have H := H.front (h := (.there (.there .here)))
  refine x_call (markByteS_ok H (1) (by omega)) fun _ w11 ⟨e, fm7, H⟩ => ?_
  subst e
  refine vs ?_
  refine x_callw (heldByteS_ok w11 _ (rootOf x0) (1) (H.own (.head _)) (by omega)) ?_
  have nn8 : ¬ ((1 + (rootOf x0).length : Nat) : Int) < 0 := by omega
  refine ve nn8 ?_
  refine x_callf H (toByteSS_ok w11 _ _ (H.rd h0) hs0) fun r9 f9 w12 H => vs ?_
  refine x_callf H (implRootOf_ok x0.length w12 _ x0 (Nat.le_refl _) (H.own (.head _)) (few_sm hs0)) fun v10_0 f10_0 w13 H => vs ?_
  refine x_callb H (eqByteS_ok w13 _ _ _ _ (H.own (.head _)) (H.own (.tail _ (.tail _ (.tail _ (.tail _ (.tail _ (.head _)))))))) fun w14 H => vs ?_
  refine x_callw (heldByteS_ok w14 _ (rootOf x0) (1) (H.own (.tail _ (.tail _ (.head _)))) (by omega)) ?_
  have nn11 : ¬ ((1 + (rootOf x0).length : Nat) : Int) < 0 := by omega
  refine ve nn11 ?_
  exact H.bel
end Go.Proofs.Ytlkplnioaiahhaa.V
