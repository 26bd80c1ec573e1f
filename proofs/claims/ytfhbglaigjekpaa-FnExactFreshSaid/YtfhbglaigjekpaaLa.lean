/- The law FnExactFresh, walked. Laid by a program. -/
import Derived.Test.YtfhbglaigjekpaaWfs
import Derived.Test.YtfhbglaigjekpaaWx
namespace Go.Proofs.Ytfhbglaigjekpaa.V
open Go Go.RowKit
set_option maxRecDepth 100000
set_option maxHeartbeats 8000000
set_option linter.unusedSimpArgs false
set_option linter.unusedVariables false
set_option pp.deepTerms false
set_option pp.deepTerms.threshold 3
theorem FnExactFresh_ok (w : World) (c0 : List Value) (x0 : MWorld) (h0 : kWorld.rd w w.heap.size c0 x0) :
    ACalls Try.prog 3 #[.agg c0.toArray] w fun r w' => r = .bool true ∧ Below w.heap.size w w' := by
  obtain ⟨a0_0, a0_3_0, a0_3_2, a0_4_0, a0_4_2, a0_4_3, a0_5, a0_6, rfl, _⟩ := kWorld_open h0
  have H := Sep.start w
  refine body_of follows Try.func3 rfl rfl _ rfl (by kernel_rfl) (vs ?_)
  refine x_bx H [a0_0, .int .i64 x0.f_Count, .int .i64 x0.f_Known, a0_3_0, .int .i64 x0.f_Post.f_Time, a0_3_2, .int .i64 x0.f_Post.f_Sure, a0_4_0, .int .i64 x0.f_Reader.f_Epoch, a0_4_2, a0_4_3, a0_5, a0_6] fun g0 w1 H => vs ?_
  refine x_lda H st32 ?_
  refine vs ?_
  refine x_call (szWorld_ok w1 _ _ _ (H.rd h0) (by omega) (by omega)) fun _ w2 ⟨z0, e, hb, lo0, hi0, s⟩ => ?_
  subst e
  have H := H.go hb
  refine vs (ways ?_ ?_)
  · refine vh fun _ => ?_
    exact H.bel
  refine vh fun hge => ?_
  have hs0 := s (by omega)
  refine x_lda H st32 ?_
  refine vs ?_
  refine x_call (toWorld_ok w2 _ _ (H.rd h0) hs0) fun _ w3 ⟨d1, f1, e, S⟩ => ?_
  subst e
  have H := H.join S
  simp only [List.cons_append, List.nil_append] at H
  refine vs ?_
  refine x_callf H (specFresh_ok w3 _ x0 (H.own (.head _)) ) fun v2_0 f2_0 w4 H => vs ?_
  refine x_lda H st32 ?_
  refine vs ?_
  refine x_call (toWorld_ok w4 _ _ (H.rd h0) hs0) fun _ w5 ⟨d3, f3, e, S⟩ => ?_
  subst e
  have H := H.join S
  simp only [List.cons_append, List.nil_append] at H
  refine vs ?_
  refine x_al H st42 fun b0 w6 H => vs ?_
  obtain ⟨t0_0, t0_3_0, t0_3_2, t0_4_0, t0_4_2, t0_4_3, t0_5, t0_6, rfl, _⟩ := kWorld_open (H.own (.tail _ (.head _)))
  refine x_sta H st42 (h1 := Kd.one _ (H.own (.tail _ (.head _)))) fun w7 H => vs ?_
  refine x_lda H st42 ?_
  refine vs ?_
  refine x_callf H (implFresh_ok w7 _ x0 (H.own (.tail _ (.head _))) ) fun v4_0 f4_0 w8 H => vs ?_
  refine x_callb H (eqByteS_ok w8 _ _ _ _ (H.own (.head _)) (H.own (.tail _ (.tail _ (.tail _ (.head _)))))) fun w9 H => vs ?_
  refine draw_at [(0, true), (1, true), (2, false), (3, false), (4, true)] fun w10 hh hb => vs ?_
  have H := H.go (hb _)
  refine q_lda H st42 ?_
  refine vs ?_
  refine q_lda H st32 ?_
  refine vs ?_
  refine x_call (toWorld_ok w10 _ _ (H.rd h0) hs0) fun _ w11 ⟨d5, f5, e, S⟩ => ?_
  subst e
  have HK := kept_of S.bel (Nat.le_refl _)
  have H := H.join S
  simp only [List.cons_append, List.nil_append] at H
  refine vs ?_
  refine ⟨HK, ?_⟩
  refine x_call (eqWorld_ok w11 _ _ x0 (H.own (.tail _ (.tail _ (.tail _ (.head _))))) (H.own (.head _))) fun _ w12 ⟨e, hb⟩ => ?_
  subst e
  have H := H.go hb
  refine vs ?_
  refine ⟨HK.below (hb.mono (HK.1 (Nat.le_refl _))), ?_⟩
  have ht0 := totWorld_le hs0
  refine x_lda H st42 ?_
  refine vs ?_
  have H := H.front (h := (.there (.there (.there .here))))
  refine x_call (markWorld_ok H (1) (by omega)) fun _ w13 ⟨e, fm6, H⟩ => ?_
  subst e
  have nk : ¬ ((1 + (totWorld (x0)) : Nat) : Int) < 0 := by omega
  refine ve nk ?_
  refine x_callb H (eqByteS_ok w13 _ _ _ _ (H.own (.tail _ (.tail _ (.head _)))) (H.own (.tail _ (.tail _ (.tail _ (.tail _ (.head _))))))) fun w14 H => vs ?_
  have hg0 : ((freshB x0)).length ≤ 1152921504606846976 := (by have := freshB_len x0; omega)
  have H := H.front (h := (.there (.there .here)))
  refine x_call (markByteS_ok H (1) (by omega)) fun _ w15 ⟨e, fm7, H⟩ => ?_
  subst e
  refine vs ?_
  refine x_callw (heldByteS_ok w15 _ ((freshB x0)) (1) (H.own (.head _)) (by omega)) ?_
  have nn8 : ¬ ((1 + ((freshB x0)).length : Nat) : Int) < 0 := by omega
  refine ve nn8 ?_
  refine x_lda H st32 ?_
  refine vs ?_
  refine x_call (toWorld_ok w15 _ _ (H.rd h0) hs0) fun _ w16 ⟨d9, f9, e, S⟩ => ?_
  subst e
  have H := H.join S
  simp only [List.cons_append, List.nil_append] at H
  refine vs ?_
  refine x_callf H (implFresh_ok w16 _ x0 (H.own (.head _)) ) fun v10_0 f10_0 w17 H => vs ?_
  refine x_callb H (eqByteS_ok w17 _ _ _ _ (H.own (.head _)) (H.own (.tail _ (.tail _ (.tail _ (.tail _ (.tail _ (.tail _ (.head _))))))))) fun w18 H => vs ?_
  refine x_callw (heldByteS_ok w18 _ ((freshB x0)) (1) (H.own (.tail _ (.tail _ (.head _)))) (by omega)) ?_
  have nn11 : ¬ ((1 + ((freshB x0)).length : Nat) : Int) < 0 := by omega
  refine ve nn11 ?_
  exact H.bel
end Go.Proofs.Ytfhbglaigjekpaa.V
