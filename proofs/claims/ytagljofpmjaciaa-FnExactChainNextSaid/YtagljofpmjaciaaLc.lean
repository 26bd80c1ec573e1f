/- The law FnExactChainNext, walked. Laid by a program. -/
import Derived.Test.YtagljofpmjaciaaWme
import Derived.Test.YtagljofpmjaciaaWm
import Derived.Test.YtagljofpmjaciaaWx
namespace Go.Proofs.Ytagljofpmjaciaa.V
open Go Go.RowKit
set_option maxRecDepth 100000
set_option maxHeartbeats 8000000
set_option linter.unusedSimpArgs false
set_option linter.unusedVariables false
set_option pp.deepTerms false
set_option pp.deepTerms.threshold 3
theorem FnExactChainNext_ok (w : World) (c0 : List Value) (x0 : MChain) (h0 : kChain.rd w w.heap.size c0 x0) :
    ACalls Try.prog 8 #[.agg c0.toArray] w fun r w' => r = .bool true ∧ Below w.heap.size w w' := by
  obtain ⟨a0_0, rfl, _⟩ := kChain_open h0
  have H := Sep.start w
  refine body_of follows Try.func8 rfl rfl _ rfl (by kernel_rfl) (vs ?_)
  refine x_bx H [a0_0, .int .i64 x0.f_N] fun g0 w1 H => vs ?_
  refine x_lda H st60 ?_
  refine vs ?_
  refine x_call (szChain_ok w1 _ _ _ (H.rd h0) (by omega) (by omega)) fun _ w2 ⟨z0, e, hb, lo0, hi0, s⟩ => ?_
  subst e
  have H := H.go hb
  refine vs (ways ?_ ?_)
  · refine vh fun _ => ?_
    exact H.bel
  refine vh fun hge => ?_
  have hs0 := s (by omega)
  refine x_lda H st60 ?_
  refine vs ?_
  refine x_call (toChain_ok w2 _ _ (H.rd h0) hs0) fun _ w3 ⟨d1, f1, e, S⟩ => ?_
  subst e
  have H := H.join S
  simp only [List.cons_append, List.nil_append] at H
  refine vs ?_
  refine x_call (specChainNext_ok w3 _ x0 (H.own (.head _)) hs0) fun _ w4 ⟨v2_0, f2_0, v2_1, f2_1, e2, S⟩ => ?_
  subst e2
  have H := H.join S
  simp only [List.cons_append, List.nil_append] at H
  obtain ⟨t2_0_0, rfl, _⟩ := kChain_open (H.own (.head _))
  refine vs ?_
  refine x_al H st43 fun b2_0 w5 H => vs ?_
  refine x_sta H st43 (h1 := Kd.one _ (H.own (.tail _ (.head _)))) fun w6 H => vs ?_
  refine x_lda H st60 ?_
  refine vs ?_
  refine x_call (toChain_ok w6 _ _ (H.rd h0) hs0) fun _ w7 ⟨d3, f3, e, S⟩ => ?_
  subst e
  have H := H.join S
  simp only [List.cons_append, List.nil_append] at H
  refine vs ?_
  refine x_al H st43 fun b0 w8 H => vs ?_
  obtain ⟨t0_0, rfl, _⟩ := kChain_open (H.own (.tail _ (.head _)))
  refine x_sta H st43 (h1 := Kd.one _ (H.own (.tail _ (.head _)))) fun w9 H => vs ?_
  refine x_lda H st43 ?_
  refine vs ?_
  refine x_call (implChainNext_ok w9 _ x0 (H.own (.tail _ (.head _))) hs0) fun _ w10 ⟨v4_0, f4_0, v4_1, f4_1, e4, S⟩ => ?_
  subst e4
  have H := H.join S
  simp only [List.cons_append, List.nil_append] at H
  obtain ⟨t4_0_0, rfl, _⟩ := kChain_open (H.own (.head _))
  refine vs ?_
  refine x_al H st43 fun b4_0 w11 H => vs ?_
  refine x_sta H st43 (h1 := Kd.one _ (H.own (.tail _ (.head _)))) fun w12 H => vs ?_
  refine x_lda H st43 ?_
  refine vs ?_
  refine x_lda H st43 ?_
  refine vs ?_
  refine x_callb H (eqChain_ok w12 _ _ _ (H.own (.tail _ (.head _))) (H.own (.tail _ (.tail _ (.tail _ (.tail _ (.tail _ (.tail _ (.head _))))))))) fun w13 H => vs ?_
  refine x_callb H (eqByteS_ok w13 _ _ _ _ (H.own (.tail _ (.tail _ (.head _)))) (H.own (.tail _ (.tail _ (.tail _ (.tail _ (.tail _ (.tail _ (.tail _ (.head _)))))))))) fun w14 H => vs ?_
  refine draw_at [(0, true), (1, true), (2, false), (3, false), (4, true)] fun w15 hh hb => vs ?_
  have H := H.go (hb _)
  refine q_lda H st43 ?_
  refine vs ?_
  refine q_lda H st60 ?_
  refine vs ?_
  refine x_call (toChain_ok w15 _ _ (H.rd h0) hs0) fun _ w16 ⟨d5, f5, e, S⟩ => ?_
  subst e
  have HK := kept_of S.bel (Nat.le_refl _)
  have H := H.join S
  simp only [List.cons_append, List.nil_append] at H
  refine vs ?_
  refine ⟨HK, ?_⟩
  refine x_call (eqChain_ok w16 _ _ x0 (H.own (.tail _ (.tail _ (.tail _ (.tail _ (.tail _ (.head _))))))) (H.own (.head _))) fun _ w17 ⟨e, hb⟩ => ?_
  subst e
  have H := H.go hb
  refine vs ?_
  refine ⟨HK.below (hb.mono (HK.1 (Nat.le_refl _))), ?_⟩
  have ht0 := totChain_le hs0
  refine x_lda H st43 ?_
  refine vs ?_
  have H := H.front (h := (.there (.there (.there (.there (.there .here))))))
  refine x_call (markChain_ok H (1) (by omega)) fun _ w18 ⟨e, fm6, H⟩ => ?_
  subst e
  have nk : ¬ ((1 + (totChain (x0)) : Nat) : Int) < 0 := by omega
  refine ve nk ?_
  refine x_lda H st43 ?_
  refine vs ?_
  refine x_lda H st43 ?_
  refine vs ?_
  refine x_callb H (eqChain_ok w18 _ _ _ (H.own (.tail _ (.tail _ (.tail _ (.head _))))) (H.own (.tail _ (.tail _ (.tail _ (.tail _ (.tail _ (.tail _ (.tail _ (.head _)))))))))) fun w19 H => vs ?_
  refine x_callb H (eqByteS_ok w19 _ _ _ _ (H.own (.tail _ (.tail _ (.tail _ (.tail _ (.head _)))))) (H.own (.tail _ (.tail _ (.tail _ (.tail _ (.tail _ (.tail _ (.tail _ (.tail _ (.head _))))))))))) fun w20 H => vs ?_
  have hg0 : (totChain (chainNextC x0)) ≤ 1152921504606846976 := (by have := chainNextC_len (n := 1048576) hs0 (by omega); unfold totChain; omega)
  have hg1 : (chainNextK x0).length ≤ 1152921504606846976 := (by have := chainNextK_len x0; omega)
  refine x_lda H st43 ?_
  refine vs ?_
  have H := H.front (h := (.there (.there (.there .here))))
  refine x_call (markChain_ok H (1) (by omega)) fun _ w21 ⟨e, fm7, H⟩ => ?_
  subst e
  refine vs ?_
  have H := H.front (h := (.there (.there (.there (.there .here)))))
  refine x_call (markByteS_ok H (1 + (totChain (chainNextC x0))) (by omega)) fun _ w22 ⟨e, fm8, H⟩ => ?_
  subst e
  refine vs ?_
  refine x_lda H st43 ?_
  refine vs ?_
  refine x_callb H (heldChain_ok w22 _ (chainNextC x0) (1) (H.own (.tail _ (.head _))) (by omega)) fun w23 H => ?_
  have nn9 : ¬ ((1 + (totChain (chainNextC x0)) : Nat) : Int) < 0 := by omega
  refine ve nn9 ?_
  refine x_callw (heldByteS_ok w23 _ (chainNextK x0) (1 + (totChain (chainNextC x0))) (H.own (.head _)) (by omega)) ?_
  have nn10 : ¬ ((1 + (totChain (chainNextC x0)) + (chainNextK x0).length : Nat) : Int) < 0 := by omega
  refine ve nn10 ?_
  refine x_lda H st60 ?_
  refine vs ?_
  refine x_call (toChain_ok w23 _ _ (H.rd h0) hs0) fun _ w24 ⟨d11, f11, e, S⟩ => ?_
  subst e
  have H := H.join S
  simp only [List.cons_append, List.nil_append] at H
  refine vs ?_
  refine x_call (implChainNext_ok w24 _ x0 (H.own (.head _)) hs0) fun _ w25 ⟨v12_0, f12_0, v12_1, f12_1, e12, S⟩ => ?_
  subst e12
  have H := H.join S
  simp only [List.cons_append, List.nil_append] at H
  obtain ⟨t12_0_0, rfl, _⟩ := kChain_open (H.own (.head _))
  refine vs ?_
  refine x_al H st43 fun b12_0 w26 H => vs ?_
  refine x_sta H st43 (h1 := Kd.one _ (H.own (.tail _ (.head _)))) fun w27 H => vs ?_
  refine x_lda H st43 ?_
  refine vs ?_
  refine x_lda H st43 ?_
  refine vs ?_
  refine x_callb H (eqChain_ok w27 _ _ _ (H.own (.tail _ (.head _))) (H.own (.tail _ (.tail _ (.tail _ (.tail _ (.tail _ (.tail _ (.tail _ (.tail _ (.tail _ (.tail _ (.tail _ (.head _)))))))))))))) fun w28 H => vs ?_
  refine x_callb H (eqByteS_ok w28 _ _ _ _ (H.own (.tail _ (.tail _ (.head _)))) (H.own (.tail _ (.tail _ (.tail _ (.tail _ (.tail _ (.tail _ (.tail _ (.tail _ (.tail _ (.tail _ (.tail _ (.tail _ (.head _))))))))))))))) fun w29 H => vs ?_
  refine x_lda H st43 ?_
  refine vs ?_
  refine x_callb H (heldChain_ok w29 _ (chainNextC x0) (1) (H.own (.tail _ (.tail _ (.tail _ (.tail _ (.tail _ (.head _))))))) (by omega)) fun w30 H => ?_
  have nn13 : ¬ ((1 + (totChain (chainNextC x0)) : Nat) : Int) < 0 := by omega
  refine ve nn13 ?_
  refine x_callw (heldByteS_ok w30 _ (chainNextK x0) (1 + (totChain (chainNextC x0))) (H.own (.tail _ (.tail _ (.tail _ (.tail _ (.head _)))))) (by omega)) ?_
  have nn14 : ¬ ((1 + (totChain (chainNextC x0)) + (chainNextK x0).length : Nat) : Int) < 0 := by omega
  refine ve nn14 ?_
  exact H.bel
end Go.Proofs.Ytagljofpmjaciaa.V
