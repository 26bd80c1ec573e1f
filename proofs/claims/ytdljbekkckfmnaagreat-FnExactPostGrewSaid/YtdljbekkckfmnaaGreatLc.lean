/- The law FnExactPostGrew, walked. Laid by a program. -/
import Derived.Test.YtdljbekkckfmnaaGreatWqz
import Derived.Test.YtdljbekkckfmnaaGreatWx
namespace Go.Proofs.YtdljbekkckfmnaaGreat.V
open Go Go.RowKit
set_option maxRecDepth 100000
set_option maxHeartbeats 8000000
set_option linter.unusedSimpArgs false
set_option linter.unusedVariables false
set_option pp.deepTerms false
set_option pp.deepTerms.threshold 3
theorem FnExactPostGrew_ok (w : World) (c0 : List Value) (x0 : MPost) (h0 : kPost.rd w w.heap.size c0 x0) (c1 : List Value) (x1 : MPost) (h1 : kPost.rd w w.heap.size c1 x1) :
    ACalls Tryz.prog 8 #[.agg c0.toArray, .agg c1.toArray] w fun r w' => r = .bool true ∧ Below w.heap.size w w' := by
  obtain ⟨a0_0, a0_2, rfl, _⟩ := kPost_open h0
  obtain ⟨a1_0, a1_2, rfl, _⟩ := kPost_open h1
  have H := Sep.start w
  refine body_of follows Tryz.func8 rfl rfl _ rfl (by kernel_rfl) (vs ?_)
  refine x_bx H [a0_0, .int .i64 x0.f_Time, a0_2, .int .i64 x0.f_Sure] fun g0 w1 H => vs ?_
  refine x_bx H [a1_0, .int .i64 x1.f_Time, a1_2, .int .i64 x1.f_Sure] fun g1 w2 H => vs ?_
  refine x_lda H st56 ?_
  refine vs ?_
  refine x_call (szPost_ok w2 _ _ _ (H.rd h0) (by omega) (by omega)) fun _ w3 ⟨z0, e, hb, lo0, hi0, s⟩ => ?_
  subst e
  have H := H.go hb
  refine vs (ways ?_ ?_)
  · refine vh fun _ => ?_
    exact H.bel
  refine vh fun hge => ?_
  have hs0 := s (by omega)
  refine x_lda H st56 ?_
  refine vs ?_
  refine x_call (szPost_ok w3 _ _ _ (H.rd h1) (by omega) (by omega)) fun _ w4 ⟨z1, e, hb, lo1, hi1, s⟩ => ?_
  subst e
  have H := H.go hb
  refine vs (ways ?_ ?_)
  · refine vh fun _ => ?_
    exact H.bel
  refine vh fun hge => ?_
  have hs1 := s (by omega)
  refine draw_at [(0, true), (2, true), (1, false), (3, false), (4, false), (5, true), (6, true), (7, true), (8, true), (9, true)] fun wd1 hh hb => vs ?_
  have H := H.go (hb _)
  refine q_lda H st56 ?_
  refine vs ?_
  refine q_lda H st56 ?_
  refine vs ?_
  refine x_call (toPost_ok wd1 _ _ (H.rd h0) hs0) fun _ w5 ⟨d1, f1, e, S⟩ => ?_
  subst e
  have HK := kept_of S.bel (Nat.le_refl _)
  have H := H.join S
  simp only [List.cons_append, List.nil_append] at H
  refine vs ?_
  refine ⟨HK, ?_⟩
  refine x_call (toPost_ok w5 _ _ (H.rd h1) hs1) fun _ w6 ⟨d2, f2, e, S⟩ => ?_
  subst e
  have HK := HK.below (S.bel.mono (HK.1 (Nat.le_refl _)))
  have H := H.join S
  simp only [List.cons_append, List.nil_append] at H
  refine vs ?_
  refine ⟨HK, ?_⟩
  refine x_call (specPostGrew_ok w6 _ x0 _ x1 (H.own (.tail _ (.head _))) (H.own (.head _)) hs0 hs1) fun _ w7 ⟨v3_0, f3_0, e3, S⟩ => ?_
  subst e3
  have HK := HK.below (S.bel.mono (HK.1 (Nat.le_refl _)))
  have H := H.join S
  simp only [List.cons_append, List.nil_append] at H
  refine vs ?_
  refine ⟨HK, ?_⟩
  refine qx_ext0 ?_
  refine vs ?_
  refine qx_ext1 ?_
  refine vs ?_
  refine x_lda H st56 ?_
  refine vs ?_
  refine x_call (toPost_ok w7 _ _ (H.rd h0) hs0) fun _ w8 ⟨d4, f4, e, S⟩ => ?_
  subst e
  have H := H.join S
  simp only [List.cons_append, List.nil_append] at H
  refine vs ?_
  refine x_al H st26 fun b0 w9 H => vs ?_
  obtain ⟨t0_0, t0_2, rfl, _⟩ := kPost_open (H.own (.tail _ (.head _)))
  refine x_sta H st26 (h1 := Kd.one _ (H.own (.tail _ (.head _)))) fun w10 H => vs ?_
  refine x_lda H st56 ?_
  refine vs ?_
  refine x_call (toPost_ok w10 _ _ (H.rd h1) hs1) fun _ w11 ⟨d5, f5, e, S⟩ => ?_
  subst e
  have H := H.join S
  simp only [List.cons_append, List.nil_append] at H
  refine vs ?_
  refine x_al H st26 fun b1 w12 H => vs ?_
  obtain ⟨t1_0, t1_2, rfl, _⟩ := kPost_open (H.own (.tail _ (.head _)))
  refine x_sta H st26 (h1 := Kd.one _ (H.own (.tail _ (.head _)))) fun w13 H => vs ?_
  refine x_lda H st26 ?_
  refine vs ?_
  refine x_lda H st26 ?_
  refine vs ?_
  refine x_call (implPostGrew_ok w13 _ x0 _ x1 (H.own (.tail _ (.tail _ (.tail _ (.head _))))) (H.own (.tail _ (.head _))) hs0 hs1) fun _ w14 ⟨v6_0, f6_0, e6, S⟩ => ?_
  subst e6
  have H := H.join S
  simp only [List.cons_append, List.nil_append] at H
  refine vs ?_
  refine x_callb H (eqByteSS_ok w14 _ _ _ (H.own (.head _)) (H.own (.tail _ (.tail _ (.tail _ (.tail _ (.tail _ (.head _)))))))) fun w15 H => vs ?_
  refine draw_at [(0, true), (1, true), (2, false), (3, false), (4, true)] fun w16 hh hb => vs ?_
  have H := H.go (hb _)
  refine q_lda H st26 ?_
  refine vs ?_
  refine q_lda H st56 ?_
  refine vs ?_
  refine x_call (toPost_ok w16 _ _ (H.rd h0) hs0) fun _ w17 ⟨d7, f7, e, S⟩ => ?_
  subst e
  have HK := kept_of S.bel (Nat.le_refl _)
  have H := H.join S
  simp only [List.cons_append, List.nil_append] at H
  refine vs ?_
  refine ⟨HK, ?_⟩
  refine x_call (eqPost_ok w17 _ _ x0 (H.own (.tail _ (.tail _ (.tail _ (.tail _ (.tail _ (.head _))))))) (H.own (.head _))) fun _ w18 ⟨e, hb⟩ => ?_
  subst e
  have H := H.go hb
  refine vs ?_
  refine ⟨HK.below (hb.mono (HK.1 (Nat.le_refl _))), ?_⟩
  refine draw_at [(0, true), (1, true), (2, false), (3, false), (4, true)] fun w19 hh hb => vs ?_
  have H := H.go (hb _)
  refine q_lda H st26 ?_
  refine vs ?_
  refine q_lda H st56 ?_
  refine vs ?_
  refine x_call (toPost_ok w19 _ _ (H.rd h1) hs1) fun _ w20 ⟨d8, f8, e, S⟩ => ?_
  subst e
  have HK := kept_of S.bel (Nat.le_refl _)
  have H := H.join S
  simp only [List.cons_append, List.nil_append] at H
  refine vs ?_
  refine ⟨HK, ?_⟩
  refine x_call (eqPost_ok w20 _ _ x1 (H.own (.tail _ (.tail _ (.tail _ (.tail _ (.head _)))))) (H.own (.head _))) fun _ w21 ⟨e, hb⟩ => ?_
  subst e
  have H := H.go hb
  refine vs ?_
  refine ⟨HK.below (hb.mono (HK.1 (Nat.le_refl _))), ?_⟩
  have ht0 := totPost_le hs0
  have ht1 := totPost_le hs1
  refine x_lda H st26 ?_
  refine vs ?_
  have H := H.front (h := (.there (.there (.there (.there (.there (.there .here)))))))
  refine x_call (markPost_ok H (1) (by omega)) fun _ w22 ⟨e, fm9, H⟩ => ?_
  subst e
  refine vs ?_
  refine x_lda H st26 ?_
  refine vs ?_
  have H := H.front (h := (.there (.there (.there (.there (.there .here))))))
  refine x_call (markPost_ok H (1 + (totPost (x0))) (by omega)) fun _ w23 ⟨e, fm10, H⟩ => ?_
  subst e
  have nk : ¬ ((1 + (totPost (x0)) + (totPost (x1)) : Nat) : Int) < 0 := by omega
  refine ve nk ?_
  refine x_callb H (eqByteSS_ok w23 _ _ _ (H.own (.tail _ (.tail _ (.tail _ (.tail _ (.head _)))))) (H.own (.tail _ (.tail _ (.tail _ (.tail _ (.tail _ (.tail _ (.tail _ (.head _)))))))))) fun w24 H => vs ?_
  have hg0 : (totByteSS ((postGrew x0 x1).1)) ≤ 1152921504606846976 := (by have := totByteSS_le (postGrew_sm x0 x1); omega)
  have H := H.front (h := (.there (.there (.there (.there .here)))))
  refine x_call (markByteSS_ok H (1) (by omega)) fun _ w25 ⟨e, fm11, H⟩ => ?_
  subst e
  refine vs ?_
  refine x_callb H (heldByteSS_ok w25 _ ((postGrew x0 x1).1) (1) (H.own (.head _)) (by omega)) fun w26 H => ?_
  have nn12 : ¬ ((1 + (totByteSS ((postGrew x0 x1).1)) : Nat) : Int) < 0 := by omega
  refine ve nn12 ?_
  refine draw_at [(0, true), (2, true), (1, false), (3, false), (4, false), (5, true), (6, true), (7, true), (8, true), (9, true)] fun wd2 hh hb => vs ?_
  have H := H.go (hb _)
  refine q_lda H st56 ?_
  refine vs ?_
  refine q_lda H st56 ?_
  refine vs ?_
  refine x_call (toPost_ok wd2 _ _ (H.rd h0) hs0) fun _ w27 ⟨d13, f13, e, S⟩ => ?_
  subst e
  have HK := kept_of S.bel (Nat.le_refl _)
  have H := H.join S
  simp only [List.cons_append, List.nil_append] at H
  refine vs ?_
  refine ⟨HK, ?_⟩
  refine x_call (toPost_ok w27 _ _ (H.rd h1) hs1) fun _ w28 ⟨d14, f14, e, S⟩ => ?_
  subst e
  have HK := HK.below (S.bel.mono (HK.1 (Nat.le_refl _)))
  have H := H.join S
  simp only [List.cons_append, List.nil_append] at H
  refine vs ?_
  refine ⟨HK, ?_⟩
  refine x_call (implPostGrew_ok w28 _ x0 _ x1 (H.own (.tail _ (.head _))) (H.own (.head _)) hs0 hs1) fun _ w29 ⟨v15_0, f15_0, e15, S⟩ => ?_
  subst e15
  have HK := HK.below (S.bel.mono (HK.1 (Nat.le_refl _)))
  have H := H.join S
  simp only [List.cons_append, List.nil_append] at H
  refine vs ?_
  refine ⟨HK, ?_⟩
  refine qx_ext0 ?_
  refine vs ?_
  refine qx_ext1 ?_
  refine vs ?_
  refine x_callb H (eqByteSS_ok w29 _ _ _ (H.own (.head _)) (H.own (.tail _ (.tail _ (.tail _ (.tail _ (.tail _ (.tail _ (.tail _ (.tail _ (.tail _ (.tail _ (.head _))))))))))))) fun w30 H => vs ?_
  refine x_callb H (heldByteSS_ok w30 _ ((postGrew x0 x1).1) (1) (H.own (.tail _ (.tail _ (.tail _ (.head _))))) (by omega)) fun w31 H => ?_
  have nn16 : ¬ ((1 + (totByteSS ((postGrew x0 x1).1)) : Nat) : Int) < 0 := by omega
  refine ve nn16 ?_
  exact H.bel
end Go.Proofs.YtdljbekkckfmnaaGreat.V
