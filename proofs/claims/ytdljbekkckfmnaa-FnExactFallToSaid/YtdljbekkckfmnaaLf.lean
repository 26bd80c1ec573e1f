/- The law FnExactFallTo, walked. Laid by a program. -/
import Derived.Test.YtdljbekkckfmnaaWqw
import Derived.Test.YtdljbekkckfmnaaWx
namespace Go.Proofs.Ytdljbekkckfmnaa.V
open Go Go.RowKit
set_option maxRecDepth 100000
set_option maxHeartbeats 8000000
set_option linter.unusedSimpArgs false
set_option linter.unusedVariables false
set_option pp.deepTerms false
set_option pp.deepTerms.threshold 3
theorem FnExactFallTo_ok (w : World) (c0 : List Value) (x0 : MPost) (h0 : kPost.rd w w.heap.size c0 x0) (v1 : Value) (x1 : Int) (h1 : (Kd.i64).rd w w.heap.size [v1] x1) :
    ACalls Try.prog 5 #[.agg c0.toArray, v1] w fun r w' => r = .bool true ∧ Below w.heap.size w w' := by
  obtain ⟨a0_0, a0_2, rfl, _⟩ := kPost_open h0
  have hr1 := h1.2
  obtain rfl := (List.cons.inj h1.1).1
  have H := Sep.start w
  refine body_of follows Try.func5 rfl rfl _ rfl (by kernel_rfl) (vs ?_)
  refine x_bx H [a0_0, .int .i64 x0.f_Time, a0_2, .int .i64 x0.f_Sure] fun g0 w1 H => vs ?_
  refine x_lda H st33 ?_
  refine vs ?_
  refine x_call (szPost_ok w1 _ _ _ (H.rd h0) (by omega) (by omega)) fun _ w2 ⟨z0, e, hb, lo0, hi0, s⟩ => ?_
  subst e
  have H := H.go hb
  refine vs (ways ?_ ?_)
  · refine vh fun _ => ?_
    exact H.bel
  refine vh fun hge => ?_
  have hs0 := s (by omega)
  refine x_lda H st33 ?_
  refine vs ?_
  refine x_call (toPost_ok w2 _ _ (H.rd h0) hs0) fun _ w3 ⟨d1, f1, e, S⟩ => ?_
  subst e
  have H := H.join S
  simp only [List.cons_append, List.nil_append] at H
  refine vs ?_
  refine x_call (specFallTo_ok w3 _ x0 x1 (H.own (.head _)) hs0) fun _ w4 ⟨v3_0, f3_0, e3, S⟩ => ?_
  subst e3
  have H := H.join S
  simp only [List.cons_append, List.nil_append] at H
  obtain ⟨t3_0_0, t3_0_2, rfl, _⟩ := kPost_open (H.own (.head _))
  refine vs ?_
  refine x_al H st37 fun b3_0 w5 H => vs ?_
  refine x_sta H st37 (h1 := Kd.one _ (H.own (.tail _ (.head _)))) fun w6 H => vs ?_
  refine x_lda H st33 ?_
  refine vs ?_
  refine x_call (toPost_ok w6 _ _ (H.rd h0) hs0) fun _ w7 ⟨d4, f4, e, S⟩ => ?_
  subst e
  have H := H.join S
  simp only [List.cons_append, List.nil_append] at H
  refine vs ?_
  refine x_al H st37 fun b0 w8 H => vs ?_
  obtain ⟨t0_0, t0_2, rfl, _⟩ := kPost_open (H.own (.tail _ (.head _)))
  refine x_sta H st37 (h1 := Kd.one _ (H.own (.tail _ (.head _)))) fun w9 H => vs ?_
  refine x_lda H st37 ?_
  refine vs ?_
  refine x_call (implFallTo_ok w9 _ x0 x1 (H.own (.tail _ (.head _))) hs0) fun _ w10 ⟨v6_0, f6_0, e6, S⟩ => ?_
  subst e6
  have H := H.join S
  simp only [List.cons_append, List.nil_append] at H
  obtain ⟨t6_0_0, t6_0_2, rfl, _⟩ := kPost_open (H.own (.head _))
  refine vs ?_
  refine x_al H st37 fun b6_0 w11 H => vs ?_
  refine x_sta H st37 (h1 := Kd.one _ (H.own (.tail _ (.head _)))) fun w12 H => vs ?_
  refine x_lda H st37 ?_
  refine vs ?_
  refine x_lda H st37 ?_
  refine vs ?_
  refine x_callb H (eqPost_ok w12 _ _ _ (H.own (.tail _ (.head _))) (H.own (.tail _ (.tail _ (.tail _ (.tail _ (.tail _ (.head _)))))))) fun w13 H => vs ?_
  refine draw_at [(0, true), (1, true), (2, false), (3, false), (4, true)] fun w14 hh hb => vs ?_
  have H := H.go (hb _)
  refine q_lda H st37 ?_
  refine vs ?_
  refine q_lda H st33 ?_
  refine vs ?_
  refine x_call (toPost_ok w14 _ _ (H.rd h0) hs0) fun _ w15 ⟨d7, f7, e, S⟩ => ?_
  subst e
  have HK := kept_of S.bel (Nat.le_refl _)
  have H := H.join S
  simp only [List.cons_append, List.nil_append] at H
  refine vs ?_
  refine ⟨HK, ?_⟩
  refine x_call (eqPost_ok w15 _ _ x0 (H.own (.tail _ (.tail _ (.tail _ (.tail _ (.head _)))))) (H.own (.head _))) fun _ w16 ⟨e, hb⟩ => ?_
  subst e
  have H := H.go hb
  refine vs ?_
  refine ⟨HK.below (hb.mono (HK.1 (Nat.le_refl _))), ?_⟩
  have ht0 := totPost_le hs0
  refine x_lda H st37 ?_
  refine vs ?_
  have H := H.front (h := (.there (.there (.there (.there .here)))))
  refine x_call (markPost_ok H (1) (by omega)) fun _ w17 ⟨e, fm8, H⟩ => ?_
  subst e
  have nk : ¬ ((1 + (totPost (x0)) : Nat) : Int) < 0 := by omega
  refine ve nk ?_
  refine x_lda H st37 ?_
  refine vs ?_
  refine x_lda H st37 ?_
  refine vs ?_
  refine x_callb H (eqPost_ok w17 _ _ _ (H.own (.tail _ (.tail _ (.tail _ (.head _))))) (H.own (.tail _ (.tail _ (.tail _ (.tail _ (.tail _ (.tail _ (.head _))))))))) fun w18 H => vs ?_
  have hg0 : (totPost ((fallP x0 x1))) ≤ 1152921504606846976 := (by have := totPost_le (fallP_sm (keep := x1) hs0); omega)
  refine x_lda H st37 ?_
  refine vs ?_
  have H := H.front (h := (.there (.there (.there .here))))
  refine x_call (markPost_ok H (1) (by omega)) fun _ w19 ⟨e, fm9, H⟩ => ?_
  subst e
  refine vs ?_
  refine x_lda H st37 ?_
  refine vs ?_
  refine x_callb H (heldPost_ok w19 _ ((fallP x0 x1)) (1) (H.own (.head _)) (by omega)) fun w20 H => ?_
  have nn10 : ¬ ((1 + (totPost ((fallP x0 x1))) : Nat) : Int) < 0 := by omega
  refine ve nn10 ?_
  refine x_lda H st33 ?_
  refine vs ?_
  refine x_call (toPost_ok w20 _ _ (H.rd h0) hs0) fun _ w21 ⟨d11, f11, e, S⟩ => ?_
  subst e
  have H := H.join S
  simp only [List.cons_append, List.nil_append] at H
  refine vs ?_
  refine x_call (implFallTo_ok w21 _ x0 x1 (H.own (.head _)) hs0) fun _ w22 ⟨v13_0, f13_0, e13, S⟩ => ?_
  subst e13
  have H := H.join S
  simp only [List.cons_append, List.nil_append] at H
  obtain ⟨t13_0_0, t13_0_2, rfl, _⟩ := kPost_open (H.own (.head _))
  refine vs ?_
  refine x_al H st37 fun b13_0 w23 H => vs ?_
  refine x_sta H st37 (h1 := Kd.one _ (H.own (.tail _ (.head _)))) fun w24 H => vs ?_
  refine x_lda H st37 ?_
  refine vs ?_
  refine x_lda H st37 ?_
  refine vs ?_
  refine x_callb H (eqPost_ok w24 _ _ _ (H.own (.tail _ (.head _))) (H.own (.tail _ (.tail _ (.tail _ (.tail _ (.tail _ (.tail _ (.tail _ (.tail _ (.tail _ (.head _)))))))))))) fun w25 H => vs ?_
  refine x_lda H st37 ?_
  refine vs ?_
  refine x_callb H (heldPost_ok w25 _ ((fallP x0 x1)) (1) (H.own (.tail _ (.tail _ (.tail _ (.head _))))) (by omega)) fun w26 H => ?_
  have nn14 : ¬ ((1 + (totPost ((fallP x0 x1))) : Nat) : Int) < 0 := by omega
  refine ve nn14 ?_
  exact H.bel
end Go.Proofs.Ytdljbekkckfmnaa.V
