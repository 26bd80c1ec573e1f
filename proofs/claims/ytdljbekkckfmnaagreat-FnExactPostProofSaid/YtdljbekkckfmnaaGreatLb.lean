/- The law FnExactPostProof, walked. Laid by a program. -/
import Derived.Test.YtdljbekkckfmnaaGreatWqz
import Derived.Test.YtdljbekkckfmnaaGreatWx
namespace Go.Proofs.YtdljbekkckfmnaaGreat.V
open Go Go.RowKit
set_option maxRecDepth 100000
set_option maxHeartbeats 8000000
set_option linter.unusedSimpArgs false
set_option linter.unusedVariables false
set_option pp.deepTerms false
set_option pp.deepTerms.threshold 3
theorem FnExactPostProof_ok (w : World) (c0 : List Value) (x0 : MPost) (h0 : kPost.rd w w.heap.size c0 x0) (v1 : Value) (x1 : Int) (h1 : (Kd.i64).rd w w.heap.size [v1] x1) :
    ACalls Tryz.prog 7 #[.agg c0.toArray, v1] w fun r w' => r = .bool true ∧ Below w.heap.size w w' := by
  obtain ⟨a0_0, a0_2, rfl, _⟩ := kPost_open h0
  have hr1 := h1.2
  obtain rfl := (List.cons.inj h1.1).1
  have H := Sep.start w
  refine body_of follows Tryz.func7 rfl rfl _ rfl (by kernel_rfl) (vs ?_)
  refine x_bx H [a0_0, .int .i64 x0.f_Time, a0_2, .int .i64 x0.f_Sure] fun g0 w1 H => vs ?_
  refine x_lda H st56 ?_
  refine vs ?_
  refine x_call (szPost_ok w1 _ _ _ (H.rd h0) (by omega) (by omega)) fun _ w2 ⟨z0, e, hb, lo0, hi0, s⟩ => ?_
  subst e
  have H := H.go hb
  refine vs (ways ?_ ?_)
  · refine vh fun _ => ?_
    exact H.bel
  refine vh fun hge => ?_
  have hs0 := s (by omega)
  refine x_lda H st56 ?_
  refine vs ?_
  refine x_call (toPost_ok w2 _ _ (H.rd h0) hs0) fun _ w3 ⟨d1, f1, e, S⟩ => ?_
  subst e
  have H := H.join S
  simp only [List.cons_append, List.nil_append] at H
  refine vs ?_
  refine x_call (specPostProof_ok w3 _ x0 x1 (H.own (.head _)) hs0 hr1) fun _ w4 ⟨v3_0, f3_0, v3_1, f3_1, e3, S⟩ => ?_
  subst e3
  have H := H.join S
  simp only [List.cons_append, List.nil_append] at H
  refine vs ?_
  refine x_lda H st56 ?_
  refine vs ?_
  refine x_call (toPost_ok w4 _ _ (H.rd h0) hs0) fun _ w5 ⟨d4, f4, e, S⟩ => ?_
  subst e
  have H := H.join S
  simp only [List.cons_append, List.nil_append] at H
  refine vs ?_
  refine x_al H st26 fun b0 w6 H => vs ?_
  obtain ⟨t0_0, t0_2, rfl, _⟩ := kPost_open (H.own (.tail _ (.head _)))
  refine x_sta H st26 (h1 := Kd.one _ (H.own (.tail _ (.head _)))) fun w7 H => vs ?_
  refine x_lda H st26 ?_
  refine vs ?_
  refine x_call (implPostProof_ok w7 _ x0 x1 (H.own (.tail _ (.head _))) hs0 hr1) fun _ w8 ⟨v6_0, f6_0, v6_1, f6_1, e6, S⟩ => ?_
  subst e6
  have H := H.join S
  simp only [List.cons_append, List.nil_append] at H
  refine vs ?_
  refine x_callb H (eqByteSS_ok w8 _ _ _ (H.own (.head _)) (H.own (.tail _ (.tail _ (.tail _ (.tail _ (.head _))))))) fun w9 H => vs ?_
  refine x_callb H (eqByteS_ok w9 _ _ _ _ (H.own (.tail _ (.head _))) (H.own (.tail _ (.tail _ (.tail _ (.tail _ (.tail _ (.head _)))))))) fun w10 H => vs ?_
  refine draw_at [(0, true), (1, true), (2, false), (3, false), (4, true)] fun w11 hh hb => vs ?_
  have H := H.go (hb _)
  refine q_lda H st26 ?_
  refine vs ?_
  refine q_lda H st56 ?_
  refine vs ?_
  refine x_call (toPost_ok w11 _ _ (H.rd h0) hs0) fun _ w12 ⟨d7, f7, e, S⟩ => ?_
  subst e
  have HK := kept_of S.bel (Nat.le_refl _)
  have H := H.join S
  simp only [List.cons_append, List.nil_append] at H
  refine vs ?_
  refine ⟨HK, ?_⟩
  refine x_call (eqPost_ok w12 _ _ x0 (H.own (.tail _ (.tail _ (.tail _ (.tail _ (.head _)))))) (H.own (.head _))) fun _ w13 ⟨e, hb⟩ => ?_
  subst e
  have H := H.go hb
  refine vs ?_
  refine ⟨HK.below (hb.mono (HK.1 (Nat.le_refl _))), ?_⟩
  have ht0 := totPost_le hs0
  refine x_lda H st26 ?_
  refine vs ?_
  have H := H.front (h := (.there (.there (.there (.there .here)))))
  refine x_call (markPost_ok H (1) (by omega)) fun _ w14 ⟨e, fm8, H⟩ => ?_
  subst e
  have nk : ¬ ((1 + (totPost (x0)) : Nat) : Int) < 0 := by omega
  refine ve nk ?_
  refine x_callb H (eqByteSS_ok w14 _ _ _ (H.own (.tail _ (.tail _ (.head _)))) (H.own (.tail _ (.tail _ (.tail _ (.tail _ (.tail _ (.head _)))))))) fun w15 H => vs ?_
  refine x_callb H (eqByteS_ok w15 _ _ _ _ (H.own (.tail _ (.tail _ (.tail _ (.head _))))) (H.own (.tail _ (.tail _ (.tail _ (.tail _ (.tail _ (.tail _ (.head _))))))))) fun w16 H => vs ?_
  have hg0 : (totByteSS ((postProof x0 x1).1)) ≤ 1152921504606846976 := (by have := totByteSS_le (postProof_sm x0 x1).1; omega)
  have hg1 : ((postProof x0 x1).2.1).length ≤ 1152921504606846976 := (by have := (postProof_sm x0 x1).2; omega)
  have H := H.front (h := (.there (.there .here)))
  refine x_call (markByteSS_ok H (1) (by omega)) fun _ w17 ⟨e, fm9, H⟩ => ?_
  subst e
  refine vs ?_
  have H := H.front (h := (.there (.there (.there .here))))
  refine x_call (markByteS_ok H (1 + (totByteSS ((postProof x0 x1).1))) (by omega)) fun _ w18 ⟨e, fm10, H⟩ => ?_
  subst e
  refine vs ?_
  refine x_callb H (heldByteSS_ok w18 _ ((postProof x0 x1).1) (1) (H.own (.tail _ (.head _))) (by omega)) fun w19 H => ?_
  have nn11 : ¬ ((1 + (totByteSS ((postProof x0 x1).1)) : Nat) : Int) < 0 := by omega
  refine ve nn11 ?_
  refine x_callw (heldByteS_ok w19 _ ((postProof x0 x1).2.1) (1 + (totByteSS ((postProof x0 x1).1))) (H.own (.head _)) (by omega)) ?_
  have nn12 : ¬ ((1 + (totByteSS ((postProof x0 x1).1)) + ((postProof x0 x1).2.1).length : Nat) : Int) < 0 := by omega
  refine ve nn12 ?_
  refine x_lda H st56 ?_
  refine vs ?_
  refine x_call (toPost_ok w19 _ _ (H.rd h0) hs0) fun _ w20 ⟨d13, f13, e, S⟩ => ?_
  subst e
  have H := H.join S
  simp only [List.cons_append, List.nil_append] at H
  refine vs ?_
  refine x_call (implPostProof_ok w20 _ x0 x1 (H.own (.head _)) hs0 hr1) fun _ w21 ⟨v15_0, f15_0, v15_1, f15_1, e15, S⟩ => ?_
  subst e15
  have H := H.join S
  simp only [List.cons_append, List.nil_append] at H
  refine vs ?_
  refine x_callb H (eqByteSS_ok w21 _ _ _ (H.own (.head _)) (H.own (.tail _ (.tail _ (.tail _ (.tail _ (.tail _ (.tail _ (.tail _ (.tail _ (.head _))))))))))) fun w22 H => vs ?_
  refine x_callb H (eqByteS_ok w22 _ _ _ _ (H.own (.tail _ (.head _))) (H.own (.tail _ (.tail _ (.tail _ (.tail _ (.tail _ (.tail _ (.tail _ (.tail _ (.tail _ (.head _)))))))))))) fun w23 H => vs ?_
  refine x_callb H (heldByteSS_ok w23 _ ((postProof x0 x1).1) (1) (H.own (.tail _ (.tail _ (.tail _ (.tail _ (.head _)))))) (by omega)) fun w24 H => ?_
  have nn16 : ¬ ((1 + (totByteSS ((postProof x0 x1).1)) : Nat) : Int) < 0 := by omega
  refine ve nn16 ?_
  refine x_callw (heldByteS_ok w24 _ ((postProof x0 x1).2.1) (1 + (totByteSS ((postProof x0 x1).1))) (H.own (.tail _ (.tail _ (.tail _ (.head _))))) (by omega)) ?_
  have nn17 : ¬ ((1 + (totByteSS ((postProof x0 x1).1)) + ((postProof x0 x1).2.1).length : Nat) : Int) < 0 := by omega
  refine ve nn17 ?_
  exact H.bel
end Go.Proofs.YtdljbekkckfmnaaGreat.V
