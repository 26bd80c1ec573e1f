/- The law FnExactCatchKey, walked. Laid by a program. -/
import Derived.Test.YtagljofpmjaciaaWmh
import Derived.Test.YtagljofpmjaciaaWx
namespace Go.Proofs.Ytagljofpmjaciaa.V
open Go Go.RowKit
set_option maxRecDepth 100000
set_option maxHeartbeats 8000000
set_option linter.unusedSimpArgs false
set_option linter.unusedVariables false
set_option pp.deepTerms false
set_option pp.deepTerms.threshold 3
theorem FnExactCatchKey_ok (w : World) (c0 : List Value) (x0 : MCatch) (h0 : kCatch.rd w w.heap.size c0 x0) (v1 : Value) (x1 : Int) (h1 : (Kd.i64).rd w w.heap.size [v1] x1) :
    ACalls Try.prog 11 #[.agg c0.toArray, v1] w fun r w' => r = .bool true ∧ Below w.heap.size w w' := by
  obtain ⟨a0_0_0, a0_1, rfl, _⟩ := kCatch_open h0
  have hr1 := h1.2
  obtain rfl := (List.cons.inj h1.1).1
  have H := Sep.start w
  refine body_of follows Try.func11 rfl rfl _ rfl (by kernel_rfl) (vs ?_)
  refine x_bx H [a0_0_0, .int .i64 x0.f_Chain.f_N, a0_1] fun g0 w1 H => vs ?_
  refine x_lda H st74 ?_
  refine vs ?_
  refine x_call (szCatch_ok w1 _ _ _ (H.rd h0) (by omega) (by omega)) fun _ w2 ⟨z0, e, hb, lo0, hi0, s⟩ => ?_
  subst e
  have H := H.go hb
  refine vs (ways ?_ ?_)
  · refine vh fun _ => ?_
    exact H.bel
  refine vh fun hge => ?_
  have hs0 := s (by omega)
  refine x_lda H st74 ?_
  refine vs ?_
  refine x_call (toCatch_ok w2 _ _ (H.rd h0) hs0) fun _ w3 ⟨d1, f1, e, S⟩ => ?_
  subst e
  have H := H.join S
  simp only [List.cons_append, List.nil_append] at H
  refine vs ?_
  refine x_call (specCatchKey_ok w3 _ x0 x1 (H.own (.head _)) hs0) fun _ w4 ⟨v3_0, f3_0, v3_1, f3_1, e3, S⟩ => ?_
  subst e3
  have H := H.join S
  simp only [List.cons_append, List.nil_append] at H
  obtain ⟨t3_0_0_0, t3_0_1, rfl, _⟩ := kCatch_open (H.own (.head _))
  refine vs ?_
  refine x_al H st50 fun b3_0 w5 H => vs ?_
  refine x_sta H st50 (h1 := Kd.one _ (H.own (.tail _ (.head _)))) fun w6 H => vs ?_
  refine x_lda H st74 ?_
  refine vs ?_
  refine x_call (toCatch_ok w6 _ _ (H.rd h0) hs0) fun _ w7 ⟨d4, f4, e, S⟩ => ?_
  subst e
  have H := H.join S
  simp only [List.cons_append, List.nil_append] at H
  refine vs ?_
  refine x_al H st50 fun b0 w8 H => vs ?_
  obtain ⟨t0_0_0, t0_1, rfl, _⟩ := kCatch_open (H.own (.tail _ (.head _)))
  refine x_sta H st50 (h1 := Kd.one _ (H.own (.tail _ (.head _)))) fun w9 H => vs ?_
  refine x_lda H st50 ?_
  refine vs ?_
  refine x_call (implCatchKey_ok w9 _ x0 x1 (H.own (.tail _ (.head _))) hs0) fun _ w10 ⟨v6_0, f6_0, v6_1, f6_1, e6, S⟩ => ?_
  subst e6
  have H := H.join S
  simp only [List.cons_append, List.nil_append] at H
  obtain ⟨t6_0_0_0, t6_0_1, rfl, _⟩ := kCatch_open (H.own (.head _))
  refine vs ?_
  refine x_al H st50 fun b6_0 w11 H => vs ?_
  refine x_sta H st50 (h1 := Kd.one _ (H.own (.tail _ (.head _)))) fun w12 H => vs ?_
  refine x_lda H st50 ?_
  refine vs ?_
  refine x_lda H st50 ?_
  refine vs ?_
  refine x_callb H (eqCatch_ok w12 _ _ _ (H.own (.tail _ (.head _))) (H.own (.tail _ (.tail _ (.tail _ (.tail _ (.tail _ (.tail _ (.head _))))))))) fun w13 H => vs ?_
  refine x_callb H (eqByteS_ok w13 _ _ _ _ (H.own (.tail _ (.tail _ (.head _)))) (H.own (.tail _ (.tail _ (.tail _ (.tail _ (.tail _ (.tail _ (.tail _ (.head _)))))))))) fun w14 H => vs ?_
  refine draw_at [(0, true), (1, true), (2, false), (3, false), (4, true)] fun w15 hh hb => vs ?_
  have H := H.go (hb _)
  refine q_lda H st50 ?_
  refine vs ?_
  refine q_lda H st74 ?_
  refine vs ?_
  refine x_call (toCatch_ok w15 _ _ (H.rd h0) hs0) fun _ w16 ⟨d7, f7, e, S⟩ => ?_
  subst e
  have HK := kept_of S.bel (Nat.le_refl _)
  have H := H.join S
  simp only [List.cons_append, List.nil_append] at H
  refine vs ?_
  refine ⟨HK, ?_⟩
  refine x_call (eqCatch_ok w16 _ _ x0 (H.own (.tail _ (.tail _ (.tail _ (.tail _ (.tail _ (.head _))))))) (H.own (.head _))) fun _ w17 ⟨e, hb⟩ => ?_
  subst e
  have H := H.go hb
  refine vs ?_
  refine ⟨HK.below (hb.mono (HK.1 (Nat.le_refl _))), ?_⟩
  have ht0 := totCatch_le hs0
  refine x_lda H st50 ?_
  refine vs ?_
  have H := H.front (h := (.there (.there (.there (.there (.there .here))))))
  refine x_call (markCatch_ok H (1) (by omega)) fun _ w18 ⟨e, fm8, H⟩ => ?_
  subst e
  have nk : ¬ ((1 + (totCatch (x0)) : Nat) : Int) < 0 := by omega
  refine ve nk ?_
  refine x_lda H st50 ?_
  refine vs ?_
  refine x_lda H st50 ?_
  refine vs ?_
  refine x_callb H (eqCatch_ok w18 _ _ _ (H.own (.tail _ (.tail _ (.tail _ (.head _))))) (H.own (.tail _ (.tail _ (.tail _ (.tail _ (.tail _ (.tail _ (.tail _ (.head _)))))))))) fun w19 H => vs ?_
  refine x_callb H (eqByteS_ok w19 _ _ _ _ (H.own (.tail _ (.tail _ (.tail _ (.tail _ (.head _)))))) (H.own (.tail _ (.tail _ (.tail _ (.tail _ (.tail _ (.tail _ (.tail _ (.tail _ (.head _))))))))))) fun w20 H => vs ?_
  have hg0 : (totCatch ((ck x0 x1).1)) ≤ 1152921504606846976 := (by have := totCatch_le (ck_sm (n := x1) hs0).1; omega)
  have hg1 : ((ck x0 x1).2.1).length ≤ 1152921504606846976 := (by have := (ck_sm (n := x1) hs0).2; omega)
  refine x_lda H st50 ?_
  refine vs ?_
  have H := H.front (h := (.there (.there (.there .here))))
  refine x_call (markCatch_ok H (1) (by omega)) fun _ w21 ⟨e, fm9, H⟩ => ?_
  subst e
  refine vs ?_
  have H := H.front (h := (.there (.there (.there (.there .here)))))
  refine x_call (markByteS_ok H (1 + (totCatch ((ck x0 x1).1))) (by omega)) fun _ w22 ⟨e, fm10, H⟩ => ?_
  subst e
  refine vs ?_
  refine x_lda H st50 ?_
  refine vs ?_
  refine x_callb H (heldCatch_ok w22 _ ((ck x0 x1).1) (1) (H.own (.tail _ (.head _))) (by omega)) fun w23 H => ?_
  have nn11 : ¬ ((1 + (totCatch ((ck x0 x1).1)) : Nat) : Int) < 0 := by omega
  refine ve nn11 ?_
  refine x_callw (heldByteS_ok w23 _ ((ck x0 x1).2.1) (1 + (totCatch ((ck x0 x1).1))) (H.own (.head _)) (by omega)) ?_
  have nn12 : ¬ ((1 + (totCatch ((ck x0 x1).1)) + ((ck x0 x1).2.1).length : Nat) : Int) < 0 := by omega
  refine ve nn12 ?_
  refine x_lda H st74 ?_
  refine vs ?_
  refine x_call (toCatch_ok w23 _ _ (H.rd h0) hs0) fun _ w24 ⟨d13, f13, e, S⟩ => ?_
  subst e
  have H := H.join S
  simp only [List.cons_append, List.nil_append] at H
  refine vs ?_
  refine x_call (implCatchKey_ok w24 _ x0 x1 (H.own (.head _)) hs0) fun _ w25 ⟨v15_0, f15_0, v15_1, f15_1, e15, S⟩ => ?_
  subst e15
  have H := H.join S
  simp only [List.cons_append, List.nil_append] at H
  obtain ⟨t15_0_0_0, t15_0_1, rfl, _⟩ := kCatch_open (H.own (.head _))
  refine vs ?_
  refine x_al H st50 fun b15_0 w26 H => vs ?_
  refine x_sta H st50 (h1 := Kd.one _ (H.own (.tail _ (.head _)))) fun w27 H => vs ?_
  refine x_lda H st50 ?_
  refine vs ?_
  refine x_lda H st50 ?_
  refine vs ?_
  refine x_callb H (eqCatch_ok w27 _ _ _ (H.own (.tail _ (.head _))) (H.own (.tail _ (.tail _ (.tail _ (.tail _ (.tail _ (.tail _ (.tail _ (.tail _ (.tail _ (.tail _ (.tail _ (.head _)))))))))))))) fun w28 H => vs ?_
  refine x_callb H (eqByteS_ok w28 _ _ _ _ (H.own (.tail _ (.tail _ (.head _)))) (H.own (.tail _ (.tail _ (.tail _ (.tail _ (.tail _ (.tail _ (.tail _ (.tail _ (.tail _ (.tail _ (.tail _ (.tail _ (.head _))))))))))))))) fun w29 H => vs ?_
  refine x_lda H st50 ?_
  refine vs ?_
  refine x_callb H (heldCatch_ok w29 _ ((ck x0 x1).1) (1) (H.own (.tail _ (.tail _ (.tail _ (.tail _ (.tail _ (.head _))))))) (by omega)) fun w30 H => ?_
  have nn16 : ¬ ((1 + (totCatch ((ck x0 x1).1)) : Nat) : Int) < 0 := by omega
  refine ve nn16 ?_
  refine x_callw (heldByteS_ok w30 _ ((ck x0 x1).2.1) (1 + (totCatch ((ck x0 x1).1))) (H.own (.tail _ (.tail _ (.tail _ (.tail _ (.head _)))))) (by omega)) ?_
  have nn17 : ¬ ((1 + (totCatch ((ck x0 x1).1)) + ((ck x0 x1).2.1).length : Nat) : Int) < 0 := by omega
  refine ve nn17 ?_
  exact H.bel
end Go.Proofs.Ytagljofpmjaciaa.V
