/- The law FnExactRead, walked. Laid by a program. -/
import Derived.Test.YtaaommmjpeedcaaWd
namespace Go.Proofs.Ytaaommmjpeedcaa.V
open Go Go.RowKit
set_option maxRecDepth 100000
set_option maxHeartbeats 4000000
set_option linter.unusedSimpArgs false
set_option linter.unusedVariables false
set_option pp.deepTerms false
set_option pp.deepTerms.threshold 3
theorem FnExactRead_ok (w : World) (c0 : List Value) (x0 : MReader) (h0 : kReader.rd w w.heap.size c0 x0) (v1 : Value) (x1 : (List UInt8)) (h1 : ((Kd.slice 5 Kd.u8)).rd w w.heap.size [v1] x1) :
    ACalls Try.prog 6 #[.agg c0.toArray, v1] w fun r w' => r = .bool true ∧ Below w.heap.size w w' := by
  obtain ⟨a0_0, a0_2, a0_3, rfl, _⟩ := kReader_open h0
  have hv1 := h1
  have hlm1 := sl_len h1
  obtain ⟨A1, k1, rfl, _, _, _⟩ := sl_open h1
  have H := Sep.start w
  refine body_of follows Try.func6 rfl rfl _ rfl (by kernel_rfl) (vs ?_)
  refine x_bx H [a0_0, .int .i64 x0.f_Epoch, a0_2, a0_3] fun g0 w1 H => vs ?_
  refine ways ?_ ?_
  · refine vh fun _ => ?_
    exact H.bel
  refine vh fun hs1 => ?_
  refine x_lda H st39 ?_
  refine vs ?_
  refine x_call (szReader_ok w1 _ _ _ (H.rd h0) (by omega) (by omega)) fun _ w2 ⟨z0, e, hb, lo0, hi0, s⟩ => ?_
  subst e
  have H := H.go hb
  refine vs (ways ?_ ?_)
  · refine vh fun _ => ?_
    exact H.bel
  refine vh fun hge => ?_
  have hs0 := s (by omega)
  refine x_lda H st39 ?_
  refine vs ?_
  refine x_call (toReader_ok w2 _ _ (H.rd h0) hs0) fun _ w3 ⟨d1, f1, e, S⟩ => ?_
  subst e
  have H := H.join S
  simp only [List.cons_append, List.nil_append] at H
  refine vs ?_
  refine x_callf H (toByteS_ok w3 _ _ (H.rd h1) (by omega)) fun r2 f2 w4 H => vs ?_
  refine x_callb H (specRead_ok w4 _ x0 _ x1 (H.own (.tail _ (.head _))) (H.own (.head _))) fun w5 H => vs ?_
  refine x_lda H st39 ?_
  refine vs ?_
  refine x_call (toReader_ok w5 _ _ (H.rd h0) hs0) fun _ w6 ⟨d3, f3, e, S⟩ => ?_
  subst e
  have H := H.join S
  simp only [List.cons_append, List.nil_append] at H
  refine vs ?_
  refine x_al H st42 fun b0 w7 H => vs ?_
  obtain ⟨t0_0, t0_2, t0_3, rfl, _⟩ := kReader_open (H.own (.tail _ (.head _)))
  refine x_sta H st42 (h1 := Kd.one _ (H.own (.tail _ (.head _)))) fun w8 H => vs ?_
  refine x_callf H (toByteS_ok w8 _ _ (H.rd h1) (by omega)) fun r5 f5 w9 H => vs ?_
  refine x_lda H st42 ?_
  refine vs ?_
  refine x_callb H (implRead_ok w9 _ x0 _ x1 (H.own (.tail _ (.tail _ (.head _)))) (H.own (.head _))) fun w10 H => vs ?_
  refine draw_at [(0, true), (1, true), (2, false), (3, false), (4, true)] fun w11 hh hb => vs ?_
  have H := H.go (hb _)
  refine q_lda H st42 ?_
  refine vs ?_
  refine q_lda H st39 ?_
  refine vs ?_
  refine x_call (toReader_ok w11 _ _ (H.rd h0) hs0) fun _ w12 ⟨d6, f6, e, S⟩ => ?_
  subst e
  have HK := kept_of S.bel (Nat.le_refl _)
  have H := H.join S
  simp only [List.cons_append, List.nil_append] at H
  refine vs ?_
  refine ⟨HK, ?_⟩
  refine x_call (eqReader_ok w12 _ _ x0 (H.own (.tail _ (.tail _ (.tail _ (.head _))))) (H.own (.head _))) fun _ w13 ⟨e, hb⟩ => ?_
  subst e
  have H := H.go hb
  refine vs ?_
  refine ⟨HK.below (hb.mono HK.1), ?_⟩
  refine x_callf H (toByteS_ok w13 _ _ (H.rd h1) (by omega)) fun r7 f7 w14 H => vs ?_
  refine x_callb H (eqByteS_ok w14 _ _ _ _ (H.own (.tail _ (.tail _ (.head _)))) (H.own (.head _))) fun w15 H => vs ?_
  exact H.bel
end Go.Proofs.Ytaaommmjpeedcaa.V
