/- The law FnExactTokenText, walked. Laid by a program. -/
import Derived.Test.YtagljofpmjaciaaDoorWqx
namespace Go.Proofs.YtagljofpmjaciaaDoor.V
open Go Go.RowKit
set_option maxRecDepth 100000
set_option maxHeartbeats 4000000
set_option linter.unusedSimpArgs false
set_option linter.unusedVariables false
set_option pp.deepTerms false
set_option pp.deepTerms.threshold 3
theorem FnExactTokenText_ok (w : World) (c0 : List Value) (x0 : MToken) (h0 : kToken.rd w w.heap.size c0 x0) (ht : Tab w) :
    ACalls Tryd.prog 4 #[.agg c0.toArray] w fun r w' => r = .bool true ∧ Below w.heap.size w w' := by
  obtain ⟨_, rfl, _⟩ := kToken_open h0
  have H := Sep.start w
  refine body_of follows Tryd.func4 rfl rfl _ rfl (by kernel_rfl) (vs ?_)
  refine x_bx H [.string ⟨(x0.f_Route).toArray⟩, .int .i64 x0.f_Until] fun g0 w1 H => vs ?_
  refine x_lda H st32 ?_
  refine vs ?_
  refine x_call (szToken_ok w1 _ _ _ (H.rd h0) (by omega) (by omega)) fun _ w2 ⟨z0, e, hb, lo0, hi0, s⟩ => ?_
  subst e
  have H := H.go hb
  refine vs (ways ?_ ?_)
  · refine vh fun _ => ?_
    exact H.bel
  refine vh fun hge => ?_
  have hs0 := s (by omega)
  refine x_lda H st32 ?_
  refine vs ?_
  refine x_call (toToken_ok w2 _ _ (H.rd h0) hs0) fun _ w3 ⟨d1, f1, e, S⟩ => ?_
  subst e
  have H := H.join S
  simp only [List.cons_append, List.nil_append] at H
  refine vs ?_
  refine x_callb H (specTokenText_ok w3 _ x0 (H.own (.head _)) hs0 (ht.below H.bel)) fun w4 H => vs ?_
  refine x_lda H st32 ?_
  refine vs ?_
  refine x_call (toToken_ok w4 _ _ (H.rd h0) hs0) fun _ w5 ⟨d2, f2, e, S⟩ => ?_
  subst e
  have H := H.join S
  simp only [List.cons_append, List.nil_append] at H
  refine vs ?_
  refine x_callb H (implTokenText_ok w5 _ x0 (H.own (.head _)) hs0 (ht.below H.bel)) fun w6 H => vs ?_
  exact H.bel
end Go.Proofs.YtagljofpmjaciaaDoor.V
