/- The law on whether a chain is right, walked. -/
import Derived.Test.YtaaommmjpeedcaaWc
namespace Go.Proofs.Ytaaommmjpeedcaa.V
open Go Go.RowKit
set_option maxRecDepth 100000
set_option maxHeartbeats 4000000
set_option linter.unusedSimpArgs false
set_option linter.unusedVariables false
set_option pp.deepTerms false
set_option pp.deepTerms.threshold 3

theorem FnExactChainOk_ok (w : World) (cs : List Value) (x : MChain) (h : kChain.rd w w.heap.size cs x) :
    ACalls Try.prog 4 #[.agg cs.toArray] w fun r w' => r = .bool true ∧ Below w.heap.size w w' := by
  have hx := h
  obtain ⟨v0, rfl, h0, h1⟩ := kChain_open h
  have H := Sep.start w
  refine body_of follows Try.func4 rfl rfl _ rfl (by kernel_rfl) (vs ?_)
  refine x_bx H [v0, .int .i64 x.f_N] fun g1 w1 H => vs ?_
  refine x_lda H st26 ?_
  refine vs ?_
  refine x_call (szChain_ok w1 _ _ _ (H.rd hx) (by omega) (by omega)) fun _ w2 ⟨z, e, hb, a, b, s⟩ => ?_
  subst e
  have H := H.go hb
  refine vs (ways ?_ ?_)
  · refine vh fun _ => ?_
    exact H.bel
  refine vh fun hge => ?_
  have hs := s (by omega)
  refine x_lda H st26 ?_
  refine vs ?_
  refine x_call (toChain_ok w2 _ _ (H.rd hx) hs) fun _ w3 ⟨c1, fp1, e1, S⟩ => ?_
  subst e1
  have H := H.join S
  simp only [List.cons_append, List.nil_append] at H
  refine vs ?_
  refine x_callb H (specChainOk_ok w3 _ x (H.own (.head _))) fun w4 H => vs ?_
  refine x_lda H st26 ?_
  refine vs ?_
  refine x_call (toChain_ok w4 _ _ (H.rd hx) hs) fun _ w5 ⟨c2, fp2, e2, S⟩ => ?_
  subst e2
  have H := H.join S
  simp only [List.cons_append, List.nil_append] at H
  refine vs ?_
  refine x_al H st29 fun g2 w6 H => vs ?_
  obtain ⟨u0, rfl, _⟩ := kChain_open (H.own (.tail _ (.head _)))
  refine x_sta H st29 (h1 := Kd.one _ (H.own (.tail _ (.head _)))) fun w7 H => vs ?_
  refine x_lda H st29 ?_
  refine vs ?_
  refine x_callb H (implChainOk_ok w7 _ x (H.own (.tail _ (.head _)))) fun w8 H => vs ?_
  refine draw_at [(0, true), (1, true), (2, false), (3, false), (4, true)] fun w9 hh hb9 => vs ?_
  have H := H.go (hb9 _)
  refine q_lda H st29 ?_
  refine vs ?_
  refine q_lda H st26 ?_
  refine vs ?_
  refine x_call (toChain_ok w9 _ _ (H.rd hx) hs) fun _ w10 ⟨c3, fp3, e3, S⟩ => ?_
  subst e3
  have HK := kept_of S.bel (Nat.le_refl _)
  have H := H.join S
  simp only [List.cons_append, List.nil_append] at H
  refine vs ?_
  refine ⟨HK, ?_⟩
  refine x_call (eqChain_ok w10 _ _ x (H.own (.tail _ (.tail _ (.head _)))) (H.own (.head _))) fun _ w11 ⟨e4, hb4⟩ => ?_
  subst e4
  have H := H.go hb4
  refine vs ?_
  refine ⟨HK.below (hb4.mono HK.1), ?_⟩
  exact H.bel
end Go.Proofs.Ytaaommmjpeedcaa.V
