/- The law FnExactFanSize, walked. Laid by a program. -/
import Derived.Test.YtaaommmjpeedcaaWo
namespace Go.Proofs.Ytaaommmjpeedcaa.V
open Go Go.RowKit
set_option maxRecDepth 100000
set_option maxHeartbeats 4000000
set_option linter.unusedSimpArgs false
set_option linter.unusedVariables false
set_option pp.deepTerms false
set_option pp.deepTerms.threshold 3
theorem FnExactFanSize_ok (w : World) (v0 : Value) (x0 : (List MLetter)) (h0 : ((Kd.slice 88 kLetter)).rd w w.heap.size [v0] x0) :
    ACalls Try.prog 12 #[v0] w fun r w' => r = .bool true ∧ Below w.heap.size w w' := by
  have hv0 := h0
  have hlm0 := sl_len h0
  obtain ⟨A0, k0, rfl, _, _, _⟩ := sl_open h0
  have H := Sep.start w
  refine body_of follows Try.func12 rfl rfl _ rfl (by kernel_rfl) (vs ?_)
  refine x_call (szLetterS_ok w _ _ _ (H.rd h0) (by omega) (by omega)) fun _ w1 ⟨z0, e, hb, lo0, hi0, s⟩ => ?_
  subst e
  have H := H.go hb
  refine vs (ways ?_ ?_)
  · refine vh fun _ => ?_
    exact H.bel
  refine vh fun hge => ?_
  have hs0 := s (by omega)
  refine x_callf H (toLetterS_ok w1 _ _ (H.rd h0) hs0) fun r1 f1 w2 H => vs ?_
  refine x_callb H (specFanSize_ok w2 _ x0 (H.own (.head _))) fun w3 H => vs ?_
  refine x_callf H (toLetterS_ok w3 _ _ (H.rd h0) hs0) fun r2 f2 w4 H => vs ?_
  refine x_callb H (implFanSize_ok w4 _ x0 (H.own (.head _))) fun w5 H => vs ?_
  refine x_callf H (toLetterS_ok w5 _ _ (H.rd h0) hs0) fun r3 f3 w6 H => vs ?_
  refine x_callb H (eqLetterS_ok w6 _ _ x0 (H.own (.tail _ (.head _))) (H.own (.head _))) fun w7 H => vs ?_
  exact H.bel
end Go.Proofs.Ytaaommmjpeedcaa.V
