/- The law on bytes told in signs of six bits, walked. -/
import Derived.Test.YtaaommmjpeedcaaWb
namespace Go.Proofs.Ytaaommmjpeedcaa.V
open Go Go.RowKit
set_option maxRecDepth 100000
set_option maxHeartbeats 4000000
set_option linter.unusedSimpArgs false
set_option linter.unusedVariables false
set_option pp.deepTerms false
set_option pp.deepTerms.threshold 3

theorem FnExactSixes_ok (w : World) (v : Value) (a : List UInt8) (h : (bytes 5).rd w w.heap.size [v] a) :
    ACalls Try.prog 5 #[v] w fun r w' => r = .bool true ∧ Below w.heap.size w w' := by
  have hv := h
  obtain ⟨A, c, rfl, hc1, hc2, ha⟩ := sl_open h
  have H := Sep.start w
  refine body_of follows Try.func5 rfl rfl _ rfl (by kernel_rfl) (vs (ways ?_ ?_))
  · refine vh fun hbig => ?_
    exact H.bel
  · refine vh fun hsm => ?_
    refine x_callf H (toByteS_ok w _ a hv (by omega)) fun v1 fp1 w1 H => vs ?_
    refine x_callb H (specSixes_ok w1 _ a (H.own (.head _)) (by omega)) fun w2 H => vs ?_
    refine x_callf H (toByteS_ok w2 _ a (H.rd hv) (by omega)) fun v3 fp3 w3 H => vs ?_
    refine x_callb H (implSixes_ok w3 _ a (H.own (.head _)) (by omega)) fun w4 H => vs ?_
    refine x_callf H (toByteS_ok w4 _ a (H.rd hv) (by omega)) fun v5 fp5 w5 H => vs ?_
    refine x_callb H (eqByteS_ok w5 _ _ a a (H.own (.tail _ (.head _))) (H.own (.head _)) (by omega)) fun w6 H => vs ?_
    exact H.bel
end Go.Proofs.Ytaaommmjpeedcaa.V
