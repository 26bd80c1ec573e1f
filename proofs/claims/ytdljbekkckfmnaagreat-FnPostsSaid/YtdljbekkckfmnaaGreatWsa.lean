/- Bytes compared: both sides. -/
import Derived.Test.YtdljbekkckfmnaaGreatWa
namespace Go.Proofs.YtdljbekkckfmnaaGreat.V
open Go Go.RowKit
set_option maxRecDepth 100000
set_option maxHeartbeats 4000000
set_option linter.unusedSimpArgs false
set_option linter.unusedVariables false
set_option pp.deepTerms false
set_option pp.deepTerms.threshold 3

theorem specSame_ok (w : World) (v v' : Value) (a b : List UInt8) (h : (bytes 5).rd w w.heap.size [v] a) (h' : (bytes 5).rd w w.heap.size [v'] b) :
    ACalls Tryz.prog 97 #[v, v'] w fun r w' => r = .bool (decide (a = b)) ∧ w' = w := by
  refine body_of follows Tryz.func97 rfl rfl _ rfl (by kernel_rfl) (vs ?_)
  refine x_str Tryz.underlying22 Tryz.underlying5 Tryz.underlying9 h (vs ?_)
  refine x_str Tryz.underlying22 Tryz.underlying5 Tryz.underlying9 h' (vs ?_)
  trivial
theorem bytesEqual_ok (w : World) (v v' : Value) (a b : List UInt8) (h : (bytes 5).rd w w.heap.size [v] a) (h' : (bytes 5).rd w w.heap.size [v'] b) :
    ACalls Tryz.prog 52 #[v, v'] w fun r w' => r = .bool (decide (a = b)) ∧ w' = w := by
  refine body_of follows Tryz.func52 rfl rfl _ rfl (by kernel_rfl) (vs ?_)
  refine x_str Tryz.underlying22 Tryz.underlying5 Tryz.underlying9 h (vs ?_)
  refine x_str Tryz.underlying22 Tryz.underlying5 Tryz.underlying9 h' (vs ?_)
  trivial
theorem implSame_ok (w : World) (v v' : Value) (a b : List UInt8) (h : (bytes 5).rd w w.heap.size [v] a) (h' : (bytes 5).rd w w.heap.size [v'] b) :
    ACalls Tryz.prog 12 #[v, v'] w fun r w' => r = .bool (decide (a = b)) ∧ w' = w := by
  refine body_of follows Tryz.func12 rfl rfl _ rfl (by kernel_rfl) (vs ?_)
  refine x_callw (bytesEqual_ok w v v' a b h h') (vs ?_)
  trivial

end Go.Proofs.YtdljbekkckfmnaaGreat.V
