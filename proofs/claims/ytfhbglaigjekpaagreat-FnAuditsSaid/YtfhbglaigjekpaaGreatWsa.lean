/- Bytes compared: both sides. -/
import Derived.Test.YtfhbglaigjekpaaGreatWa
namespace Go.Proofs.YtfhbglaigjekpaaGreat.V
open Go Go.RowKit
set_option maxRecDepth 100000
set_option maxHeartbeats 4000000
set_option linter.unusedSimpArgs false
set_option linter.unusedVariables false
set_option pp.deepTerms false
set_option pp.deepTerms.threshold 3

theorem specSame_ok (w : World) (v v' : Value) (a b : List UInt8) (h : (bytes 5).rd w w.heap.size [v] a) (h' : (bytes 5).rd w w.heap.size [v'] b) :
    ACalls Tryz.prog 90 #[v, v'] w fun r w' => r = .bool (decide (a = b)) ∧ w' = w := by
  refine body_of follows Tryz.func90 rfl rfl _ rfl (by kernel_rfl) (vs ?_)
  refine x_str Tryz.underlying22 Tryz.underlying5 Tryz.underlying9 h (vs ?_)
  refine x_str Tryz.underlying22 Tryz.underlying5 Tryz.underlying9 h' (vs ?_)
  trivial
theorem bytesEqual_ok (w : World) (v v' : Value) (a b : List UInt8) (h : (bytes 5).rd w w.heap.size [v] a) (h' : (bytes 5).rd w w.heap.size [v'] b) :
    ACalls Tryz.prog 114 #[v, v'] w fun r w' => r = .bool (decide (a = b)) ∧ w' = w := by
  refine body_of follows Tryz.func114 rfl rfl _ rfl (by kernel_rfl) (vs ?_)
  refine x_str Tryz.underlying22 Tryz.underlying5 Tryz.underlying9 h (vs ?_)
  refine x_str Tryz.underlying22 Tryz.underlying5 Tryz.underlying9 h' (vs ?_)
  trivial
theorem implSame_ok (w : World) (v v' : Value) (a b : List UInt8) (h : (bytes 5).rd w w.heap.size [v] a) (h' : (bytes 5).rd w w.heap.size [v'] b) :
    ACalls Tryz.prog 43 #[v, v'] w fun r w' => r = .bool (decide (a = b)) ∧ w' = w := by
  refine body_of follows Tryz.func43 rfl rfl _ rfl (by kernel_rfl) (vs ?_)
  refine x_callw (bytesEqual_ok w v v' a b h h') (vs ?_)
  trivial

end Go.Proofs.YtfhbglaigjekpaaGreat.V
