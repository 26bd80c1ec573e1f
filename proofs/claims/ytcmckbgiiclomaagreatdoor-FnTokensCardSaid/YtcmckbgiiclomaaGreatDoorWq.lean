/- An item as text: both sides. -/
import Derived.Test.YtcmckbgiiclomaaGreatDoorWi
import Derived.Test.YtcmckbgiiclomaaGreatDoorWt
namespace Go.Proofs.YtcmckbgiiclomaaGreatDoor.V
open Go Go.RowKit
set_option maxRecDepth 100000
set_option maxHeartbeats 400000
set_option linter.unusedSimpArgs false
set_option linter.unusedVariables false
set_option pp.deepTerms false
set_option pp.deepTerms.threshold 3

theorem itoa_len {n : Int} (h : -9223372036854775808 ≤ n ∧ n < 9223372036854775808) : (Lib.itoa n).length ≤ 21 := by
  by_cases h0 : n = 0
  · subst h0; rw [itoa_zero]; decide
  have h1 := ddig_len 20 n.natAbs (by omega)
  by_cases hn : n < 0
  · rw [itoa_neg hn, List.length_cons]; omega
  · rw [itoa_pos (by omega)]; omega
end Go.Proofs.YtcmckbgiiclomaaGreatDoor.V
