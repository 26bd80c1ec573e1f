/- A handed argument's value, by its type. -/
import Derived.Test.YtcmckbgiiclomaaGreatDoorVo
import Derived.WideLaws
namespace Go.Proofs.YtcmckbgiiclomaaGreatDoor.V
open Go Go.RowKit
set_option linter.unusedVariables false
theorem okw_struct {P : Program} {w : World} {r : Reach} {base : Nat} {t : TypeId} {v : Value} {fs : Array Field} (ht : P.underlying t = some (.struct fs)) (h : Value.okWide P w r base t v) : ∃ cs : List Value, v = .agg cs.toArray := by
  unfold Value.okWide at h
  rw [ht] at h
  obtain ⟨cs, rfl, _⟩ := h
  exact ⟨cs.toList, rfl⟩
theorem okw_one {P : Program} {w : World} {r : Reach} {base : Nat} {t : TypeId} {v : Value} (ht : (match P.underlying t with | some (.slice _) | some (.int _) | some .bool | some .string => true | _ => false) = true) (h : Value.okWide P w r base t v) : v.cells.toList = [v] := by
  unfold Value.okWide at h
  split at ht
  all_goals first
    | (rename_i hu; rw [hu] at h; simp only at h; unfold Cell.okWide at h; rw [hu] at h; cases v <;> first | rfl | (simp [Cell.ok, hu] at h))
    | cases ht
end Go.Proofs.YtcmckbgiiclomaaGreatDoor.V
