/- Unsixes of the program returns what Unsixes of the reference returns, for all strings of signs. -/
import Derived.Test.YtaaommmjpeedcaaRows
import Derived.Test.YtaaommmjpeedcaaLh
import Derived.Test.YtaaommmjpeedcaaVo
import Derived.Test.YtaaommmjpeedcaaVp
import Derived.WalkKit
import Derived.ProofKit
import Derived.OpenShut
import Derived.ShutString
import Derived.ChangeOld
import Derived.Below
import Derived.SizedLaws
namespace Go.Proofs.Ytaaommmjpeedcaa.fnExactUnsixes
open Go.ChangeShapes Go.WideShapes Go.ChangeAt Go.RowKit Go.Proofs.Ytaaommmjpeedcaa.V
open Go.ChangeMaps (open_string)
set_option linter.unusedVariables false
theorem own : ownKnob Try.prog.godebug = none := by kernel_rfl
theorem laidOut : laidOutB Try.prog = true := by kernel_rfl
set_option maxRecDepth 100000 in
theorem lifted (os : Os) (started : os.Started) (H : Type) (enc : TypeId × Value → H) :
    ReturnsInHanded {} Try.checked os 7 .any (Rows.fnExactUnsixesSpec.pre6 enc Try.prog Try.f7 Rows.fnExactUnsixesRow.domain false) (Rows.fnExactUnsixesSpec.post enc Try.prog Try.f7 false true false false) := by
  refine returnsInHanded_of_change_sized (C := Try.checked) own started (by kernel_rfl) Try.func7
    (ChangeSpec.witness6 (enc := enc) (C := Try.checked) false ⟨#[], #[.string ⟨#[]⟩], []⟩ 8 (by kernel_rfl) (by kernel_rfl) (by kernel_rfl) (by kernel_rfl)) ?_
  intro W base args ds gs before hval0 hW hcnd _ _
  have hval : ∀ (j : Nat) t v, Try.f7.params[j]? = some t → args[j]? = some v → Value.okWide Try.prog W .any base t v := hval0
  have hW' := hW
  obtain ⟨p, q, hA0, hV, rfl, hfz, hnd⟩ := hW
  have hA : DataW.TrodAll enc Try.prog W 0 (fun _ => true) true Try.f7.params.toList args.toList ds p := hA0
  rw [Try.params7] at hA hval
  obtain ⟨v0, vs0, d0, ds0, p0, q0, hargs0, rfl, rfl, h0, r0⟩ := trodAll_cons hA
  obtain ⟨rfl, rfl, rfl⟩ := trodAll_nil r0
  obtain rfl : args = #[v0] := by cases args; simp_all
  obtain ⟨rfl, rfl⟩ := trodVars_none hV
  have lt0 : ∀ x ∈ p0, x.block < W.heap.size := by obtain ⟨m, hm⟩ := h0; exact DataW.trod_lt m _ _ _ hm
  have e0 : v0.cells.toList = [v0] := okw_one (by kernel_rfl) (hval 0 9 v0 rfl rfl)
  obtain ⟨y0, z0⟩ : ∃ y, (Kd.str).rd W W.heap.size [v0] y := by obtain ⟨m, hm⟩ := h0; rw [e0] at hm; exact (opens_str Try.underlying9) enc W m _ _ hm
  refine Calls.mono (FnExactUnsixes_ok W _ _ z0) fun e W' ⟨v, he, hr, bel⟩ => ?_
  subst he
  subst hr
  exact ⟨_, rfl, _, _, _, [], _, [], hW', trodAll_mk1 (shut_bool Try.underlying4 _), (trodAll_cons_mk (Below.trod laidOut (by kernel_rfl) (of_decide_eq_true (by kernel_rfl)) h0 bel lt0) trodAll_mk0), rfl, bel.frame _, fun h => by cases h⟩
theorem over : Rows.fnExactUnsixesRow.holds Try.pinned (OpenSpec.ofChange Rows.fnExactUnsixesSpec) :=
  OpenClaim.holds_of_wide 7 Try.f7 rfl rfl rfl rfl rfl rfl rfl ⟨rfl, rfl, rfl, rfl, rfl⟩ rfl rfl rfl rfl rfl (by kernel_rfl) Try.func7 (by kernel_rfl)
    (of_decide_eq_true (by kernel_rfl)) (by unfold Func.isWrapper; first | (rw [if_pos (by decide +kernel)]; kernel_rfl) | (rw [if_neg (by decide +kernel)]; exact ⟨rfl, rfl⟩))
    (fun os started H enc _ => lifted os started H enc)
theorem proved : Rows.FnExactUnsixesSaid := over
end Go.Proofs.Ytaaommmjpeedcaa.fnExactUnsixes
namespace Go.Proofs.Ytaaommmjpeedcaa
/-- The row, under a short name, for the claim. -/
theorem fnExactUnsixes_holds : Rows.FnExactUnsixesSaid := fnExactUnsixes.proved
end Go.Proofs.Ytaaommmjpeedcaa
