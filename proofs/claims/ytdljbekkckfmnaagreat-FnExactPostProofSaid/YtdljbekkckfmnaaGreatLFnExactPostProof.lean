/- A proof of a line of a post: both sides answer alike, at every argument. -/
import Derived.Test.YtdljbekkckfmnaaGreatRows
import Derived.Test.YtdljbekkckfmnaaGreatLb
import Derived.Test.YtdljbekkckfmnaaGreatVo
import Derived.Test.YtdljbekkckfmnaaGreatVp
import Derived.WalkKit
import Derived.ProofKit
import Derived.OpenShut
import Derived.ShutString
import Derived.ChangeOld
import Derived.Below
import Derived.SizedLaws
namespace Go.Proofs.YtdljbekkckfmnaaGreat.fnExactPostProof
open Go.ChangeShapes Go.WideShapes Go.ChangeAt Go.RowKit Go.Proofs.YtdljbekkckfmnaaGreat.V
open Go.ChangeMaps (open_string)
set_option linter.unusedVariables false
theorem own : ownKnob Tryz.prog.godebug = none := by kernel_rfl
theorem laidOut : laidOutB Tryz.prog = true := by kernel_rfl
set_option maxRecDepth 100000 in
theorem lifted (os : Os) (started : os.Started) (H : Type) (enc : TypeId × Value → H) :
    ReturnsInHanded {} Tryz.checked os 7 .any (Rows.fnExactPostProofSpec.pre6 enc Tryz.prog Tryz.f7 Rows.fnExactPostProofRow.domain false) (Rows.fnExactPostProofSpec.post enc Tryz.prog Tryz.f7 false true false false) := by
  refine returnsInHanded_of_change_sized (C := Tryz.checked) own started (by kernel_rfl) Tryz.func7
    (ChangeSpec.witness6 (enc := enc) (C := Tryz.checked) false ⟨#[], #[.agg #[.slice none 0 0, .int .i64 0, .slice none 0 0, .int .i64 0], .int .i64 0], []⟩ 8 (by kernel_rfl) (by kernel_rfl) (by kernel_rfl) (by kernel_rfl)) ?_
  intro W base args ds gs before hval0 hW hcnd _ _
  have hval : ∀ (j : Nat) t v, Tryz.f7.params[j]? = some t → args[j]? = some v → Value.okWide Tryz.prog W .any base t v := hval0
  have hW' := hW
  obtain ⟨p, q, hA0, hV, rfl, hfz, hnd⟩ := hW
  have hA : DataW.TrodAll enc Tryz.prog W 0 (fun _ => true) true Tryz.f7.params.toList args.toList ds p := hA0
  rw [Tryz.params7] at hA hval
  obtain ⟨v0, vs0, d0, ds0, p0, q0, hargs0, rfl, rfl, h0, r0⟩ := trodAll_cons hA
  obtain ⟨v1, vs1, d1, ds1, p1, q1, hargs1, rfl, rfl, h1, r1⟩ := trodAll_cons r0
  obtain ⟨rfl, rfl, rfl⟩ := trodAll_nil r1
  obtain rfl : args = #[v0, v1] := by cases args; simp_all
  obtain ⟨rfl, rfl⟩ := trodVars_none hV
  have lt0 : ∀ x ∈ p0, x.block < W.heap.size := by obtain ⟨m, hm⟩ := h0; exact DataW.trod_lt m _ _ _ hm
  have lt1 : ∀ x ∈ p1, x.block < W.heap.size := by obtain ⟨m, hm⟩ := h1; exact DataW.trod_lt m _ _ _ hm
  obtain ⟨c0, rfl⟩ := okw_struct Tryz.underlying55 (hval 0 56 v0 rfl rfl)
  obtain ⟨y0, z0⟩ : ∃ y, (kPost).rd W W.heap.size c0 y := by obtain ⟨m, hm⟩ := h0; exact opens_56 enc W m _ _ hm
  have e1 : v1.cells.toList = [v1] := okw_one (by kernel_rfl) (hval 1 3 v1 rfl rfl)
  obtain ⟨y1, z1⟩ : ∃ y, (Kd.i64).rd W W.heap.size [v1] y := by obtain ⟨m, hm⟩ := h1; rw [e1] at hm; exact (opens_i64 Tryz.underlying3) enc W m _ _ hm
  refine Calls.mono (FnExactPostProof_ok W _ _ z0 _ _ z1) fun e W' ⟨v, he, hr, bel⟩ => ?_
  subst he
  subst hr
  exact ⟨_, rfl, _, _, _, [], _, [], hW', trodAll_mk1 (shut_bool Tryz.underlying4 _), (trodAll_cons_mk (Below.trod laidOut (by kernel_rfl) (of_decide_eq_true (by kernel_rfl)) h0 bel lt0) (trodAll_cons_mk (Below.trod laidOut (by kernel_rfl) (of_decide_eq_true (by kernel_rfl)) h1 bel lt1) trodAll_mk0)), rfl, bel.frame _, fun h => by cases h⟩
theorem over : Rows.fnExactPostProofRow.holds Tryz.pinned (OpenSpec.ofChange Rows.fnExactPostProofSpec) :=
  OpenClaim.holds_of_wide 7 Tryz.f7 rfl rfl rfl rfl rfl rfl rfl ⟨rfl, rfl, rfl, rfl, rfl⟩ rfl rfl rfl rfl rfl (by kernel_rfl) Tryz.func7 (by kernel_rfl)
    (of_decide_eq_true (by kernel_rfl)) (by unfold Func.isWrapper; first | (rw [if_pos (by decide +kernel)]; kernel_rfl) | (rw [if_neg (by decide +kernel)]; exact ⟨rfl, rfl⟩))
    (fun os started H enc _ => lifted os started H enc)
theorem proved : Rows.FnExactPostProofSaid := over
end Go.Proofs.YtdljbekkckfmnaaGreat.fnExactPostProof
namespace Go.Proofs.YtdljbekkckfmnaaGreat
/-- The row, under a short name, for the claim. -/
theorem fnExactPostProof_holds : Rows.FnExactPostProofSaid := fnExactPostProof.proved
end Go.Proofs.YtdljbekkckfmnaaGreat
