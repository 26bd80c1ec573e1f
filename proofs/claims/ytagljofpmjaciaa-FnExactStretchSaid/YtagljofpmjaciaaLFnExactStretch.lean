/- Stretch answers as the reference answers, at every argument that the law is asked at. -/
import Derived.Test.YtagljofpmjaciaaRows
import Derived.Test.YtagljofpmjaciaaLa
import Derived.Test.YtagljofpmjaciaaVo
import Derived.Test.YtagljofpmjaciaaVp
import Derived.WalkKit
import Derived.ProofKit
import Derived.OpenShut
import Derived.ShutString
import Derived.ChangeOld
import Derived.Below
import Derived.SizedLaws
namespace Go.Proofs.Ytagljofpmjaciaa.fnExactStretch
open Go.ChangeShapes Go.WideShapes Go.ChangeAt Go.RowKit Go.Proofs.Ytagljofpmjaciaa.V
open Go.ChangeMaps (open_string)
set_option linter.unusedVariables false
theorem own : ownKnob Try.prog.godebug = none := by kernel_rfl
theorem laidOut : laidOutB Try.prog = true := by kernel_rfl
set_option maxRecDepth 100000 in
theorem lifted (os : Os) (started : os.Started) (H : Type) (enc : TypeId × Value → H) :
    ReturnsInHanded {} Try.checked os 6 .any (Rows.fnExactStretchSpec.pre6 enc Try.prog Try.f6 Rows.fnExactStretchRow.domain false) (Rows.fnExactStretchSpec.post enc Try.prog Try.f6 false true false false) := by
  refine returnsInHanded_of_change_sized (C := Try.checked) own started (by kernel_rfl) Try.func6
    (ChangeSpec.witness6 (enc := enc) (C := Try.checked) false ⟨#[], #[.slice none 0 0, .slice none 0 0, .int .i64 0, .int .i64 0], []⟩ 8 (by kernel_rfl) (by kernel_rfl) (by kernel_rfl) (by kernel_rfl)) ?_
  intro W base args ds gs before hval0 hW hcnd _ _
  have hval : ∀ (j : Nat) t v, Try.f6.params[j]? = some t → args[j]? = some v → Value.okWide Try.prog W .any base t v := hval0
  have hW' := hW
  obtain ⟨p, q, hA0, hV, rfl, hfz, hnd⟩ := hW
  have hA : DataW.TrodAll enc Try.prog W 0 (fun _ => true) true Try.f6.params.toList args.toList ds p := hA0
  rw [Try.params6] at hA hval
  obtain ⟨v0, vs0, d0, ds0, p0, q0, hargs0, rfl, rfl, h0, r0⟩ := trodAll_cons hA
  obtain ⟨v1, vs1, d1, ds1, p1, q1, hargs1, rfl, rfl, h1, r1⟩ := trodAll_cons r0
  obtain ⟨v2, vs2, d2, ds2, p2, q2, hargs2, rfl, rfl, h2, r2⟩ := trodAll_cons r1
  obtain ⟨v3, vs3, d3, ds3, p3, q3, hargs3, rfl, rfl, h3, r3⟩ := trodAll_cons r2
  obtain ⟨rfl, rfl, rfl⟩ := trodAll_nil r3
  obtain rfl : args = #[v0, v1, v2, v3] := by cases args; simp_all
  obtain ⟨rfl, rfl⟩ := trodVars_none hV
  have lt0 : ∀ x ∈ p0, x.block < W.heap.size := by obtain ⟨m, hm⟩ := h0; exact DataW.trod_lt m _ _ _ hm
  have lt1 : ∀ x ∈ p1, x.block < W.heap.size := by obtain ⟨m, hm⟩ := h1; exact DataW.trod_lt m _ _ _ hm
  have lt2 : ∀ x ∈ p2, x.block < W.heap.size := by obtain ⟨m, hm⟩ := h2; exact DataW.trod_lt m _ _ _ hm
  have lt3 : ∀ x ∈ p3, x.block < W.heap.size := by obtain ⟨m, hm⟩ := h3; exact DataW.trod_lt m _ _ _ hm
  have e0 : v0.cells.toList = [v0] := okw_one (by kernel_rfl) (hval 0 22 v0 rfl rfl)
  obtain ⟨y0, z0⟩ : ∃ y, ((Kd.slice 5 Kd.u8)).rd W W.heap.size [v0] y := by obtain ⟨m, hm⟩ := h0; rw [e0] at hm; exact (opens_slice Try.underlying22 (opens_u8 Try.underlying5) (by kernel_rfl) (by decide)) enc W m _ _ hm
  have e1 : v1.cells.toList = [v1] := okw_one (by kernel_rfl) (hval 1 22 v1 rfl rfl)
  obtain ⟨y1, z1⟩ : ∃ y, ((Kd.slice 5 Kd.u8)).rd W W.heap.size [v1] y := by obtain ⟨m, hm⟩ := h1; rw [e1] at hm; exact (opens_slice Try.underlying22 (opens_u8 Try.underlying5) (by kernel_rfl) (by decide)) enc W m _ _ hm
  have e2 : v2.cells.toList = [v2] := okw_one (by kernel_rfl) (hval 2 3 v2 rfl rfl)
  obtain ⟨y2, z2⟩ : ∃ y, (Kd.i64).rd W W.heap.size [v2] y := by obtain ⟨m, hm⟩ := h2; rw [e2] at hm; exact (opens_i64 Try.underlying3) enc W m _ _ hm
  have e3 : v3.cells.toList = [v3] := okw_one (by kernel_rfl) (hval 3 3 v3 rfl rfl)
  obtain ⟨y3, z3⟩ : ∃ y, (Kd.i64).rd W W.heap.size [v3] y := by obtain ⟨m, hm⟩ := h3; rw [e3] at hm; exact (opens_i64 Try.underlying3) enc W m _ _ hm
  refine Calls.mono (FnExactStretch_ok W _ _ z0 _ _ z1 _ _ z2 _ _ z3) fun e W' ⟨v, he, hr, bel⟩ => ?_
  subst he
  subst hr
  exact ⟨_, rfl, _, _, _, [], _, [], hW', trodAll_mk1 (shut_bool Try.underlying4 _), (trodAll_cons_mk (Below.trod laidOut (by kernel_rfl) (of_decide_eq_true (by kernel_rfl)) h0 bel lt0) (trodAll_cons_mk (Below.trod laidOut (by kernel_rfl) (of_decide_eq_true (by kernel_rfl)) h1 bel lt1) (trodAll_cons_mk (Below.trod laidOut (by kernel_rfl) (of_decide_eq_true (by kernel_rfl)) h2 bel lt2) (trodAll_cons_mk (Below.trod laidOut (by kernel_rfl) (of_decide_eq_true (by kernel_rfl)) h3 bel lt3) trodAll_mk0)))), rfl, bel.frame _, fun h => by cases h⟩
theorem over : Rows.fnExactStretchRow.holds Try.pinned (OpenSpec.ofChange Rows.fnExactStretchSpec) :=
  OpenClaim.holds_of_wide 6 Try.f6 rfl rfl rfl rfl rfl rfl rfl ⟨rfl, rfl, rfl, rfl, rfl⟩ rfl rfl rfl rfl rfl (by kernel_rfl) Try.func6 (by kernel_rfl)
    (of_decide_eq_true (by kernel_rfl)) (by unfold Func.isWrapper; first | (rw [if_pos (by decide +kernel)]; kernel_rfl) | (rw [if_neg (by decide +kernel)]; exact ⟨rfl, rfl⟩))
    (fun os started H enc _ => lifted os started H enc)
theorem proved : Rows.FnExactStretchSaid := over
end Go.Proofs.Ytagljofpmjaciaa.fnExactStretch
namespace Go.Proofs.Ytagljofpmjaciaa
/-- The row, under a short name, for the claim. -/
theorem fnExactStretch_holds : Rows.FnExactStretchSaid := fnExactStretch.proved
end Go.Proofs.Ytagljofpmjaciaa
