/- Types of the program as data, and the laws helpers on them, walked. Laid by a program. -/
import Derived.Test.YtcmckbgiiclomaaGreatDoorWa
import Derived.Test.YtcmckbgiiclomaaGreatDoorVo
namespace Go.Proofs.YtcmckbgiiclomaaGreatDoor.V
open Go Go.RowKit
set_option maxRecDepth 100000
set_option maxHeartbeats 4000000
set_option linter.unusedSimpArgs false
set_option linter.unusedVariables false
set_option pp.deepTerms false
set_option pp.deepTerms.threshold 3

/-! ### Token -/
structure MToken where
  f_Route : (List UInt8)
  f_Until : Int
def kToken : Kd MToken := (Kd.pair Kd.str Kd.i64).iso (fun c : MToken => (c.f_Route, c.f_Until))
theorem kToken_sz : kToken.sz = 2 := rfl
theorem opens_25 : Opens Tryz.prog 25 kToken := opens_iso (fun p => ⟨p.1, p.2⟩) (opens_struct Tryz.underlying25 (ofs_cons (opens_str Tryz.underlying9) rfl (by kernel_rfl) (ofs_one (opens_i64 Tryz.underlying3) rfl (by kernel_rfl))) (by kernel_rfl)) (fun _ => rfl)
theorem kToken_open {w : World} {n : Nat} {cs : List Value} {x : MToken} (h : kToken.rd w n cs x) : ∃ _ : Unit, cs = [.string ⟨(x.f_Route).toArray⟩, .int .i64 x.f_Until] ∧ ((x.f_Route).length ≤ 9223372036854775807) ∧ (-9223372036854775808 ≤ x.f_Until ∧ x.f_Until < 9223372036854775808) := by
  obtain ⟨a0, b0, rfl, h0, h1⟩ := h
  obtain ⟨rfl, h0⟩ := h0
  obtain ⟨rfl, h1⟩ := h1
  exact ⟨(), rfl, h0, h1⟩
def zToken : MToken := ⟨[], 0⟩
theorem kToken_zero (w : World) : kToken.ow w [] [.string ⟨#[]⟩, .int .i64 0] zToken := (pair_zero (plain_zero pl_str w (by decide)) (plain_zero pl_i64 w (by decide)))
def smToken (x : MToken) : Prop := ((x.f_Route).length ≤ 1048576)
end Go.Proofs.YtcmckbgiiclomaaGreatDoor.V
