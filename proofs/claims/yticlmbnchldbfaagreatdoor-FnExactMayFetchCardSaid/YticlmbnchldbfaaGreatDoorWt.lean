/- Types of the program as data, and the laws helpers on them, walked. Laid by a program. -/
import Derived.Test.YticlmbnchldbfaaGreatDoorWa
import Derived.Test.YticlmbnchldbfaaGreatDoorVo
namespace Go.Proofs.YticlmbnchldbfaaGreatDoor.V
open Go Go.RowKit
set_option maxRecDepth 100000
set_option maxHeartbeats 4000000
set_option linter.unusedSimpArgs false
set_option linter.unusedVariables false
set_option pp.deepTerms false
set_option pp.deepTerms.threshold 3

/-! ### Token -/
structure MToken where
  f_Route : (List UInt8)
  f_Until : Int
def kToken : Kd MToken := (Kd.pair Kd.str Kd.i64).iso (fun c : MToken => (c.f_Route, c.f_Until))
theorem kToken_sz : kToken.sz = 2 := rfl
theorem opens_25 : Opens Tryz.prog 25 kToken := opens_iso (fun p => ⟨p.1, p.2⟩) (opens_struct Tryz.underlying25 (ofs_cons (opens_str Tryz.underlying9) rfl (by kernel_rfl) (ofs_one (opens_i64 Tryz.underlying3) rfl (by kernel_rfl))) (by kernel_rfl)) (fun _ => rfl)
theorem kToken_open {w : World} {n : Nat} {cs : List Value} {x : MToken} (h : kToken.rd w n cs x) : ∃ _ : Unit, cs = [.string ⟨(x.f_Route).toArray⟩, .int .i64 x.f_Until] ∧ ((x.f_Route).length ≤ 9223372036854775807) ∧ (-9223372036854775808 ≤ x.f_Until ∧ x.f_Until < 9223372036854775808) := by
  obtain ⟨a0, b0, rfl, h0, h1⟩ := h
  obtain ⟨rfl, h0⟩ := h0
  obtain ⟨rfl, h1⟩ := h1
  exact ⟨(), rfl, h0, h1⟩
def zToken : MToken := ⟨[], 0⟩
theorem kToken_zero (w : World) : kToken.ow w [] [.string ⟨#[]⟩, .int .i64 0] zToken := (pair_zero (plain_zero pl_str w (by decide)) (plain_zero pl_i64 w (by decide)))
def smToken (x : MToken) : Prop := ((x.f_Route).length ≤ 1048576)
theorem eqToken_ok (w : World) (cs ds : List Value) (x : MToken) (h : kToken.rd w w.heap.size cs x) (h' : kToken.rd w w.heap.size ds x) :
    ACalls Tryz.prog 22 #[.agg cs.toArray, .agg ds.toArray] w fun r w' => r = .bool true ∧ Below w.heap.size w w' := by
  obtain ⟨_, rfl, h0, h1⟩ := kToken_open h
  obtain ⟨_, rfl, k0, k1⟩ := kToken_open h'
  have H := Sep.start w
  refine body_of follows Tryz.func22 rfl rfl _ rfl (by kernel_rfl) (vs ?_)
  refine x_bx H [.string ⟨(x.f_Route).toArray⟩, .int .i64 x.f_Until] fun g1 w1 H => vs ?_
  refine x_bx H [.string ⟨(x.f_Route).toArray⟩, .int .i64 x.f_Until] fun g2 w2 H => vs ?_
  refine x_ld H sc9 ?_
  refine vs ?_
  refine x_ld H sc9 ?_
  refine vs ?_
  refine x_ld H sc3 ?_
  refine vs ?_
  refine x_ld H sc3 ?_
  refine vs ?_
  exact H.bel

/-! ### Item -/
structure MItem where
  f_Route : (List UInt8)
  f_Topic : Int
  f_Due : Int
  f_Bytes : (List UInt8)
def kItem : Kd MItem := (Kd.pair Kd.str (Kd.pair Kd.i64 (Kd.pair Kd.i64 (Kd.slice 5 Kd.u8)))).iso (fun c : MItem => (c.f_Route, c.f_Topic, c.f_Due, c.f_Bytes))
theorem kItem_sz : kItem.sz = 4 := rfl
theorem opens_46 : Opens Tryz.prog 46 kItem := opens_iso (fun p => ⟨p.1, p.2.1, p.2.2.1, p.2.2.2⟩) (opens_struct Tryz.underlying46 (ofs_cons (opens_str Tryz.underlying9) rfl (by kernel_rfl) (ofs_cons (opens_i64 Tryz.underlying3) rfl (by kernel_rfl) (ofs_cons (opens_i64 Tryz.underlying3) rfl (by kernel_rfl) (ofs_one (opens_slice Tryz.underlying22 (opens_u8 Tryz.underlying5) (by kernel_rfl) (by decide)) rfl (by kernel_rfl))))) (by kernel_rfl)) (fun _ => rfl)
theorem kItem_open {w : World} {n : Nat} {cs : List Value} {x : MItem} (h : kItem.rd w n cs x) : ∃ v3, cs = [.string ⟨(x.f_Route).toArray⟩, .int .i64 x.f_Topic, .int .i64 x.f_Due, v3] ∧ ((x.f_Route).length ≤ 9223372036854775807) ∧ (-9223372036854775808 ≤ x.f_Topic ∧ x.f_Topic < 9223372036854775808) ∧ (-9223372036854775808 ≤ x.f_Due ∧ x.f_Due < 9223372036854775808) ∧ ((Kd.slice 5 Kd.u8).rd w n [v3] x.f_Bytes) := by
  obtain ⟨a0, b0, rfl, h0, h⟩ := h
  obtain ⟨a1, b1, rfl, h1, h⟩ := h
  obtain ⟨a2, b2, rfl, h2, h3⟩ := h
  obtain ⟨rfl, h0⟩ := h0
  obtain ⟨rfl, h1⟩ := h1
  obtain ⟨rfl, h2⟩ := h2
  obtain ⟨v3, rfl⟩ := sl_one h3
  exact ⟨v3, rfl, h0, h1, h2, h3⟩
def zItem : MItem := ⟨[], 0, 0, []⟩
theorem kItem_zero (w : World) : kItem.ow w [] [.string ⟨#[]⟩, .int .i64 0, .int .i64 0, .slice none 0 0] zItem := (pair_zero (plain_zero pl_str w (by decide)) (pair_zero (plain_zero pl_i64 w (by decide)) (pair_zero (plain_zero pl_i64 w (by decide)) (sl_zero w))))
def smItem (x : MItem) : Prop := ((x.f_Route).length ≤ 1048576) ∧ ((x.f_Bytes).length ≤ 1048576)
end Go.Proofs.YticlmbnchldbfaaGreatDoor.V
