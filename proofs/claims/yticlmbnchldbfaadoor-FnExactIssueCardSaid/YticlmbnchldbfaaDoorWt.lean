/- Types of the program as data, and the laws helpers on them, walked. Laid by a program. -/
import Derived.Test.YticlmbnchldbfaaDoorWa
import Derived.Test.YticlmbnchldbfaaDoorVo
namespace Go.Proofs.YticlmbnchldbfaaDoor.V
open Go Go.RowKit
set_option maxRecDepth 100000
set_option maxHeartbeats 4000000
set_option linter.unusedSimpArgs false
set_option linter.unusedVariables false
set_option pp.deepTerms false
set_option pp.deepTerms.threshold 3

/-! ### Token -/
structure MToken where
  f_Route : (List UInt8)
  f_Until : Int
def kToken : Kd MToken := (Kd.pair Kd.str Kd.i64).iso (fun c : MToken => (c.f_Route, c.f_Until))
theorem kToken_sz : kToken.sz = 2 := rfl
theorem opens_51 : Opens Tryd.prog 51 kToken := opens_iso (fun p => ⟨p.1, p.2⟩) (opens_struct Tryd.underlying51 (ofs_cons (opens_str Tryd.underlying9) rfl (by kernel_rfl) (ofs_one (opens_i64 Tryd.underlying3) rfl (by kernel_rfl))) (by kernel_rfl)) (fun _ => rfl)
theorem opens_47 : Opens Tryd.prog 47 kToken := opens_iso (fun p => ⟨p.1, p.2⟩) (opens_struct Tryd.underlying47 (ofs_cons (opens_str Tryd.underlying9) rfl (by kernel_rfl) (ofs_one (opens_i64 Tryd.underlying3) rfl (by kernel_rfl))) (by kernel_rfl)) (fun _ => rfl)
theorem kToken_open {w : World} {n : Nat} {cs : List Value} {x : MToken} (h : kToken.rd w n cs x) : ∃ _ : Unit, cs = [.string ⟨(x.f_Route).toArray⟩, .int .i64 x.f_Until] ∧ ((x.f_Route).length ≤ 9223372036854775807) ∧ (-9223372036854775808 ≤ x.f_Until ∧ x.f_Until < 9223372036854775808) := by
  obtain ⟨a0, b0, rfl, h0, h1⟩ := h
  obtain ⟨rfl, h0⟩ := h0
  obtain ⟨rfl, h1⟩ := h1
  exact ⟨(), rfl, h0, h1⟩
def zToken : MToken := ⟨[], 0⟩
theorem kToken_zero (w : World) : kToken.ow w [] [.string ⟨#[]⟩, .int .i64 0] zToken := (pair_zero (plain_zero pl_str w (by decide)) (plain_zero pl_i64 w (by decide)))
def smToken (x : MToken) : Prop := ((x.f_Route).length ≤ 1048576)
theorem toToken_ok (w : World) (cs : List Value) (x : MToken) (h : kToken.rd w w.heap.size cs x) (hs : smToken x) :
    ACalls Tryd.prog 13 #[.agg cs.toArray] w fun r w' => ∃ cs' fp, r = .agg cs'.toArray ∧ Sep w.heap.size w w' [Ck.own kToken fp cs' x] := by
  unfold smToken at hs
  obtain ⟨_, rfl, h0, h1⟩ := kToken_open h
  have H := Sep.start w
  refine body_of follows Tryd.func13 rfl rfl _ rfl (by kernel_rfl) (vs ?_)
  refine x_bx H [.string ⟨(x.f_Route).toArray⟩, .int .i64 x.f_Until] fun g1 w1 H => vs ?_
  refine x_al H st51 fun g2 w2 H => vs ?_
  refine x_al H st51 fun g3 w3 H => vs ?_
  refine x_ld H sc9 ?_
  refine vs ?_
  refine x_st H sc9 fun w4 H => vs ?_
  refine x_ld H sc3 ?_
  refine vs ?_
  refine x_st H sc3 fun w5 H => vs ?_
  have H := H.plain pl_i64 (x := x.f_Until) h1
  have H := H.plain pl_str (x := x.f_Route) h0
  have H := H.pair
  have H := Sep.iso (y := x) (f := fun c : MToken => (c.f_Route, c.f_Until)) H
  refine x_lda H st51 ?_
  refine vs ?_
  refine x_sta H st51 (h1 := Kd.one _ (H.own (.head _))) fun w6 H => vs ?_
  exact ⟨_, _, rfl, res_cell H st51, _, _, rfl, H.head⟩
theorem szToken_ok (w : World) (cs : List Value) (x : MToken) (left : Int) (h : kToken.rd w w.heap.size cs x) (hl0 : 0 ≤ left) (hl1 : left ≤ 1048576) :
    ACalls Tryd.prog 10 #[.agg cs.toArray, .int .i64 left] w fun r w' => ∃ z : Int, r = .int .i64 z ∧ Below w.heap.size w w' ∧ -1 ≤ z ∧ z ≤ left ∧ (0 ≤ z → smToken x) := by
  obtain ⟨_, rfl, h0, h1⟩ := kToken_open h
  have H := Sep.start w
  refine body_of follows Tryd.func10 rfl rfl _ rfl (by kernel_rfl) (vs ?_)
  refine x_bx H [.string ⟨(x.f_Route).toArray⟩, .int .i64 x.f_Until] fun g1 w1 H => vs ?_
  refine x_ld H sc9 ?_
  refine vs ?_
  have q0 : w64 (left - (x.f_Route.length : Int)) = left - x.f_Route.length := w64_id (by omega) (by omega)
  generalize hz0 : left - (x.f_Route.length : Int) = z0 at q0
  refine ve q0 ?_
  have s0 : 0 ≤ z0 → x.f_Route.length ≤ 1048576 := by omega
  refine ways ?_ ?_
  · refine vh fun hneg => ?_
    exact ⟨-1, rfl, H.bel, by omega, by omega, by omega⟩
  refine vh fun hge0 => ?_
  exact ⟨z0, i64_eq q0, H.bel, by omega, by omega, fun _ => s0 (by omega)⟩

/-! ### Item -/
structure MItem where
  f_Route : (List UInt8)
  f_Topic : Int
  f_Due : Int
  f_Bytes : (List UInt8)
def kItem : Kd MItem := (Kd.pair Kd.str (Kd.pair Kd.i64 (Kd.pair Kd.i64 (Kd.slice 5 Kd.u8)))).iso (fun c : MItem => (c.f_Route, c.f_Topic, c.f_Due, c.f_Bytes))
theorem kItem_sz : kItem.sz = 4 := rfl
theorem opens_63 : Opens Tryd.prog 63 kItem := opens_iso (fun p => ⟨p.1, p.2.1, p.2.2.1, p.2.2.2⟩) (opens_struct Tryd.underlying63 (ofs_cons (opens_str Tryd.underlying9) rfl (by kernel_rfl) (ofs_cons (opens_i64 Tryd.underlying3) rfl (by kernel_rfl) (ofs_cons (opens_i64 Tryd.underlying3) rfl (by kernel_rfl) (ofs_one (opens_slice Tryd.underlying22 (opens_u8 Tryd.underlying5) (by kernel_rfl) (by decide)) rfl (by kernel_rfl))))) (by kernel_rfl)) (fun _ => rfl)
theorem opens_78 : Opens Tryd.prog 78 kItem := opens_iso (fun p => ⟨p.1, p.2.1, p.2.2.1, p.2.2.2⟩) (opens_struct Tryd.underlying78 (ofs_cons (opens_str Tryd.underlying9) rfl (by kernel_rfl) (ofs_cons (opens_i64 Tryd.underlying3) rfl (by kernel_rfl) (ofs_cons (opens_i64 Tryd.underlying3) rfl (by kernel_rfl) (ofs_one (opens_slice Tryd.underlying22 (opens_u8 Tryd.underlying5) (by kernel_rfl) (by decide)) rfl (by kernel_rfl))))) (by kernel_rfl)) (fun _ => rfl)
theorem kItem_open {w : World} {n : Nat} {cs : List Value} {x : MItem} (h : kItem.rd w n cs x) : ∃ v3, cs = [.string ⟨(x.f_Route).toArray⟩, .int .i64 x.f_Topic, .int .i64 x.f_Due, v3] ∧ ((x.f_Route).length ≤ 9223372036854775807) ∧ (-9223372036854775808 ≤ x.f_Topic ∧ x.f_Topic < 9223372036854775808) ∧ (-9223372036854775808 ≤ x.f_Due ∧ x.f_Due < 9223372036854775808) ∧ ((Kd.slice 5 Kd.u8).rd w n [v3] x.f_Bytes) := by
  obtain ⟨a0, b0, rfl, h0, h⟩ := h
  obtain ⟨a1, b1, rfl, h1, h⟩ := h
  obtain ⟨a2, b2, rfl, h2, h3⟩ := h
  obtain ⟨rfl, h0⟩ := h0
  obtain ⟨rfl, h1⟩ := h1
  obtain ⟨rfl, h2⟩ := h2
  obtain ⟨v3, rfl⟩ := sl_one h3
  exact ⟨v3, rfl, h0, h1, h2, h3⟩
def zItem : MItem := ⟨[], 0, 0, []⟩
theorem kItem_zero (w : World) : kItem.ow w [] [.string ⟨#[]⟩, .int .i64 0, .int .i64 0, .slice none 0 0] zItem := (pair_zero (plain_zero pl_str w (by decide)) (pair_zero (plain_zero pl_i64 w (by decide)) (pair_zero (plain_zero pl_i64 w (by decide)) (sl_zero w))))
def smItem (x : MItem) : Prop := ((x.f_Route).length ≤ 1048576) ∧ ((x.f_Bytes).length ≤ 1048576)
theorem toItem_ok (w : World) (cs : List Value) (x : MItem) (h : kItem.rd w w.heap.size cs x) (hs : smItem x) :
    ACalls Tryd.prog 62 #[.agg cs.toArray] w fun r w' => ∃ cs' fp, r = .agg cs'.toArray ∧ Sep w.heap.size w w' [Ck.own kItem fp cs' x] := by
  unfold smItem at hs
  obtain ⟨v3, rfl, h0, h1, h2, h3⟩ := kItem_open h
  have H := Sep.start w
  refine body_of follows Tryd.func62 rfl rfl _ rfl (by kernel_rfl) (vs ?_)
  refine x_bx H [.string ⟨(x.f_Route).toArray⟩, .int .i64 x.f_Topic, .int .i64 x.f_Due, v3] fun g1 w1 H => vs ?_
  refine x_al H st63 fun g2 w2 H => vs ?_
  refine x_al H st63 fun g3 w3 H => vs ?_
  refine x_ld H sc9 ?_
  refine vs ?_
  refine x_st H sc9 fun w4 H => vs ?_
  refine x_ld H sc3 ?_
  refine vs ?_
  refine x_st H sc3 fun w5 H => vs ?_
  refine x_ld H sc3 ?_
  refine vs ?_
  refine x_st H sc3 fun w6 H => vs ?_
  refine x_ld H sc22 ?_
  refine vs ?_
  refine x_callf H (toByteS_ok w6 _ _ (H.rd h3) (by have := hs.2; omega)) fun r3 fp3 w7 H => vs ?_
  refine x_st H sc22 (h1 := Kd.one _ (H.own (.head _)) _ (by simp)) fun w8 H => vs ?_
  have H := H.front (c := Ck.own (Kd.slice 5 Kd.u8) fp3 [r3] x.f_Bytes)
  have H := H.plain pl_i64 (x := x.f_Due) h2
  have H := H.pair
  have H := H.plain pl_i64 (x := x.f_Topic) h1
  have H := H.pair
  have H := H.plain pl_str (x := x.f_Route) h0
  have H := H.pair
  have H := Sep.iso (y := x) (f := fun c : MItem => (c.f_Route, c.f_Topic, c.f_Due, c.f_Bytes)) H
  refine x_lda H st63 ?_
  refine vs ?_
  refine x_sta H st63 (h1 := Kd.one _ (H.own (.head _))) fun w9 H => vs ?_
  exact ⟨_, _, rfl, res_cell H st63, _, _, rfl, H.head⟩
theorem eqItem_ok (w : World) (cs ds : List Value) (x : MItem) (h : kItem.rd w w.heap.size cs x) (h' : kItem.rd w w.heap.size ds x) :
    ACalls Tryd.prog 64 #[.agg cs.toArray, .agg ds.toArray] w fun r w' => r = .bool true ∧ Below w.heap.size w w' := by
  obtain ⟨v3, rfl, h0, h1, h2, h3⟩ := kItem_open h
  obtain ⟨u3, rfl, k0, k1, k2, k3⟩ := kItem_open h'
  have H := Sep.start w
  refine body_of follows Tryd.func64 rfl rfl _ rfl (by kernel_rfl) (vs ?_)
  refine x_bx H [.string ⟨(x.f_Route).toArray⟩, .int .i64 x.f_Topic, .int .i64 x.f_Due, v3] fun g1 w1 H => vs ?_
  refine x_bx H [.string ⟨(x.f_Route).toArray⟩, .int .i64 x.f_Topic, .int .i64 x.f_Due, u3] fun g2 w2 H => vs ?_
  refine x_ld H sc9 ?_
  refine vs ?_
  refine x_ld H sc9 ?_
  refine vs ?_
  refine x_ld H sc3 ?_
  refine vs ?_
  refine x_ld H sc3 ?_
  refine vs ?_
  refine x_ld H sc3 ?_
  refine vs ?_
  refine x_ld H sc3 ?_
  refine vs ?_
  refine x_ld H sc22 ?_
  refine vs ?_
  refine x_ld H sc22 ?_
  refine vs ?_
  refine x_callb H (eqByteS_ok w2 _ _ _ _ (H.rd h3) (H.rd k3)) fun w3 H => vs ?_
  exact H.bel
theorem szItem_ok (w : World) (cs : List Value) (x : MItem) (left : Int) (h : kItem.rd w w.heap.size cs x) (hl0 : 0 ≤ left) (hl1 : left ≤ 1048576) :
    ACalls Tryd.prog 61 #[.agg cs.toArray, .int .i64 left] w fun r w' => ∃ z : Int, r = .int .i64 z ∧ Below w.heap.size w w' ∧ -1 ≤ z ∧ z ≤ left ∧ (0 ≤ z → smItem x) := by
  obtain ⟨v3, rfl, h0, h1, h2, h3⟩ := kItem_open h
  have H := Sep.start w
  refine body_of follows Tryd.func61 rfl rfl _ rfl (by kernel_rfl) (vs ?_)
  refine x_bx H [.string ⟨(x.f_Route).toArray⟩, .int .i64 x.f_Topic, .int .i64 x.f_Due, v3] fun g1 w1 H => vs ?_
  refine x_ld H sc9 ?_
  refine vs ?_
  have q0 : w64 (left - (x.f_Route.length : Int)) = left - x.f_Route.length := w64_id (by omega) (by omega)
  generalize hz0 : left - (x.f_Route.length : Int) = z0 at q0
  refine ve q0 ?_
  have s0 : 0 ≤ z0 → x.f_Route.length ≤ 1048576 := by omega
  refine ways ?_ ?_
  · refine vh fun hneg => ?_
    exact ⟨-1, rfl, H.bel, by omega, by omega, by omega⟩
  refine vh fun hge0 => ?_
  refine x_ld H sc22 ?_
  refine vs ?_
  refine x_call (szByteS_ok w1 _ _ _ (H.rd h3) (by omega) (by omega)) fun _ w2 ⟨z1, e1, hb1, a1, b1, s1⟩ => ?_
  subst e1
  have H := H.go hb1
  refine vs (ways ?_ ?_)
  · refine vh fun hneg => ?_
    exact ⟨-1, rfl, H.bel, by omega, by omega, by omega⟩
  refine vh fun hge1 => ?_
  exact ⟨z1, rfl, H.bel, by omega, by omega, fun _ => ⟨s0 (by omega), s1 (by omega)⟩⟩
end Go.Proofs.YticlmbnchldbfaaDoor.V
