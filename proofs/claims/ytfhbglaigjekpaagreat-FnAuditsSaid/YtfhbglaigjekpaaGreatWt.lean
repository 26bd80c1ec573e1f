/- Types of the program as data, and the laws helpers on them, walked. Laid by a program. -/
import Derived.Test.YtfhbglaigjekpaaGreatWa
import Derived.Test.YtfhbglaigjekpaaGreatVo
namespace Go.Proofs.YtfhbglaigjekpaaGreat.V
open Go Go.RowKit
set_option maxRecDepth 100000
set_option maxHeartbeats 4000000
set_option linter.unusedSimpArgs false
set_option linter.unusedVariables false
set_option pp.deepTerms false
set_option pp.deepTerms.threshold 3

/-! ### lists of ByteS -/
def smByteSS (l : List (List UInt8)) : Prop := l.length ≤ 1048576 ∧ ∀ y ∈ l, (y).length ≤ 1048576
theorem toByteSS_ok (w : World) (v : Value) (l : List (List UInt8)) (h : (Kd.slice 22 (Kd.slice 5 Kd.u8)).rd w w.heap.size [v] l) (hs : smByteSS l) :
    ACalls Tryz.prog 132 #[v] w fun r w' => ∃ fp, Sep w.heap.size w w' [Ck.own (Kd.slice 22 (Kd.slice 5 Kd.u8)) fp [r] l] := by
  obtain ⟨A, c, rfl, hc1, hc2, ha⟩ := sl_open h
  have hlen := hs.1
  have H := Sep.start w
  refine body_of follows Tryz.func132 rfl rfl _ rfl (by kernel_rfl) (vs ?_)
  refine x_mkZ (d := (Kd.slice 5 Kd.u8)) H sl26 [.slice none 0 0] ([] : (List UInt8)) rfl (fun w => sl_zero w) (by omega) (by omega) fun g w1 H => vs ?_
  refine loop_at (σ := Nat × List Nat) (fun x => [(0, .slice A l.length c), (3, .slice (some ⟨g, 0, none⟩) l.length l.length), (4, .int .i64 (x.1 : Int))])
    (fun x w' => x.1 ≤ l.length ∧ Sep w.heap.size w w' [Ck.own (Kd.slice 22 (Kd.slice 5 Kd.u8)) x.2 [.slice (some ⟨g, 0, none⟩) l.length l.length] (l.take x.1 ++ List.replicate (l.length - x.1) [])]) (fun x => l.length - x.1) (0, _) (vs trivial) ⟨Nat.zero_le _, by rw [take_zero_repl]; exact H⟩ ?_
  rintro ⟨k, fp⟩ s w2 ⟨hk, H⟩
  dsimp only at hk H
  refine vs (ways ?_ ?_)
  · refine vh fun hlt => ?_
    have hk2 : k < l.length := by omega
    refine x_elg sl26 rfl (ha.mono H.bel) (by omega) hlt fun ad es hb hr hc => vs ?_
    obtain ⟨u, rfl⟩ := sl_one hr
    refine x_ld1 sc22 hc rfl (vs ?_)
    refine x_callf H (toByteS_ok w2 _ _ (Kd.le _ hr H.ns) (by have := hs.2 (l[(k : Int).toNat]'(by omega)) (List.getElem_mem _); omega)) fun r2 fp2 w3 H => vs ?_
    refine x_index sl26 rfl (by omega) hlt (vs ?_)
    refine x_stS1 sc22 H rfl hk2 (Kd.one _ (H.own (.head _)) _ (by simp)) fun fp3 w4 H => vs ?_
    have H : Sep w.heap.size w w4 [Ck.own (Kd.slice 22 (Kd.slice 5 Kd.u8)) fp3 [.slice (some ⟨g, 0, none⟩) l.length l.length] (l.take (k + 1) ++ List.replicate (l.length - (k + 1)) [])] := by rw [← take_set l [] k hk2]; exact H
    exact ⟨(k + 1, fp3), i64_eq (by show w64 ((k : Int) + 1) = ((k + 1 : Nat) : Int); unfold w64; omega), ⟨hk2, H⟩, by show l.length - (k + 1) < l.length - k; omega⟩
  · refine vh fun hlt => ?_
    rw [take_all_repl l [] (by omega)] at H
    exact ⟨_, H⟩
theorem eqByteSS_ok (w : World) (v v' : Value) (l : List (List UInt8)) (h : (Kd.slice 22 (Kd.slice 5 Kd.u8)).rd w w.heap.size [v] l) (h' : (Kd.slice 22 (Kd.slice 5 Kd.u8)).rd w w.heap.size [v'] l) :
    ACalls Tryz.prog 147 #[v, v'] w fun r w' => r = .bool true ∧ Below w.heap.size w w' := by
  obtain ⟨A, c, rfl, hc1, hc2, ha⟩ := sl_open h
  obtain ⟨A', c', rfl, hc1', hc2', ha'⟩ := sl_open h'
  have hlm : l.length ≤ 9223372036854775807 := sl_len h
  refine body_of follows Tryz.func147 rfl rfl _ rfl (by kernel_rfl) (vs ?_)
  refine loop_at (σ := Nat) (fun k => [(0, .slice A l.length c), (1, .slice A' l.length c'), (5, .int .i64 (k : Int))])
    (fun k w' => k ≤ l.length ∧ Sep w.heap.size w w' []) (fun k => l.length - k) 0 (vs trivial) ⟨Nat.zero_le _, Sep.start w⟩ ?_
  rintro k s w2 ⟨hk, H⟩
  refine vs (ways ?_ ?_)
  · refine vh fun hlt => ?_
    have hk2 : k < l.length := by omega
    refine draw_of [(0, true), (1, true), (2, true), (3, true), (4, true), (5, true), (6, true), (7, true), (8, false), (9, true)] w2.heap.size [] fun w3 hh hb3 => vs ?_
    have H := H.go (hb3 _)
    refine q_elg sl26 rfl (ha.mono H.bel) (by omega) hlt fun ad es hb hr hc => vs ?_
    obtain ⟨u, rfl⟩ := sl_one hr
    have hlt1 : ad.block < w2.heap.size := by have := H.ns; rw [hh] at this; omega
    refine q_ld1 sc22 hc rfl hlt1 (vs ?_)
    refine q_elg sl26 rfl (ha'.mono H.bel) (by omega) hlt fun ad' es' hb' hr' hc' => vs ?_
    obtain ⟨u', rfl⟩ := sl_one hr'
    have hlt2 : ad'.block < w2.heap.size := by have := H.ns; rw [hh] at this; omega
    refine q_ld1 sc22 hc' rfl hlt2 (vs ?_)
    refine x_call (eqByteS_ok w3 _ _ _ _ (Kd.le _ hr H.ns) (Kd.le _ hr' H.ns)) fun _ w4 ⟨e4, hb4⟩ => ?_
    subst e4
    refine vs ?_
    have H4 := H.go hb4
    exact ⟨kept_of hb4 (Nat.le_of_eq (by rw [hh])), k + 1, i64_eq (by unfold w64; omega), ⟨hk2, H4⟩, by omega⟩
  · refine vh fun hlt => ?_
    exact H.bel
theorem szByteSS_ok (w : World) (v : Value) (l : List (List UInt8)) (left : Int) (h : (Kd.slice 22 (Kd.slice 5 Kd.u8)).rd w w.heap.size [v] l) (hl0 : 0 ≤ left) (hl1 : left ≤ 1048576) :
    ACalls Tryz.prog 124 #[v, .int .i64 left] w fun r w' => ∃ z : Int, r = .int .i64 z ∧ Below w.heap.size w w' ∧ -1 ≤ z ∧ z ≤ left ∧ (0 ≤ z → smByteSS l) := by
  have hlm : l.length ≤ 9223372036854775807 := sl_len h
  obtain ⟨A, c, rfl, hc1, hc2, ha⟩ := sl_open h
  refine body_of follows Tryz.func124 rfl rfl _ rfl (by kernel_rfl) (vs ?_)
  have q : w64 (left - (l.length : Int)) = left - l.length := w64_id (by omega) (by omega)
  refine ve q (ways ?_ ?_)
  · refine vh fun hneg => ?_
    exact ⟨-1, rfl, Below.refl .., by omega, by omega, by omega⟩
  refine vh fun hge => ?_
  have H := Sep.start w
  refine loop_at (σ := Nat × Int) (fun x => [(0, .slice A l.length c), (1, .int .i64 x.2), (5, .int .i64 (x.1 : Int))])
    (fun x w' => x.1 ≤ l.length ∧ 0 ≤ x.2 ∧ x.2 ≤ left ∧ (∀ i (hi : i < l.length), i < x.1 → (l[i]).length ≤ 1048576) ∧ Sep w.heap.size w w' []) (fun x => l.length - x.1) (0, left - l.length) (vs ?_) ⟨Nat.zero_le _, by show 0 ≤ left - (l.length : Int); omega, by show left - (l.length : Int) ≤ left; omega, fun i hi h => absurd h (Nat.not_lt_zero i), H⟩ ?_
  · exact i64_eq q
  rintro ⟨k, z⟩ s w2 ⟨hk, hz0, hz1, hall, H⟩
  dsimp only at hk hz0 hz1 hall H
  refine vs (ways ?_ ?_)
  · refine vh fun hlt => ?_
    have hk2 : k < l.length := by omega
    refine x_elg sl26 rfl (ha.mono H.bel) (by omega) hlt fun ad es hb hr hc => vs ?_
    obtain ⟨u, rfl⟩ := sl_one hr
    refine x_ld1 sc22 hc rfl (vs ?_)
    refine x_call (szByteS_ok w2 _ _ _ (Kd.le _ hr H.ns) (by omega) (by omega)) fun _ w3 ⟨z2, e2, hb2, a2, b2, s2⟩ => ?_
    subst e2
    have H := H.go hb2
    refine vs (ways ?_ ?_)
    · refine vh fun hneg => ?_
      exact ⟨-1, rfl, H.bel, by omega, by omega, by omega⟩
    · refine vh fun hge2 => ?_
      refine ⟨(k + 1, z2), ⟨rfl, i64_eq (by show w64 ((k : Int) + 1) = ((k + 1 : Nat) : Int); unfold w64; omega)⟩, ⟨hk2, by show 0 ≤ z2; omega, by show z2 ≤ left; omega, fun i hi h => ?_, H⟩, by show l.length - (k + 1) < l.length - k; omega⟩
      by_cases h2 : i = k
      · subst h2; exact s2 (by omega)
      · exact hall i hi (by show i < k; have : i < k + 1 := h; omega)
  · refine vh fun hlt => ?_
    exact ⟨z, rfl, H.bel, by omega, hz1, fun _ => ⟨by omega, fun y hy => by obtain ⟨i, hi, rfl⟩ := List.getElem_of_mem hy; exact hall i hi (by omega)⟩⟩

/-! ### Item -/
structure MItem where
  f_Route : (List UInt8)
  f_Topic : Int
  f_Due : Int
  f_Bytes : (List UInt8)
def kItem : Kd MItem := (Kd.pair Kd.str (Kd.pair Kd.i64 (Kd.pair Kd.i64 (Kd.slice 5 Kd.u8)))).iso (fun c : MItem => (c.f_Route, c.f_Topic, c.f_Due, c.f_Bytes))
theorem kItem_sz : kItem.sz = 4 := rfl
theorem opens_81 : Opens Tryz.prog 81 kItem := opens_iso (fun p => ⟨p.1, p.2.1, p.2.2.1, p.2.2.2⟩) (opens_struct Tryz.underlying81 (ofs_cons (opens_str Tryz.underlying9) rfl (by kernel_rfl) (ofs_cons (opens_i64 Tryz.underlying3) rfl (by kernel_rfl) (ofs_cons (opens_i64 Tryz.underlying3) rfl (by kernel_rfl) (ofs_one (opens_slice Tryz.underlying22 (opens_u8 Tryz.underlying5) (by kernel_rfl) (by decide)) rfl (by kernel_rfl))))) (by kernel_rfl)) (fun _ => rfl)
theorem opens_130 : Opens Tryz.prog 130 kItem := opens_iso (fun p => ⟨p.1, p.2.1, p.2.2.1, p.2.2.2⟩) (opens_struct Tryz.underlying130 (ofs_cons (opens_str Tryz.underlying9) rfl (by kernel_rfl) (ofs_cons (opens_i64 Tryz.underlying3) rfl (by kernel_rfl) (ofs_cons (opens_i64 Tryz.underlying3) rfl (by kernel_rfl) (ofs_one (opens_slice Tryz.underlying22 (opens_u8 Tryz.underlying5) (by kernel_rfl) (by decide)) rfl (by kernel_rfl))))) (by kernel_rfl)) (fun _ => rfl)
theorem kItem_open {w : World} {n : Nat} {cs : List Value} {x : MItem} (h : kItem.rd w n cs x) : ∃ v3, cs = [.string ⟨(x.f_Route).toArray⟩, .int .i64 x.f_Topic, .int .i64 x.f_Due, v3] ∧ ((x.f_Route).length ≤ 9223372036854775807) ∧ (-9223372036854775808 ≤ x.f_Topic ∧ x.f_Topic < 9223372036854775808) ∧ (-9223372036854775808 ≤ x.f_Due ∧ x.f_Due < 9223372036854775808) ∧ ((Kd.slice 5 Kd.u8).rd w n [v3] x.f_Bytes) := by
  obtain ⟨a0, b0, rfl, h0, h⟩ := h
  obtain ⟨a1, b1, rfl, h1, h⟩ := h
  obtain ⟨a2, b2, rfl, h2, h3⟩ := h
  obtain ⟨rfl, h0⟩ := h0
  obtain ⟨rfl, h1⟩ := h1
  obtain ⟨rfl, h2⟩ := h2
  obtain ⟨v3, rfl⟩ := sl_one h3
  exact ⟨v3, rfl, h0, h1, h2, h3⟩
def zItem : MItem := ⟨[], 0, 0, []⟩
theorem kItem_zero (w : World) : kItem.ow w [] [.string ⟨#[]⟩, .int .i64 0, .int .i64 0, .slice none 0 0] zItem := (pair_zero (plain_zero pl_str w (by decide)) (pair_zero (plain_zero pl_i64 w (by decide)) (pair_zero (plain_zero pl_i64 w (by decide)) (sl_zero w))))
def smItem (x : MItem) : Prop := ((x.f_Route).length ≤ 1048576) ∧ ((x.f_Bytes).length ≤ 1048576)
theorem toItem_ok (w : World) (cs : List Value) (x : MItem) (h : kItem.rd w w.heap.size cs x) (hs : smItem x) :
    ACalls Tryz.prog 197 #[.agg cs.toArray] w fun r w' => ∃ cs' fp, r = .agg cs'.toArray ∧ Sep w.heap.size w w' [Ck.own kItem fp cs' x] := by
  unfold smItem at hs
  obtain ⟨v3, rfl, h0, h1, h2, h3⟩ := kItem_open h
  have H := Sep.start w
  refine body_of follows Tryz.func197 rfl rfl _ rfl (by kernel_rfl) (vs ?_)
  refine x_bx H [.string ⟨(x.f_Route).toArray⟩, .int .i64 x.f_Topic, .int .i64 x.f_Due, v3] fun g1 w1 H => vs ?_
  refine x_al H st81 fun g2 w2 H => vs ?_
  refine x_al H st81 fun g3 w3 H => vs ?_
  refine x_ld H sc9 ?_
  refine vs ?_
  refine x_st H sc9 fun w4 H => vs ?_
  refine x_ld H sc3 ?_
  refine vs ?_
  refine x_st H sc3 fun w5 H => vs ?_
  refine x_ld H sc3 ?_
  refine vs ?_
  refine x_st H sc3 fun w6 H => vs ?_
  refine x_ld H sc22 ?_
  refine vs ?_
  refine x_callf H (toByteS_ok w6 _ _ (H.rd h3) (by have := hs.2; omega)) fun r3 fp3 w7 H => vs ?_
  refine x_st H sc22 (h1 := Kd.one _ (H.own (.head _)) _ (by simp)) fun w8 H => vs ?_
  have H := H.front (c := Ck.own (Kd.slice 5 Kd.u8) fp3 [r3] x.f_Bytes)
  have H := H.plain pl_i64 (x := x.f_Due) h2
  have H := H.pair
  have H := H.plain pl_i64 (x := x.f_Topic) h1
  have H := H.pair
  have H := H.plain pl_str (x := x.f_Route) h0
  have H := H.pair
  have H := Sep.iso (y := x) (f := fun c : MItem => (c.f_Route, c.f_Topic, c.f_Due, c.f_Bytes)) H
  refine x_lda H st81 ?_
  refine vs ?_
  refine x_sta H st81 (h1 := Kd.one _ (H.own (.head _))) fun w9 H => vs ?_
  exact ⟨_, _, rfl, res_cell H st81, _, _, rfl, H.head⟩
theorem eqItem_ok (w : World) (cs ds : List Value) (x : MItem) (h : kItem.rd w w.heap.size cs x) (h' : kItem.rd w w.heap.size ds x) :
    ACalls Tryz.prog 207 #[.agg cs.toArray, .agg ds.toArray] w fun r w' => r = .bool true ∧ Below w.heap.size w w' := by
  obtain ⟨v3, rfl, h0, h1, h2, h3⟩ := kItem_open h
  obtain ⟨u3, rfl, k0, k1, k2, k3⟩ := kItem_open h'
  have H := Sep.start w
  refine body_of follows Tryz.func207 rfl rfl _ rfl (by kernel_rfl) (vs ?_)
  refine x_bx H [.string ⟨(x.f_Route).toArray⟩, .int .i64 x.f_Topic, .int .i64 x.f_Due, v3] fun g1 w1 H => vs ?_
  refine x_bx H [.string ⟨(x.f_Route).toArray⟩, .int .i64 x.f_Topic, .int .i64 x.f_Due, u3] fun g2 w2 H => vs ?_
  refine x_ld H sc9 ?_
  refine vs ?_
  refine x_ld H sc9 ?_
  refine vs ?_
  refine x_ld H sc3 ?_
  refine vs ?_
  refine x_ld H sc3 ?_
  refine vs ?_
  refine x_ld H sc3 ?_
  refine vs ?_
  refine x_ld H sc3 ?_
  refine vs ?_
  refine x_ld H sc22 ?_
  refine vs ?_
  refine x_ld H sc22 ?_
  refine vs ?_
  refine x_callb H (eqByteS_ok w2 _ _ _ _ (H.rd h3) (H.rd k3)) fun w3 H => vs ?_
  exact H.bel
theorem szItem_ok (w : World) (cs : List Value) (x : MItem) (left : Int) (h : kItem.rd w w.heap.size cs x) (hl0 : 0 ≤ left) (hl1 : left ≤ 1048576) :
    ACalls Tryz.prog 194 #[.agg cs.toArray, .int .i64 left] w fun r w' => ∃ z : Int, r = .int .i64 z ∧ Below w.heap.size w w' ∧ -1 ≤ z ∧ z ≤ left ∧ (0 ≤ z → smItem x) := by
  obtain ⟨v3, rfl, h0, h1, h2, h3⟩ := kItem_open h
  have H := Sep.start w
  refine body_of follows Tryz.func194 rfl rfl _ rfl (by kernel_rfl) (vs ?_)
  refine x_bx H [.string ⟨(x.f_Route).toArray⟩, .int .i64 x.f_Topic, .int .i64 x.f_Due, v3] fun g1 w1 H => vs ?_
  refine x_ld H sc9 ?_
  refine vs ?_
  have q0 : w64 (left - (x.f_Route.length : Int)) = left - x.f_Route.length := w64_id (by omega) (by omega)
  generalize hz0 : left - (x.f_Route.length : Int) = z0 at q0
  refine ve q0 ?_
  have s0 : 0 ≤ z0 → x.f_Route.length ≤ 1048576 := by omega
  refine ways ?_ ?_
  · refine vh fun hneg => ?_
    exact ⟨-1, rfl, H.bel, by omega, by omega, by omega⟩
  refine vh fun hge0 => ?_
  refine x_ld H sc22 ?_
  refine vs ?_
  refine x_call (szByteS_ok w1 _ _ _ (H.rd h3) (by omega) (by omega)) fun _ w2 ⟨z1, e1, hb1, a1, b1, s1⟩ => ?_
  subst e1
  have H := H.go hb1
  refine vs (ways ?_ ?_)
  · refine vh fun hneg => ?_
    exact ⟨-1, rfl, H.bel, by omega, by omega, by omega⟩
  refine vh fun hge1 => ?_
  exact ⟨z1, rfl, H.bel, by omega, by omega, fun _ => ⟨s0 (by omega), s1 (by omega)⟩⟩

/-! ### lists of Item -/
def smItemS (l : List MItem) : Prop := l.length ≤ 1048576 ∧ ∀ y ∈ l, smItem y
theorem toItemS_ok (w : World) (v : Value) (l : List MItem) (h : (Kd.slice 81 kItem).rd w w.heap.size [v] l) (hs : smItemS l) :
    ACalls Tryz.prog 131 #[v] w fun r w' => ∃ fp, Sep w.heap.size w w' [Ck.own (Kd.slice 81 kItem) fp [r] l] := by
  obtain ⟨A, c, rfl, hc1, hc2, ha⟩ := sl_open h
  have hlen := hs.1
  have H := Sep.start w
  refine body_of follows Tryz.func131 rfl rfl _ rfl (by kernel_rfl) (vs ?_)
  refine x_mkZ (d := kItem) H sl35 [.string ⟨#[]⟩, .int .i64 0, .int .i64 0, .slice none 0 0] zItem rfl (fun w => kItem_zero w) (by omega) (by omega) fun g w1 H => vs ?_
  refine loop_at (σ := Nat × List Nat) (fun x => [(0, .slice A l.length c), (3, .slice (some ⟨g, 0, none⟩) l.length l.length), (4, .int .i64 (x.1 : Int))])
    (fun x w' => x.1 ≤ l.length ∧ Sep w.heap.size w w' [Ck.own (Kd.slice 81 kItem) x.2 [.slice (some ⟨g, 0, none⟩) l.length l.length] (l.take x.1 ++ List.replicate (l.length - x.1) zItem)]) (fun x => l.length - x.1) (0, _) (vs trivial) ⟨Nat.zero_le _, by rw [take_zero_repl]; exact H⟩ ?_
  rintro ⟨k, fp⟩ s w2 ⟨hk, H⟩
  dsimp only at hk H
  refine vs (ways ?_ ?_)
  · refine vh fun hlt => ?_
    have hk2 : k < l.length := by omega
    refine x_elg sl23 rfl (ha.mono H.bel) (by omega) hlt fun ad es hb hr hc => vs ?_
    refine x_lds st130 hc (Kd.len _ hr) (vs ?_)
    refine x_call (toItem_ok w2 _ _ (Kd.le _ hr H.ns) (hs.2 _ (List.getElem_mem _))) fun _ w3 ⟨c2, fp2, e2, S⟩ => ?_
    subst e2
    have H := H.join S
    simp only [List.cons_append, List.nil_append] at H
    refine vs ?_
    refine x_index sl35 rfl (by omega) hlt (vs ?_)
    refine x_stSs st81 H rfl hk2 (Kd.one _ (H.own (.head _))) fun fp3 w4 H => vs ?_
    have H : Sep w.heap.size w w4 [Ck.own (Kd.slice 81 kItem) fp3 [.slice (some ⟨g, 0, none⟩) l.length l.length] (l.take (k + 1) ++ List.replicate (l.length - (k + 1)) zItem)] := by rw [← take_set l zItem k hk2]; exact H
    exact ⟨(k + 1, fp3), i64_eq (by show w64 ((k : Int) + 1) = ((k + 1 : Nat) : Int); unfold w64; omega), ⟨hk2, H⟩, by show l.length - (k + 1) < l.length - k; omega⟩
  · refine vh fun hlt => ?_
    rw [take_all_repl l zItem (by omega)] at H
    exact ⟨_, H⟩
theorem eqItemS_ok (w : World) (v v' : Value) (l : List MItem) (h : (Kd.slice 81 kItem).rd w w.heap.size [v] l) (h' : (Kd.slice 81 kItem).rd w w.heap.size [v'] l) :
    ACalls Tryz.prog 146 #[v, v'] w fun r w' => r = .bool true ∧ Below w.heap.size w w' := by
  obtain ⟨A, c, rfl, hc1, hc2, ha⟩ := sl_open h
  obtain ⟨A', c', rfl, hc1', hc2', ha'⟩ := sl_open h'
  have hlm : l.length ≤ 9223372036854775807 := sl_len h
  refine body_of follows Tryz.func146 rfl rfl _ rfl (by kernel_rfl) (vs ?_)
  refine loop_at (σ := Nat) (fun k => [(0, .slice A l.length c), (1, .slice A' l.length c'), (5, .int .i64 (k : Int))])
    (fun k w' => k ≤ l.length ∧ Sep w.heap.size w w' []) (fun k => l.length - k) 0 (vs trivial) ⟨Nat.zero_le _, Sep.start w⟩ ?_
  rintro k s w2 ⟨hk, H⟩
  refine vs (ways ?_ ?_)
  · refine vh fun hlt => ?_
    have hk2 : k < l.length := by omega
    refine draw_of [(0, true), (1, true), (2, true), (3, true), (4, true), (5, true), (6, true), (7, true), (8, false), (9, true)] w2.heap.size [] fun w3 hh hb3 => vs ?_
    have H := H.go (hb3 _)
    refine q_elg sl35 rfl (ha.mono H.bel) (by omega) hlt fun ad es hb hr hc => vs ?_
    have hlt1 : ad.block < w2.heap.size := by have := H.ns; rw [hh] at this; omega
    refine q_lds st81 hc (Kd.len _ hr) hlt1 (vs ?_)
    refine q_elg sl35 rfl (ha'.mono H.bel) (by omega) hlt fun ad' es' hb' hr' hc' => vs ?_
    have hlt2 : ad'.block < w2.heap.size := by have := H.ns; rw [hh] at this; omega
    refine q_lds st81 hc' (Kd.len _ hr') hlt2 (vs ?_)
    refine x_call (eqItem_ok w3 _ _ _ (Kd.le _ hr H.ns) (Kd.le _ hr' H.ns)) fun _ w4 ⟨e4, hb4⟩ => ?_
    subst e4
    refine vs ?_
    have H4 := H.go hb4
    exact ⟨kept_of hb4 (Nat.le_of_eq (by rw [hh])), k + 1, i64_eq (by unfold w64; omega), ⟨hk2, H4⟩, by omega⟩
  · refine vh fun hlt => ?_
    exact H.bel
theorem szItemS_ok (w : World) (v : Value) (l : List MItem) (left : Int) (h : (Kd.slice 81 kItem).rd w w.heap.size [v] l) (hl0 : 0 ≤ left) (hl1 : left ≤ 1048576) :
    ACalls Tryz.prog 123 #[v, .int .i64 left] w fun r w' => ∃ z : Int, r = .int .i64 z ∧ Below w.heap.size w w' ∧ -1 ≤ z ∧ z ≤ left ∧ (0 ≤ z → smItemS l) := by
  have hlm : l.length ≤ 9223372036854775807 := sl_len h
  obtain ⟨A, c, rfl, hc1, hc2, ha⟩ := sl_open h
  refine body_of follows Tryz.func123 rfl rfl _ rfl (by kernel_rfl) (vs ?_)
  have q : w64 (left - (l.length : Int)) = left - l.length := w64_id (by omega) (by omega)
  refine ve q (ways ?_ ?_)
  · refine vh fun hneg => ?_
    exact ⟨-1, rfl, Below.refl .., by omega, by omega, by omega⟩
  refine vh fun hge => ?_
  have H := Sep.start w
  refine loop_at (σ := Nat × Int) (fun x => [(0, .slice A l.length c), (1, .int .i64 x.2), (5, .int .i64 (x.1 : Int))])
    (fun x w' => x.1 ≤ l.length ∧ 0 ≤ x.2 ∧ x.2 ≤ left ∧ (∀ i (hi : i < l.length), i < x.1 → smItem l[i]) ∧ Sep w.heap.size w w' []) (fun x => l.length - x.1) (0, left - l.length) (vs ?_) ⟨Nat.zero_le _, by show 0 ≤ left - (l.length : Int); omega, by show left - (l.length : Int) ≤ left; omega, fun i hi h => absurd h (Nat.not_lt_zero i), H⟩ ?_
  · exact i64_eq q
  rintro ⟨k, z⟩ s w2 ⟨hk, hz0, hz1, hall, H⟩
  dsimp only at hk hz0 hz1 hall H
  refine vs (ways ?_ ?_)
  · refine vh fun hlt => ?_
    have hk2 : k < l.length := by omega
    refine x_elg sl23 rfl (ha.mono H.bel) (by omega) hlt fun ad es hb hr hc => vs ?_
    refine x_lds st130 hc (Kd.len _ hr) (vs ?_)
    refine x_call (szItem_ok w2 _ _ _ (Kd.le _ hr H.ns) (by omega) (by omega)) fun _ w3 ⟨z2, e2, hb2, a2, b2, s2⟩ => ?_
    subst e2
    have H := H.go hb2
    refine vs (ways ?_ ?_)
    · refine vh fun hneg => ?_
      exact ⟨-1, rfl, H.bel, by omega, by omega, by omega⟩
    · refine vh fun hge2 => ?_
      refine ⟨(k + 1, z2), ⟨rfl, i64_eq (by show w64 ((k : Int) + 1) = ((k + 1 : Nat) : Int); unfold w64; omega)⟩, ⟨hk2, by show 0 ≤ z2; omega, by show z2 ≤ left; omega, fun i hi h => ?_, H⟩, by show l.length - (k + 1) < l.length - k; omega⟩
      by_cases h2 : i = k
      · subst h2; exact s2 (by omega)
      · exact hall i hi (by show i < k; have : i < k + 1 := h; omega)
  · refine vh fun hlt => ?_
    exact ⟨z, rfl, H.bel, by omega, hz1, fun _ => ⟨by omega, fun y hy => by obtain ⟨i, hi, rfl⟩ := List.getElem_of_mem hy; exact hall i hi (by omega)⟩⟩

/-! ### Line -/
structure MLine where
  f_Kind : Int
  f_Route : (List UInt8)
  f_Topic : Int
  f_Due : Int
  f_Bytes : (List UInt8)
def kLine : Kd MLine := (Kd.pair Kd.i64 (Kd.pair Kd.str (Kd.pair Kd.i64 (Kd.pair Kd.i64 (Kd.slice 5 Kd.u8))))).iso (fun c : MLine => (c.f_Kind, c.f_Route, c.f_Topic, c.f_Due, c.f_Bytes))
theorem kLine_sz : kLine.sz = 5 := rfl
theorem opens_107 : Opens Tryz.prog 107 kLine := opens_iso (fun p => ⟨p.1, p.2.1, p.2.2.1, p.2.2.2.1, p.2.2.2.2⟩) (opens_struct Tryz.underlying107 (ofs_cons (opens_i64 Tryz.underlying3) rfl (by kernel_rfl) (ofs_cons (opens_str Tryz.underlying9) rfl (by kernel_rfl) (ofs_cons (opens_i64 Tryz.underlying3) rfl (by kernel_rfl) (ofs_cons (opens_i64 Tryz.underlying3) rfl (by kernel_rfl) (ofs_one (opens_slice Tryz.underlying22 (opens_u8 Tryz.underlying5) (by kernel_rfl) (by decide)) rfl (by kernel_rfl)))))) (by kernel_rfl)) (fun _ => rfl)
theorem kLine_open {w : World} {n : Nat} {cs : List Value} {x : MLine} (h : kLine.rd w n cs x) : ∃ v4, cs = [.int .i64 x.f_Kind, .string ⟨(x.f_Route).toArray⟩, .int .i64 x.f_Topic, .int .i64 x.f_Due, v4] ∧ (-9223372036854775808 ≤ x.f_Kind ∧ x.f_Kind < 9223372036854775808) ∧ ((x.f_Route).length ≤ 9223372036854775807) ∧ (-9223372036854775808 ≤ x.f_Topic ∧ x.f_Topic < 9223372036854775808) ∧ (-9223372036854775808 ≤ x.f_Due ∧ x.f_Due < 9223372036854775808) ∧ ((Kd.slice 5 Kd.u8).rd w n [v4] x.f_Bytes) := by
  obtain ⟨a0, b0, rfl, h0, h⟩ := h
  obtain ⟨a1, b1, rfl, h1, h⟩ := h
  obtain ⟨a2, b2, rfl, h2, h⟩ := h
  obtain ⟨a3, b3, rfl, h3, h4⟩ := h
  obtain ⟨rfl, h0⟩ := h0
  obtain ⟨rfl, h1⟩ := h1
  obtain ⟨rfl, h2⟩ := h2
  obtain ⟨rfl, h3⟩ := h3
  obtain ⟨v4, rfl⟩ := sl_one h4
  exact ⟨v4, rfl, h0, h1, h2, h3, h4⟩
def zLine : MLine := ⟨0, [], 0, 0, []⟩
theorem kLine_zero (w : World) : kLine.ow w [] [.int .i64 0, .string ⟨#[]⟩, .int .i64 0, .int .i64 0, .slice none 0 0] zLine := (pair_zero (plain_zero pl_i64 w (by decide)) (pair_zero (plain_zero pl_str w (by decide)) (pair_zero (plain_zero pl_i64 w (by decide)) (pair_zero (plain_zero pl_i64 w (by decide)) (sl_zero w)))))
def smLine (x : MLine) : Prop := ((x.f_Route).length ≤ 1048576) ∧ ((x.f_Bytes).length ≤ 1048576)

/-! ### Post -/
structure MPost where
  f_Queue : (List MItem)
  f_Time : Int
  f_Book : (List UInt8)
  f_Sure : Int
def kPost : Kd MPost := (Kd.pair (Kd.slice 81 kItem) (Kd.pair Kd.i64 (Kd.pair (Kd.slice 5 Kd.u8) Kd.i64))).iso (fun c : MPost => (c.f_Queue, c.f_Time, c.f_Book, c.f_Sure))
theorem kPost_sz : kPost.sz = 4 := rfl
theorem opens_37 : Opens Tryz.prog 37 kPost := opens_iso (fun p => ⟨p.1, p.2.1, p.2.2.1, p.2.2.2⟩) (opens_struct Tryz.underlying37 (ofs_cons (opens_slice Tryz.underlying35 opens_81 (by kernel_rfl) (by decide)) rfl (by kernel_rfl) (ofs_cons (opens_i64 Tryz.underlying3) rfl (by kernel_rfl) (ofs_cons (opens_slice Tryz.underlying22 (opens_u8 Tryz.underlying5) (by kernel_rfl) (by decide)) rfl (by kernel_rfl) (ofs_one (opens_i64 Tryz.underlying3) rfl (by kernel_rfl))))) (by kernel_rfl)) (fun _ => rfl)
theorem opens_25 : Opens Tryz.prog 25 kPost := opens_iso (fun p => ⟨p.1, p.2.1, p.2.2.1, p.2.2.2⟩) (opens_struct Tryz.underlying25 (ofs_cons (opens_slice Tryz.underlying23 opens_130 (by kernel_rfl) (by decide)) rfl (by kernel_rfl) (ofs_cons (opens_i64 Tryz.underlying3) rfl (by kernel_rfl) (ofs_cons (opens_slice Tryz.underlying22 (opens_u8 Tryz.underlying5) (by kernel_rfl) (by decide)) rfl (by kernel_rfl) (ofs_one (opens_i64 Tryz.underlying3) rfl (by kernel_rfl))))) (by kernel_rfl)) (fun _ => rfl)
theorem kPost_open {w : World} {n : Nat} {cs : List Value} {x : MPost} (h : kPost.rd w n cs x) : ∃ v0 v2, cs = [v0, .int .i64 x.f_Time, v2, .int .i64 x.f_Sure] ∧ ((Kd.slice 81 kItem).rd w n [v0] x.f_Queue) ∧ (-9223372036854775808 ≤ x.f_Time ∧ x.f_Time < 9223372036854775808) ∧ ((Kd.slice 5 Kd.u8).rd w n [v2] x.f_Book) ∧ (-9223372036854775808 ≤ x.f_Sure ∧ x.f_Sure < 9223372036854775808) := by
  obtain ⟨a0, b0, rfl, h0, h⟩ := h
  obtain ⟨a1, b1, rfl, h1, h⟩ := h
  obtain ⟨a2, b2, rfl, h2, h3⟩ := h
  obtain ⟨v0, rfl⟩ := sl_one h0
  obtain ⟨rfl, h1⟩ := h1
  obtain ⟨v2, rfl⟩ := sl_one h2
  obtain ⟨rfl, h3⟩ := h3
  exact ⟨v0, v2, rfl, h0, h1, h2, h3⟩
def zPost : MPost := ⟨[], 0, [], 0⟩
theorem kPost_zero (w : World) : kPost.ow w [] [.slice none 0 0, .int .i64 0, .slice none 0 0, .int .i64 0] zPost := (pair_zero (sl_zero w) (pair_zero (plain_zero pl_i64 w (by decide)) (pair_zero (sl_zero w) (plain_zero pl_i64 w (by decide)))))
def smPost (x : MPost) : Prop := (smItemS x.f_Queue) ∧ ((x.f_Book).length ≤ 1048576)
theorem toPost_ok (w : World) (cs : List Value) (x : MPost) (h : kPost.rd w w.heap.size cs x) (hs : smPost x) :
    ACalls Tryz.prog 60 #[.agg cs.toArray] w fun r w' => ∃ cs' fp, r = .agg cs'.toArray ∧ Sep w.heap.size w w' [Ck.own kPost fp cs' x] := by
  unfold smPost at hs
  obtain ⟨v0, v2, rfl, h0, h1, h2, h3⟩ := kPost_open h
  have H := Sep.start w
  refine body_of follows Tryz.func60 rfl rfl _ rfl (by kernel_rfl) (vs ?_)
  refine x_bx H [v0, .int .i64 x.f_Time, v2, .int .i64 x.f_Sure] fun g1 w1 H => vs ?_
  refine x_al H st37 fun g2 w2 H => vs ?_
  refine x_al H st37 fun g3 w3 H => vs ?_
  refine x_ld H sc23 ?_
  refine vs ?_
  refine x_callf H (toItemS_ok w3 _ _ (H.rd h0) (hs.1)) fun r0 fp0 w4 H => vs ?_
  refine x_st H sc35 (h1 := Kd.one _ (H.own (.head _)) _ (by simp)) fun w5 H => vs ?_
  refine x_ld H sc3 ?_
  refine vs ?_
  refine x_st H sc3 fun w6 H => vs ?_
  refine x_ld H sc22 ?_
  refine vs ?_
  refine x_callf H (toByteS_ok w6 _ _ (H.rd h2) (by have := hs.2; omega)) fun r2 fp2 w7 H => vs ?_
  refine x_st H sc22 (h1 := Kd.one _ (H.own (.head _)) _ (by simp)) fun w8 H => vs ?_
  refine x_ld H sc3 ?_
  refine vs ?_
  refine x_st H sc3 fun w9 H => vs ?_
  have H := H.plain pl_i64 (x := x.f_Sure) h3
  have H := H.front (c := Ck.own (Kd.slice 5 Kd.u8) fp2 [r2] x.f_Book)
  have H := H.pair
  have H := H.plain pl_i64 (x := x.f_Time) h1
  have H := H.pair
  have H := H.front (c := Ck.own (Kd.slice 81 kItem) fp0 [r0] x.f_Queue)
  have H := H.pair
  have H := Sep.iso (y := x) (f := fun c : MPost => (c.f_Queue, c.f_Time, c.f_Book, c.f_Sure)) H
  refine x_lda H st37 ?_
  refine vs ?_
  refine x_sta H st37 (h1 := Kd.one _ (H.own (.head _))) fun w10 H => vs ?_
  exact ⟨_, _, rfl, res_cell H st37, _, _, rfl, H.head⟩
theorem eqPost_ok (w : World) (cs ds : List Value) (x : MPost) (h : kPost.rd w w.heap.size cs x) (h' : kPost.rd w w.heap.size ds x) :
    ACalls Tryz.prog 73 #[.agg cs.toArray, .agg ds.toArray] w fun r w' => r = .bool true ∧ Below w.heap.size w w' := by
  obtain ⟨v0, v2, rfl, h0, h1, h2, h3⟩ := kPost_open h
  obtain ⟨u0, u2, rfl, k0, k1, k2, k3⟩ := kPost_open h'
  have H := Sep.start w
  refine body_of follows Tryz.func73 rfl rfl _ rfl (by kernel_rfl) (vs ?_)
  refine x_bx H [v0, .int .i64 x.f_Time, v2, .int .i64 x.f_Sure] fun g1 w1 H => vs ?_
  refine x_bx H [u0, .int .i64 x.f_Time, u2, .int .i64 x.f_Sure] fun g2 w2 H => vs ?_
  refine x_ld H sc35 ?_
  refine vs ?_
  refine x_ld H sc35 ?_
  refine vs ?_
  refine x_callb H (eqItemS_ok w2 _ _ _ (H.rd h0) (H.rd k0)) fun w3 H => vs ?_
  refine x_ld H sc3 ?_
  refine vs ?_
  refine x_ld H sc3 ?_
  refine vs ?_
  refine x_ld H sc22 ?_
  refine vs ?_
  refine x_ld H sc22 ?_
  refine vs ?_
  refine x_callb H (eqByteS_ok w3 _ _ _ _ (H.rd h2) (H.rd k2)) fun w4 H => vs ?_
  refine x_ld H sc3 ?_
  refine vs ?_
  refine x_ld H sc3 ?_
  refine vs ?_
  exact H.bel
theorem szPost_ok (w : World) (cs : List Value) (x : MPost) (left : Int) (h : kPost.rd w w.heap.size cs x) (hl0 : 0 ≤ left) (hl1 : left ≤ 1048576) :
    ACalls Tryz.prog 51 #[.agg cs.toArray, .int .i64 left] w fun r w' => ∃ z : Int, r = .int .i64 z ∧ Below w.heap.size w w' ∧ -1 ≤ z ∧ z ≤ left ∧ (0 ≤ z → smPost x) := by
  obtain ⟨v0, v2, rfl, h0, h1, h2, h3⟩ := kPost_open h
  have H := Sep.start w
  refine body_of follows Tryz.func51 rfl rfl _ rfl (by kernel_rfl) (vs ?_)
  refine x_bx H [v0, .int .i64 x.f_Time, v2, .int .i64 x.f_Sure] fun g1 w1 H => vs ?_
  refine x_ld H sc23 ?_
  refine vs ?_
  refine x_call (szItemS_ok w1 _ _ _ (H.rd h0) (by omega) (by omega)) fun _ w2 ⟨z0, e0, hb0, a0, b0, s0⟩ => ?_
  subst e0
  have H := H.go hb0
  refine vs (ways ?_ ?_)
  · refine vh fun hneg => ?_
    exact ⟨-1, rfl, H.bel, by omega, by omega, by omega⟩
  refine vh fun hge0 => ?_
  refine x_ld H sc22 ?_
  refine vs ?_
  refine x_call (szByteS_ok w2 _ _ _ (H.rd h2) (by omega) (by omega)) fun _ w3 ⟨z1, e1, hb1, a1, b1, s1⟩ => ?_
  subst e1
  have H := H.go hb1
  refine vs (ways ?_ ?_)
  · refine vh fun hneg => ?_
    exact ⟨-1, rfl, H.bel, by omega, by omega, by omega⟩
  refine vh fun hge1 => ?_
  exact ⟨z1, rfl, H.bel, by omega, by omega, fun _ => ⟨s0 (by omega), s1 (by omega)⟩⟩

/-! ### Reader -/
structure MReader where
  f_Seed : (List UInt8)
  f_Epoch : Int
  f_Seen : (List (List UInt8))
  f_Got : (List (List UInt8))
def kReader : Kd MReader := (Kd.pair (Kd.slice 5 Kd.u8) (Kd.pair Kd.i64 (Kd.pair (Kd.slice 22 (Kd.slice 5 Kd.u8)) (Kd.slice 22 (Kd.slice 5 Kd.u8))))).iso (fun c : MReader => (c.f_Seed, c.f_Epoch, c.f_Seen, c.f_Got))
theorem kReader_sz : kReader.sz = 4 := rfl
theorem opens_38 : Opens Tryz.prog 38 kReader := opens_iso (fun p => ⟨p.1, p.2.1, p.2.2.1, p.2.2.2⟩) (opens_struct Tryz.underlying38 (ofs_cons (opens_slice Tryz.underlying22 (opens_u8 Tryz.underlying5) (by kernel_rfl) (by decide)) rfl (by kernel_rfl) (ofs_cons (opens_i64 Tryz.underlying3) rfl (by kernel_rfl) (ofs_cons (opens_slice Tryz.underlying26 (opens_slice Tryz.underlying22 (opens_u8 Tryz.underlying5) (by kernel_rfl) (by decide)) (by kernel_rfl) (by decide)) rfl (by kernel_rfl) (ofs_one (opens_slice Tryz.underlying26 (opens_slice Tryz.underlying22 (opens_u8 Tryz.underlying5) (by kernel_rfl) (by decide)) (by kernel_rfl) (by decide)) rfl (by kernel_rfl))))) (by kernel_rfl)) (fun _ => rfl)
theorem opens_28 : Opens Tryz.prog 28 kReader := opens_iso (fun p => ⟨p.1, p.2.1, p.2.2.1, p.2.2.2⟩) (opens_struct Tryz.underlying28 (ofs_cons (opens_slice Tryz.underlying22 (opens_u8 Tryz.underlying5) (by kernel_rfl) (by decide)) rfl (by kernel_rfl) (ofs_cons (opens_i64 Tryz.underlying3) rfl (by kernel_rfl) (ofs_cons (opens_slice Tryz.underlying26 (opens_slice Tryz.underlying22 (opens_u8 Tryz.underlying5) (by kernel_rfl) (by decide)) (by kernel_rfl) (by decide)) rfl (by kernel_rfl) (ofs_one (opens_slice Tryz.underlying26 (opens_slice Tryz.underlying22 (opens_u8 Tryz.underlying5) (by kernel_rfl) (by decide)) (by kernel_rfl) (by decide)) rfl (by kernel_rfl))))) (by kernel_rfl)) (fun _ => rfl)
theorem kReader_open {w : World} {n : Nat} {cs : List Value} {x : MReader} (h : kReader.rd w n cs x) : ∃ v0 v2 v3, cs = [v0, .int .i64 x.f_Epoch, v2, v3] ∧ ((Kd.slice 5 Kd.u8).rd w n [v0] x.f_Seed) ∧ (-9223372036854775808 ≤ x.f_Epoch ∧ x.f_Epoch < 9223372036854775808) ∧ ((Kd.slice 22 (Kd.slice 5 Kd.u8)).rd w n [v2] x.f_Seen) ∧ ((Kd.slice 22 (Kd.slice 5 Kd.u8)).rd w n [v3] x.f_Got) := by
  obtain ⟨a0, b0, rfl, h0, h⟩ := h
  obtain ⟨a1, b1, rfl, h1, h⟩ := h
  obtain ⟨a2, b2, rfl, h2, h3⟩ := h
  obtain ⟨v0, rfl⟩ := sl_one h0
  obtain ⟨rfl, h1⟩ := h1
  obtain ⟨v2, rfl⟩ := sl_one h2
  obtain ⟨v3, rfl⟩ := sl_one h3
  exact ⟨v0, v2, v3, rfl, h0, h1, h2, h3⟩
def zReader : MReader := ⟨[], 0, [], []⟩
theorem kReader_zero (w : World) : kReader.ow w [] [.slice none 0 0, .int .i64 0, .slice none 0 0, .slice none 0 0] zReader := (pair_zero (sl_zero w) (pair_zero (plain_zero pl_i64 w (by decide)) (pair_zero (sl_zero w) (sl_zero w))))
def smReader (x : MReader) : Prop := ((x.f_Seed).length ≤ 1048576) ∧ (smByteSS x.f_Seen) ∧ (smByteSS x.f_Got)
theorem toReader_ok (w : World) (cs : List Value) (x : MReader) (h : kReader.rd w w.heap.size cs x) (hs : smReader x) :
    ACalls Tryz.prog 61 #[.agg cs.toArray] w fun r w' => ∃ cs' fp, r = .agg cs'.toArray ∧ Sep w.heap.size w w' [Ck.own kReader fp cs' x] := by
  unfold smReader at hs
  obtain ⟨v0, v2, v3, rfl, h0, h1, h2, h3⟩ := kReader_open h
  have H := Sep.start w
  refine body_of follows Tryz.func61 rfl rfl _ rfl (by kernel_rfl) (vs ?_)
  refine x_bx H [v0, .int .i64 x.f_Epoch, v2, v3] fun g1 w1 H => vs ?_
  refine x_al H st38 fun g2 w2 H => vs ?_
  refine x_al H st38 fun g3 w3 H => vs ?_
  refine x_ld H sc22 ?_
  refine vs ?_
  refine x_callf H (toByteS_ok w3 _ _ (H.rd h0) (by have := hs.1; omega)) fun r0 fp0 w4 H => vs ?_
  refine x_st H sc22 (h1 := Kd.one _ (H.own (.head _)) _ (by simp)) fun w5 H => vs ?_
  refine x_ld H sc3 ?_
  refine vs ?_
  refine x_st H sc3 fun w6 H => vs ?_
  refine x_ld H sc26 ?_
  refine vs ?_
  refine x_callf H (toByteSS_ok w6 _ _ (H.rd h2) (hs.2.1)) fun r2 fp2 w7 H => vs ?_
  refine x_st H sc26 (h1 := Kd.one _ (H.own (.head _)) _ (by simp)) fun w8 H => vs ?_
  refine x_ld H sc26 ?_
  refine vs ?_
  refine x_callf H (toByteSS_ok w8 _ _ (H.rd h3) (hs.2.2)) fun r3 fp3 w9 H => vs ?_
  refine x_st H sc26 (h1 := Kd.one _ (H.own (.head _)) _ (by simp)) fun w10 H => vs ?_
  have H := H.front (c := Ck.own (Kd.slice 22 (Kd.slice 5 Kd.u8)) fp3 [r3] x.f_Got)
  have H := H.front (c := Ck.own (Kd.slice 22 (Kd.slice 5 Kd.u8)) fp2 [r2] x.f_Seen)
  have H := H.pair
  have H := H.plain pl_i64 (x := x.f_Epoch) h1
  have H := H.pair
  have H := H.front (c := Ck.own (Kd.slice 5 Kd.u8) fp0 [r0] x.f_Seed)
  have H := H.pair
  have H := Sep.iso (y := x) (f := fun c : MReader => (c.f_Seed, c.f_Epoch, c.f_Seen, c.f_Got)) H
  refine x_lda H st38 ?_
  refine vs ?_
  refine x_sta H st38 (h1 := Kd.one _ (H.own (.head _))) fun w11 H => vs ?_
  exact ⟨_, _, rfl, res_cell H st38, _, _, rfl, H.head⟩
theorem eqReader_ok (w : World) (cs ds : List Value) (x : MReader) (h : kReader.rd w w.heap.size cs x) (h' : kReader.rd w w.heap.size ds x) :
    ACalls Tryz.prog 74 #[.agg cs.toArray, .agg ds.toArray] w fun r w' => r = .bool true ∧ Below w.heap.size w w' := by
  obtain ⟨v0, v2, v3, rfl, h0, h1, h2, h3⟩ := kReader_open h
  obtain ⟨u0, u2, u3, rfl, k0, k1, k2, k3⟩ := kReader_open h'
  have H := Sep.start w
  refine body_of follows Tryz.func74 rfl rfl _ rfl (by kernel_rfl) (vs ?_)
  refine x_bx H [v0, .int .i64 x.f_Epoch, v2, v3] fun g1 w1 H => vs ?_
  refine x_bx H [u0, .int .i64 x.f_Epoch, u2, u3] fun g2 w2 H => vs ?_
  refine x_ld H sc22 ?_
  refine vs ?_
  refine x_ld H sc22 ?_
  refine vs ?_
  refine x_callb H (eqByteS_ok w2 _ _ _ _ (H.rd h0) (H.rd k0)) fun w3 H => vs ?_
  refine x_ld H sc3 ?_
  refine vs ?_
  refine x_ld H sc3 ?_
  refine vs ?_
  refine x_ld H sc26 ?_
  refine vs ?_
  refine x_ld H sc26 ?_
  refine vs ?_
  refine x_callb H (eqByteSS_ok w3 _ _ _ (H.rd h2) (H.rd k2)) fun w4 H => vs ?_
  refine x_ld H sc26 ?_
  refine vs ?_
  refine x_ld H sc26 ?_
  refine vs ?_
  refine x_callb H (eqByteSS_ok w4 _ _ _ (H.rd h3) (H.rd k3)) fun w5 H => vs ?_
  exact H.bel
theorem szReader_ok (w : World) (cs : List Value) (x : MReader) (left : Int) (h : kReader.rd w w.heap.size cs x) (hl0 : 0 ≤ left) (hl1 : left ≤ 1048576) :
    ACalls Tryz.prog 52 #[.agg cs.toArray, .int .i64 left] w fun r w' => ∃ z : Int, r = .int .i64 z ∧ Below w.heap.size w w' ∧ -1 ≤ z ∧ z ≤ left ∧ (0 ≤ z → smReader x) := by
  obtain ⟨v0, v2, v3, rfl, h0, h1, h2, h3⟩ := kReader_open h
  have H := Sep.start w
  refine body_of follows Tryz.func52 rfl rfl _ rfl (by kernel_rfl) (vs ?_)
  refine x_bx H [v0, .int .i64 x.f_Epoch, v2, v3] fun g1 w1 H => vs ?_
  refine x_ld H sc22 ?_
  refine vs ?_
  refine x_call (szByteS_ok w1 _ _ _ (H.rd h0) (by omega) (by omega)) fun _ w2 ⟨z0, e0, hb0, a0, b0, s0⟩ => ?_
  subst e0
  have H := H.go hb0
  refine vs (ways ?_ ?_)
  · refine vh fun hneg => ?_
    exact ⟨-1, rfl, H.bel, by omega, by omega, by omega⟩
  refine vh fun hge0 => ?_
  refine x_ld H sc26 ?_
  refine vs ?_
  refine x_call (szByteSS_ok w2 _ _ _ (H.rd h2) (by omega) (by omega)) fun _ w3 ⟨z1, e1, hb1, a1, b1, s1⟩ => ?_
  subst e1
  have H := H.go hb1
  refine vs (ways ?_ ?_)
  · refine vh fun hneg => ?_
    exact ⟨-1, rfl, H.bel, by omega, by omega, by omega⟩
  refine vh fun hge1 => ?_
  refine x_ld H sc26 ?_
  refine vs ?_
  refine x_call (szByteSS_ok w3 _ _ _ (H.rd h3) (by omega) (by omega)) fun _ w4 ⟨z2, e2, hb2, a2, b2, s2⟩ => ?_
  subst e2
  have H := H.go hb2
  refine vs (ways ?_ ?_)
  · refine vh fun hneg => ?_
    exact ⟨-1, rfl, H.bel, by omega, by omega, by omega⟩
  refine vh fun hge2 => ?_
  exact ⟨z2, rfl, H.bel, by omega, by omega, fun _ => ⟨s0 (by omega), s1 (by omega), s2 (by omega)⟩⟩

/-! ### Wire -/
structure MWire where
  f_ToPost : Bool
  f_Item : MItem
  f_Bytes : (List UInt8)
def kWire : Kd MWire := (Kd.pair Kd.bool (Kd.pair kItem (Kd.slice 5 Kd.u8))).iso (fun c : MWire => (c.f_ToPost, c.f_Item, c.f_Bytes))
theorem kWire_sz : kWire.sz = 6 := rfl
theorem opens_88 : Opens Tryz.prog 88 kWire := opens_iso (fun p => ⟨p.1, p.2.1, p.2.2⟩) (opens_struct Tryz.underlying88 (ofs_cons (opens_bool Tryz.underlying4) rfl (by kernel_rfl) (ofs_cons opens_81 rfl (by kernel_rfl) (ofs_one (opens_slice Tryz.underlying22 (opens_u8 Tryz.underlying5) (by kernel_rfl) (by decide)) rfl (by kernel_rfl)))) (by kernel_rfl)) (fun _ => rfl)
theorem opens_132 : Opens Tryz.prog 132 kWire := opens_iso (fun p => ⟨p.1, p.2.1, p.2.2⟩) (opens_struct Tryz.underlying132 (ofs_cons (opens_bool Tryz.underlying4) rfl (by kernel_rfl) (ofs_cons opens_130 rfl (by kernel_rfl) (ofs_one (opens_slice Tryz.underlying22 (opens_u8 Tryz.underlying5) (by kernel_rfl) (by decide)) rfl (by kernel_rfl)))) (by kernel_rfl)) (fun _ => rfl)
theorem kWire_open {w : World} {n : Nat} {cs : List Value} {x : MWire} (h : kWire.rd w n cs x) : ∃ v1_3 v2, cs = [.bool x.f_ToPost, .string ⟨(x.f_Item.f_Route).toArray⟩, .int .i64 x.f_Item.f_Topic, .int .i64 x.f_Item.f_Due, v1_3, v2] ∧ (True) ∧ (kItem.rd w n [.string ⟨(x.f_Item.f_Route).toArray⟩, .int .i64 x.f_Item.f_Topic, .int .i64 x.f_Item.f_Due, v1_3] x.f_Item) ∧ ((Kd.slice 5 Kd.u8).rd w n [v2] x.f_Bytes) := by
  obtain ⟨a0, b0, rfl, h0, h⟩ := h
  obtain ⟨a1, b1, rfl, h1, h2⟩ := h
  obtain ⟨rfl, h0⟩ := h0
  have h1_ := h1
  obtain ⟨v1_3, rfl, _⟩ := kItem_open h1_
  obtain ⟨v2, rfl⟩ := sl_one h2
  exact ⟨v1_3, v2, rfl, h0, h1, h2⟩
def zWire : MWire := ⟨false, zItem, []⟩
theorem kWire_zero (w : World) : kWire.ow w [] [.bool false, .string ⟨#[]⟩, .int .i64 0, .int .i64 0, .slice none 0 0, .slice none 0 0] zWire := (pair_zero (plain_zero pl_bool w trivial) (pair_zero (kItem_zero w) (sl_zero w)))
def smWire (x : MWire) : Prop := (smItem x.f_Item) ∧ ((x.f_Bytes).length ≤ 1048576)
theorem toWire_ok (w : World) (cs : List Value) (x : MWire) (h : kWire.rd w w.heap.size cs x) (hs : smWire x) :
    ACalls Tryz.prog 133 #[.agg cs.toArray] w fun r w' => ∃ cs' fp, r = .agg cs'.toArray ∧ Sep w.heap.size w w' [Ck.own kWire fp cs' x] := by
  unfold smWire at hs
  obtain ⟨v1_3, v2, rfl, h0, h1, h2⟩ := kWire_open h
  have H := Sep.start w
  refine body_of follows Tryz.func133 rfl rfl _ rfl (by kernel_rfl) (vs ?_)
  refine x_bx H [.bool x.f_ToPost, .string ⟨(x.f_Item.f_Route).toArray⟩, .int .i64 x.f_Item.f_Topic, .int .i64 x.f_Item.f_Due, v1_3, v2] fun g1 w1 H => vs ?_
  refine x_al H st88 fun g2 w2 H => vs ?_
  refine x_al H st88 fun g3 w3 H => vs ?_
  refine x_ld H sc4 ?_
  refine vs ?_
  refine x_st H sc4 fun w4 H => vs ?_
  refine x_ldp H [.string ⟨(x.f_Item.f_Route).toArray⟩, .int .i64 x.f_Item.f_Topic, .int .i64 x.f_Item.f_Due, v1_3] st130 (vs ?_)
  refine x_call (toItem_ok w4 _ _ (H.rd h1) hs.1) fun _ w5 ⟨c1, fp1, e1, S⟩ => ?_
  subst e1
  have H := H.join S
  simp only [List.cons_append, List.nil_append] at H
  obtain ⟨r1_3, rfl, _⟩ := kItem_open (H.own (.head _))
  refine vs ?_
  refine x_sta H st81 (h1 := Kd.one _ (H.own (.head _))) fun w6 H => vs ?_
  refine x_ld H sc22 ?_
  refine vs ?_
  refine x_callf H (toByteS_ok w6 _ _ (H.rd h2) (by have := hs.2; omega)) fun r2 fp2 w7 H => vs ?_
  refine x_st H sc22 (h1 := Kd.one _ (H.own (.head _)) _ (by simp)) fun w8 H => vs ?_
  have H := H.front (c := Ck.own (Kd.slice 5 Kd.u8) fp2 [r2] x.f_Bytes)
  have H := H.front (c := Ck.own kItem fp1 [.string ⟨(x.f_Item.f_Route).toArray⟩, .int .i64 x.f_Item.f_Topic, .int .i64 x.f_Item.f_Due, r1_3] x.f_Item)
  have H := H.pair
  have H := H.plain pl_bool (x := x.f_ToPost) h0
  have H := H.pair
  have H := Sep.iso (y := x) (f := fun c : MWire => (c.f_ToPost, c.f_Item, c.f_Bytes)) H
  refine x_lda H st88 ?_
  refine vs ?_
  refine x_sta H st88 (h1 := Kd.one _ (H.own (.head _))) fun w9 H => vs ?_
  exact ⟨_, _, rfl, res_cell H st88, _, _, rfl, H.head⟩
theorem eqWire_ok (w : World) (cs ds : List Value) (x : MWire) (h : kWire.rd w w.heap.size cs x) (h' : kWire.rd w w.heap.size ds x) :
    ACalls Tryz.prog 148 #[.agg cs.toArray, .agg ds.toArray] w fun r w' => r = .bool true ∧ Below w.heap.size w w' := by
  obtain ⟨v1_3, v2, rfl, h0, h1, h2⟩ := kWire_open h
  obtain ⟨u1_3, u2, rfl, k0, k1, k2⟩ := kWire_open h'
  have H := Sep.start w
  refine body_of follows Tryz.func148 rfl rfl _ rfl (by kernel_rfl) (vs ?_)
  refine x_bx H [.bool x.f_ToPost, .string ⟨(x.f_Item.f_Route).toArray⟩, .int .i64 x.f_Item.f_Topic, .int .i64 x.f_Item.f_Due, v1_3, v2] fun g1 w1 H => vs ?_
  refine x_bx H [.bool x.f_ToPost, .string ⟨(x.f_Item.f_Route).toArray⟩, .int .i64 x.f_Item.f_Topic, .int .i64 x.f_Item.f_Due, u1_3, u2] fun g2 w2 H => vs ?_
  refine x_ld H sc4 ?_
  refine vs ?_
  refine x_ld H sc4 ?_
  refine vs ?_
  refine x_ldp H [.string ⟨(x.f_Item.f_Route).toArray⟩, .int .i64 x.f_Item.f_Topic, .int .i64 x.f_Item.f_Due, v1_3] st81 (vs ?_)
  refine x_ldp H [.string ⟨(x.f_Item.f_Route).toArray⟩, .int .i64 x.f_Item.f_Topic, .int .i64 x.f_Item.f_Due, u1_3] st81 (vs ?_)
  refine x_callb H (eqItem_ok w2 _ _ _ (H.rd h1) (H.rd k1)) fun w3 H => vs ?_
  refine x_ld H sc22 ?_
  refine vs ?_
  refine x_ld H sc22 ?_
  refine vs ?_
  refine x_callb H (eqByteS_ok w3 _ _ _ _ (H.rd h2) (H.rd k2)) fun w4 H => vs ?_
  exact H.bel
theorem szWire_ok (w : World) (cs : List Value) (x : MWire) (left : Int) (h : kWire.rd w w.heap.size cs x) (hl0 : 0 ≤ left) (hl1 : left ≤ 1048576) :
    ACalls Tryz.prog 125 #[.agg cs.toArray, .int .i64 left] w fun r w' => ∃ z : Int, r = .int .i64 z ∧ Below w.heap.size w w' ∧ -1 ≤ z ∧ z ≤ left ∧ (0 ≤ z → smWire x) := by
  obtain ⟨v1_3, v2, rfl, h0, h1, h2⟩ := kWire_open h
  have H := Sep.start w
  refine body_of follows Tryz.func125 rfl rfl _ rfl (by kernel_rfl) (vs ?_)
  refine x_bx H [.bool x.f_ToPost, .string ⟨(x.f_Item.f_Route).toArray⟩, .int .i64 x.f_Item.f_Topic, .int .i64 x.f_Item.f_Due, v1_3, v2] fun g1 w1 H => vs ?_
  refine x_ldp H [.string ⟨(x.f_Item.f_Route).toArray⟩, .int .i64 x.f_Item.f_Topic, .int .i64 x.f_Item.f_Due, v1_3] st130 (vs ?_)
  refine x_call (szItem_ok w1 _ _ _ (H.rd h1) (by omega) (by omega)) fun _ w2 ⟨z0, e0, hb0, a0, b0, s0⟩ => ?_
  subst e0
  have H := H.go hb0
  refine vs (ways ?_ ?_)
  · refine vh fun hneg => ?_
    exact ⟨-1, rfl, H.bel, by omega, by omega, by omega⟩
  refine vh fun hge0 => ?_
  refine x_ld H sc22 ?_
  refine vs ?_
  refine x_call (szByteS_ok w2 _ _ _ (H.rd h2) (by omega) (by omega)) fun _ w3 ⟨z1, e1, hb1, a1, b1, s1⟩ => ?_
  subst e1
  have H := H.go hb1
  refine vs (ways ?_ ?_)
  · refine vh fun hneg => ?_
    exact ⟨-1, rfl, H.bel, by omega, by omega, by omega⟩
  refine vh fun hge1 => ?_
  exact ⟨z1, rfl, H.bel, by omega, by omega, fun _ => ⟨s0 (by omega), s1 (by omega)⟩⟩

/-! ### lists of Wire -/
def smWireS (l : List MWire) : Prop := l.length ≤ 1048576 ∧ ∀ y ∈ l, smWire y
theorem toWireS_ok (w : World) (v : Value) (l : List MWire) (h : (Kd.slice 88 kWire).rd w w.heap.size [v] l) (hs : smWireS l) :
    ACalls Tryz.prog 62 #[v] w fun r w' => ∃ fp, Sep w.heap.size w w' [Ck.own (Kd.slice 88 kWire) fp [r] l] := by
  obtain ⟨A, c, rfl, hc1, hc2, ha⟩ := sl_open h
  have hlen := hs.1
  have H := Sep.start w
  refine body_of follows Tryz.func62 rfl rfl _ rfl (by kernel_rfl) (vs ?_)
  refine x_mkZ (d := kWire) H sl39 [.bool false, .string ⟨#[]⟩, .int .i64 0, .int .i64 0, .slice none 0 0, .slice none 0 0] zWire rfl (fun w => kWire_zero w) (by omega) (by omega) fun g w1 H => vs ?_
  refine loop_at (σ := Nat × List Nat) (fun x => [(0, .slice A l.length c), (3, .slice (some ⟨g, 0, none⟩) l.length l.length), (4, .int .i64 (x.1 : Int))])
    (fun x w' => x.1 ≤ l.length ∧ Sep w.heap.size w w' [Ck.own (Kd.slice 88 kWire) x.2 [.slice (some ⟨g, 0, none⟩) l.length l.length] (l.take x.1 ++ List.replicate (l.length - x.1) zWire)]) (fun x => l.length - x.1) (0, _) (vs trivial) ⟨Nat.zero_le _, by rw [take_zero_repl]; exact H⟩ ?_
  rintro ⟨k, fp⟩ s w2 ⟨hk, H⟩
  dsimp only at hk H
  refine vs (ways ?_ ?_)
  · refine vh fun hlt => ?_
    have hk2 : k < l.length := by omega
    refine x_elg sl29 rfl (ha.mono H.bel) (by omega) hlt fun ad es hb hr hc => vs ?_
    refine x_lds st132 hc (Kd.len _ hr) (vs ?_)
    refine x_call (toWire_ok w2 _ _ (Kd.le _ hr H.ns) (hs.2 _ (List.getElem_mem _))) fun _ w3 ⟨c2, fp2, e2, S⟩ => ?_
    subst e2
    have H := H.join S
    simp only [List.cons_append, List.nil_append] at H
    refine vs ?_
    refine x_index sl39 rfl (by omega) hlt (vs ?_)
    refine x_stSs st88 H rfl hk2 (Kd.one _ (H.own (.head _))) fun fp3 w4 H => vs ?_
    have H : Sep w.heap.size w w4 [Ck.own (Kd.slice 88 kWire) fp3 [.slice (some ⟨g, 0, none⟩) l.length l.length] (l.take (k + 1) ++ List.replicate (l.length - (k + 1)) zWire)] := by rw [← take_set l zWire k hk2]; exact H
    exact ⟨(k + 1, fp3), i64_eq (by show w64 ((k : Int) + 1) = ((k + 1 : Nat) : Int); unfold w64; omega), ⟨hk2, H⟩, by show l.length - (k + 1) < l.length - k; omega⟩
  · refine vh fun hlt => ?_
    rw [take_all_repl l zWire (by omega)] at H
    exact ⟨_, H⟩
theorem eqWireS_ok (w : World) (v v' : Value) (l : List MWire) (h : (Kd.slice 88 kWire).rd w w.heap.size [v] l) (h' : (Kd.slice 88 kWire).rd w w.heap.size [v'] l) :
    ACalls Tryz.prog 75 #[v, v'] w fun r w' => r = .bool true ∧ Below w.heap.size w w' := by
  obtain ⟨A, c, rfl, hc1, hc2, ha⟩ := sl_open h
  obtain ⟨A', c', rfl, hc1', hc2', ha'⟩ := sl_open h'
  have hlm : l.length ≤ 9223372036854775807 := sl_len h
  refine body_of follows Tryz.func75 rfl rfl _ rfl (by kernel_rfl) (vs ?_)
  refine loop_at (σ := Nat) (fun k => [(0, .slice A l.length c), (1, .slice A' l.length c'), (5, .int .i64 (k : Int))])
    (fun k w' => k ≤ l.length ∧ Sep w.heap.size w w' []) (fun k => l.length - k) 0 (vs trivial) ⟨Nat.zero_le _, Sep.start w⟩ ?_
  rintro k s w2 ⟨hk, H⟩
  refine vs (ways ?_ ?_)
  · refine vh fun hlt => ?_
    have hk2 : k < l.length := by omega
    refine draw_of [(0, true), (1, true), (2, true), (3, true), (4, true), (5, true), (6, true), (7, true), (8, false), (9, true)] w2.heap.size [] fun w3 hh hb3 => vs ?_
    have H := H.go (hb3 _)
    refine q_elg sl39 rfl (ha.mono H.bel) (by omega) hlt fun ad es hb hr hc => vs ?_
    have hlt1 : ad.block < w2.heap.size := by have := H.ns; rw [hh] at this; omega
    refine q_lds st88 hc (Kd.len _ hr) hlt1 (vs ?_)
    refine q_elg sl39 rfl (ha'.mono H.bel) (by omega) hlt fun ad' es' hb' hr' hc' => vs ?_
    have hlt2 : ad'.block < w2.heap.size := by have := H.ns; rw [hh] at this; omega
    refine q_lds st88 hc' (Kd.len _ hr') hlt2 (vs ?_)
    refine x_call (eqWire_ok w3 _ _ _ (Kd.le _ hr H.ns) (Kd.le _ hr' H.ns)) fun _ w4 ⟨e4, hb4⟩ => ?_
    subst e4
    refine vs ?_
    have H4 := H.go hb4
    exact ⟨kept_of hb4 (Nat.le_of_eq (by rw [hh])), k + 1, i64_eq (by unfold w64; omega), ⟨hk2, H4⟩, by omega⟩
  · refine vh fun hlt => ?_
    exact H.bel
theorem szWireS_ok (w : World) (v : Value) (l : List MWire) (left : Int) (h : (Kd.slice 88 kWire).rd w w.heap.size [v] l) (hl0 : 0 ≤ left) (hl1 : left ≤ 1048576) :
    ACalls Tryz.prog 53 #[v, .int .i64 left] w fun r w' => ∃ z : Int, r = .int .i64 z ∧ Below w.heap.size w w' ∧ -1 ≤ z ∧ z ≤ left ∧ (0 ≤ z → smWireS l) := by
  have hlm : l.length ≤ 9223372036854775807 := sl_len h
  obtain ⟨A, c, rfl, hc1, hc2, ha⟩ := sl_open h
  refine body_of follows Tryz.func53 rfl rfl _ rfl (by kernel_rfl) (vs ?_)
  have q : w64 (left - (l.length : Int)) = left - l.length := w64_id (by omega) (by omega)
  refine ve q (ways ?_ ?_)
  · refine vh fun hneg => ?_
    exact ⟨-1, rfl, Below.refl .., by omega, by omega, by omega⟩
  refine vh fun hge => ?_
  have H := Sep.start w
  refine loop_at (σ := Nat × Int) (fun x => [(0, .slice A l.length c), (1, .int .i64 x.2), (5, .int .i64 (x.1 : Int))])
    (fun x w' => x.1 ≤ l.length ∧ 0 ≤ x.2 ∧ x.2 ≤ left ∧ (∀ i (hi : i < l.length), i < x.1 → smWire l[i]) ∧ Sep w.heap.size w w' []) (fun x => l.length - x.1) (0, left - l.length) (vs ?_) ⟨Nat.zero_le _, by show 0 ≤ left - (l.length : Int); omega, by show left - (l.length : Int) ≤ left; omega, fun i hi h => absurd h (Nat.not_lt_zero i), H⟩ ?_
  · exact i64_eq q
  rintro ⟨k, z⟩ s w2 ⟨hk, hz0, hz1, hall, H⟩
  dsimp only at hk hz0 hz1 hall H
  refine vs (ways ?_ ?_)
  · refine vh fun hlt => ?_
    have hk2 : k < l.length := by omega
    refine x_elg sl29 rfl (ha.mono H.bel) (by omega) hlt fun ad es hb hr hc => vs ?_
    refine x_lds st132 hc (Kd.len _ hr) (vs ?_)
    refine x_call (szWire_ok w2 _ _ _ (Kd.le _ hr H.ns) (by omega) (by omega)) fun _ w3 ⟨z2, e2, hb2, a2, b2, s2⟩ => ?_
    subst e2
    have H := H.go hb2
    refine vs (ways ?_ ?_)
    · refine vh fun hneg => ?_
      exact ⟨-1, rfl, H.bel, by omega, by omega, by omega⟩
    · refine vh fun hge2 => ?_
      refine ⟨(k + 1, z2), ⟨rfl, i64_eq (by show w64 ((k : Int) + 1) = ((k + 1 : Nat) : Int); unfold w64; omega)⟩, ⟨hk2, by show 0 ≤ z2; omega, by show z2 ≤ left; omega, fun i hi h => ?_, H⟩, by show l.length - (k + 1) < l.length - k; omega⟩
      by_cases h2 : i = k
      · subst h2; exact s2 (by omega)
      · exact hall i hi (by show i < k; have : i < k + 1 := h; omega)
  · refine vh fun hlt => ?_
    exact ⟨z, rfl, H.bel, by omega, hz1, fun _ => ⟨by omega, fun y hy => by obtain ⟨i, hi, rfl⟩ := List.getElem_of_mem hy; exact hall i hi (by omega)⟩⟩

/-! ### Sent -/
structure MSent where
  f_Route : (List UInt8)
  f_Epoch : Int
  f_Note : (List UInt8)
  f_Bytes : (List UInt8)
def kSent : Kd MSent := (Kd.pair Kd.str (Kd.pair Kd.i64 (Kd.pair (Kd.slice 5 Kd.u8) (Kd.slice 5 Kd.u8)))).iso (fun c : MSent => (c.f_Route, c.f_Epoch, c.f_Note, c.f_Bytes))
theorem kSent_sz : kSent.sz = 4 := rfl
theorem opens_78 : Opens Tryz.prog 78 kSent := opens_iso (fun p => ⟨p.1, p.2.1, p.2.2.1, p.2.2.2⟩) (opens_struct Tryz.underlying78 (ofs_cons (opens_str Tryz.underlying9) rfl (by kernel_rfl) (ofs_cons (opens_i64 Tryz.underlying3) rfl (by kernel_rfl) (ofs_cons (opens_slice Tryz.underlying22 (opens_u8 Tryz.underlying5) (by kernel_rfl) (by decide)) rfl (by kernel_rfl) (ofs_one (opens_slice Tryz.underlying22 (opens_u8 Tryz.underlying5) (by kernel_rfl) (by decide)) rfl (by kernel_rfl))))) (by kernel_rfl)) (fun _ => rfl)
theorem opens_134 : Opens Tryz.prog 134 kSent := opens_iso (fun p => ⟨p.1, p.2.1, p.2.2.1, p.2.2.2⟩) (opens_struct Tryz.underlying134 (ofs_cons (opens_str Tryz.underlying9) rfl (by kernel_rfl) (ofs_cons (opens_i64 Tryz.underlying3) rfl (by kernel_rfl) (ofs_cons (opens_slice Tryz.underlying22 (opens_u8 Tryz.underlying5) (by kernel_rfl) (by decide)) rfl (by kernel_rfl) (ofs_one (opens_slice Tryz.underlying22 (opens_u8 Tryz.underlying5) (by kernel_rfl) (by decide)) rfl (by kernel_rfl))))) (by kernel_rfl)) (fun _ => rfl)
theorem kSent_open {w : World} {n : Nat} {cs : List Value} {x : MSent} (h : kSent.rd w n cs x) : ∃ v2 v3, cs = [.string ⟨(x.f_Route).toArray⟩, .int .i64 x.f_Epoch, v2, v3] ∧ ((x.f_Route).length ≤ 9223372036854775807) ∧ (-9223372036854775808 ≤ x.f_Epoch ∧ x.f_Epoch < 9223372036854775808) ∧ ((Kd.slice 5 Kd.u8).rd w n [v2] x.f_Note) ∧ ((Kd.slice 5 Kd.u8).rd w n [v3] x.f_Bytes) := by
  obtain ⟨a0, b0, rfl, h0, h⟩ := h
  obtain ⟨a1, b1, rfl, h1, h⟩ := h
  obtain ⟨a2, b2, rfl, h2, h3⟩ := h
  obtain ⟨rfl, h0⟩ := h0
  obtain ⟨rfl, h1⟩ := h1
  obtain ⟨v2, rfl⟩ := sl_one h2
  obtain ⟨v3, rfl⟩ := sl_one h3
  exact ⟨v2, v3, rfl, h0, h1, h2, h3⟩
def zSent : MSent := ⟨[], 0, [], []⟩
theorem kSent_zero (w : World) : kSent.ow w [] [.string ⟨#[]⟩, .int .i64 0, .slice none 0 0, .slice none 0 0] zSent := (pair_zero (plain_zero pl_str w (by decide)) (pair_zero (plain_zero pl_i64 w (by decide)) (pair_zero (sl_zero w) (sl_zero w))))
def smSent (x : MSent) : Prop := ((x.f_Route).length ≤ 1048576) ∧ ((x.f_Note).length ≤ 1048576) ∧ ((x.f_Bytes).length ≤ 1048576)
theorem toSent_ok (w : World) (cs : List Value) (x : MSent) (h : kSent.rd w w.heap.size cs x) (hs : smSent x) :
    ACalls Tryz.prog 134 #[.agg cs.toArray] w fun r w' => ∃ cs' fp, r = .agg cs'.toArray ∧ Sep w.heap.size w w' [Ck.own kSent fp cs' x] := by
  unfold smSent at hs
  obtain ⟨v2, v3, rfl, h0, h1, h2, h3⟩ := kSent_open h
  have H := Sep.start w
  refine body_of follows Tryz.func134 rfl rfl _ rfl (by kernel_rfl) (vs ?_)
  refine x_bx H [.string ⟨(x.f_Route).toArray⟩, .int .i64 x.f_Epoch, v2, v3] fun g1 w1 H => vs ?_
  refine x_al H st78 fun g2 w2 H => vs ?_
  refine x_al H st78 fun g3 w3 H => vs ?_
  refine x_ld H sc9 ?_
  refine vs ?_
  refine x_st H sc9 fun w4 H => vs ?_
  refine x_ld H sc3 ?_
  refine vs ?_
  refine x_st H sc3 fun w5 H => vs ?_
  refine x_ld H sc22 ?_
  refine vs ?_
  refine x_callf H (toByteS_ok w5 _ _ (H.rd h2) (by have := hs.2.1; omega)) fun r2 fp2 w6 H => vs ?_
  refine x_st H sc22 (h1 := Kd.one _ (H.own (.head _)) _ (by simp)) fun w7 H => vs ?_
  refine x_ld H sc22 ?_
  refine vs ?_
  refine x_callf H (toByteS_ok w7 _ _ (H.rd h3) (by have := hs.2.2; omega)) fun r3 fp3 w8 H => vs ?_
  refine x_st H sc22 (h1 := Kd.one _ (H.own (.head _)) _ (by simp)) fun w9 H => vs ?_
  have H := H.front (c := Ck.own (Kd.slice 5 Kd.u8) fp3 [r3] x.f_Bytes)
  have H := H.front (c := Ck.own (Kd.slice 5 Kd.u8) fp2 [r2] x.f_Note)
  have H := H.pair
  have H := H.plain pl_i64 (x := x.f_Epoch) h1
  have H := H.pair
  have H := H.plain pl_str (x := x.f_Route) h0
  have H := H.pair
  have H := Sep.iso (y := x) (f := fun c : MSent => (c.f_Route, c.f_Epoch, c.f_Note, c.f_Bytes)) H
  refine x_lda H st78 ?_
  refine vs ?_
  refine x_sta H st78 (h1 := Kd.one _ (H.own (.head _))) fun w10 H => vs ?_
  exact ⟨_, _, rfl, res_cell H st78, _, _, rfl, H.head⟩
theorem eqSent_ok (w : World) (cs ds : List Value) (x : MSent) (h : kSent.rd w w.heap.size cs x) (h' : kSent.rd w w.heap.size ds x) :
    ACalls Tryz.prog 149 #[.agg cs.toArray, .agg ds.toArray] w fun r w' => r = .bool true ∧ Below w.heap.size w w' := by
  obtain ⟨v2, v3, rfl, h0, h1, h2, h3⟩ := kSent_open h
  obtain ⟨u2, u3, rfl, k0, k1, k2, k3⟩ := kSent_open h'
  have H := Sep.start w
  refine body_of follows Tryz.func149 rfl rfl _ rfl (by kernel_rfl) (vs ?_)
  refine x_bx H [.string ⟨(x.f_Route).toArray⟩, .int .i64 x.f_Epoch, v2, v3] fun g1 w1 H => vs ?_
  refine x_bx H [.string ⟨(x.f_Route).toArray⟩, .int .i64 x.f_Epoch, u2, u3] fun g2 w2 H => vs ?_
  refine x_ld H sc9 ?_
  refine vs ?_
  refine x_ld H sc9 ?_
  refine vs ?_
  refine x_ld H sc3 ?_
  refine vs ?_
  refine x_ld H sc3 ?_
  refine vs ?_
  refine x_ld H sc22 ?_
  refine vs ?_
  refine x_ld H sc22 ?_
  refine vs ?_
  refine x_callb H (eqByteS_ok w2 _ _ _ _ (H.rd h2) (H.rd k2)) fun w3 H => vs ?_
  refine x_ld H sc22 ?_
  refine vs ?_
  refine x_ld H sc22 ?_
  refine vs ?_
  refine x_callb H (eqByteS_ok w3 _ _ _ _ (H.rd h3) (H.rd k3)) fun w4 H => vs ?_
  exact H.bel
theorem szSent_ok (w : World) (cs : List Value) (x : MSent) (left : Int) (h : kSent.rd w w.heap.size cs x) (hl0 : 0 ≤ left) (hl1 : left ≤ 1048576) :
    ACalls Tryz.prog 126 #[.agg cs.toArray, .int .i64 left] w fun r w' => ∃ z : Int, r = .int .i64 z ∧ Below w.heap.size w w' ∧ -1 ≤ z ∧ z ≤ left ∧ (0 ≤ z → smSent x) := by
  obtain ⟨v2, v3, rfl, h0, h1, h2, h3⟩ := kSent_open h
  have H := Sep.start w
  refine body_of follows Tryz.func126 rfl rfl _ rfl (by kernel_rfl) (vs ?_)
  refine x_bx H [.string ⟨(x.f_Route).toArray⟩, .int .i64 x.f_Epoch, v2, v3] fun g1 w1 H => vs ?_
  refine x_ld H sc9 ?_
  refine vs ?_
  have q0 : w64 (left - (x.f_Route.length : Int)) = left - x.f_Route.length := w64_id (by omega) (by omega)
  generalize hz0 : left - (x.f_Route.length : Int) = z0 at q0
  refine ve q0 ?_
  have s0 : 0 ≤ z0 → x.f_Route.length ≤ 1048576 := by omega
  refine ways ?_ ?_
  · refine vh fun hneg => ?_
    exact ⟨-1, rfl, H.bel, by omega, by omega, by omega⟩
  refine vh fun hge0 => ?_
  refine x_ld H sc22 ?_
  refine vs ?_
  refine x_call (szByteS_ok w1 _ _ _ (H.rd h2) (by omega) (by omega)) fun _ w2 ⟨z1, e1, hb1, a1, b1, s1⟩ => ?_
  subst e1
  have H := H.go hb1
  refine vs (ways ?_ ?_)
  · refine vh fun hneg => ?_
    exact ⟨-1, rfl, H.bel, by omega, by omega, by omega⟩
  refine vh fun hge1 => ?_
  refine x_ld H sc22 ?_
  refine vs ?_
  refine x_call (szByteS_ok w2 _ _ _ (H.rd h3) (by omega) (by omega)) fun _ w3 ⟨z2, e2, hb2, a2, b2, s2⟩ => ?_
  subst e2
  have H := H.go hb2
  refine vs (ways ?_ ?_)
  · refine vh fun hneg => ?_
    exact ⟨-1, rfl, H.bel, by omega, by omega, by omega⟩
  refine vh fun hge2 => ?_
  exact ⟨z2, rfl, H.bel, by omega, by omega, fun _ => ⟨s0 (by omega), s1 (by omega), s2 (by omega)⟩⟩

/-! ### lists of Sent -/
def smSentS (l : List MSent) : Prop := l.length ≤ 1048576 ∧ ∀ y ∈ l, smSent y
theorem toSentS_ok (w : World) (v : Value) (l : List MSent) (h : (Kd.slice 78 kSent).rd w w.heap.size [v] l) (hs : smSentS l) :
    ACalls Tryz.prog 63 #[v] w fun r w' => ∃ fp, Sep w.heap.size w w' [Ck.own (Kd.slice 78 kSent) fp [r] l] := by
  obtain ⟨A, c, rfl, hc1, hc2, ha⟩ := sl_open h
  have hlen := hs.1
  have H := Sep.start w
  refine body_of follows Tryz.func63 rfl rfl _ rfl (by kernel_rfl) (vs ?_)
  refine x_mkZ (d := kSent) H sl40 [.string ⟨#[]⟩, .int .i64 0, .slice none 0 0, .slice none 0 0] zSent rfl (fun w => kSent_zero w) (by omega) (by omega) fun g w1 H => vs ?_
  refine loop_at (σ := Nat × List Nat) (fun x => [(0, .slice A l.length c), (3, .slice (some ⟨g, 0, none⟩) l.length l.length), (4, .int .i64 (x.1 : Int))])
    (fun x w' => x.1 ≤ l.length ∧ Sep w.heap.size w w' [Ck.own (Kd.slice 78 kSent) x.2 [.slice (some ⟨g, 0, none⟩) l.length l.length] (l.take x.1 ++ List.replicate (l.length - x.1) zSent)]) (fun x => l.length - x.1) (0, _) (vs trivial) ⟨Nat.zero_le _, by rw [take_zero_repl]; exact H⟩ ?_
  rintro ⟨k, fp⟩ s w2 ⟨hk, H⟩
  dsimp only at hk H
  refine vs (ways ?_ ?_)
  · refine vh fun hlt => ?_
    have hk2 : k < l.length := by omega
    refine x_elg sl30 rfl (ha.mono H.bel) (by omega) hlt fun ad es hb hr hc => vs ?_
    refine x_lds st134 hc (Kd.len _ hr) (vs ?_)
    refine x_call (toSent_ok w2 _ _ (Kd.le _ hr H.ns) (hs.2 _ (List.getElem_mem _))) fun _ w3 ⟨c2, fp2, e2, S⟩ => ?_
    subst e2
    have H := H.join S
    simp only [List.cons_append, List.nil_append] at H
    refine vs ?_
    refine x_index sl40 rfl (by omega) hlt (vs ?_)
    refine x_stSs st78 H rfl hk2 (Kd.one _ (H.own (.head _))) fun fp3 w4 H => vs ?_
    have H : Sep w.heap.size w w4 [Ck.own (Kd.slice 78 kSent) fp3 [.slice (some ⟨g, 0, none⟩) l.length l.length] (l.take (k + 1) ++ List.replicate (l.length - (k + 1)) zSent)] := by rw [← take_set l zSent k hk2]; exact H
    exact ⟨(k + 1, fp3), i64_eq (by show w64 ((k : Int) + 1) = ((k + 1 : Nat) : Int); unfold w64; omega), ⟨hk2, H⟩, by show l.length - (k + 1) < l.length - k; omega⟩
  · refine vh fun hlt => ?_
    rw [take_all_repl l zSent (by omega)] at H
    exact ⟨_, H⟩
theorem eqSentS_ok (w : World) (v v' : Value) (l : List MSent) (h : (Kd.slice 78 kSent).rd w w.heap.size [v] l) (h' : (Kd.slice 78 kSent).rd w w.heap.size [v'] l) :
    ACalls Tryz.prog 76 #[v, v'] w fun r w' => r = .bool true ∧ Below w.heap.size w w' := by
  obtain ⟨A, c, rfl, hc1, hc2, ha⟩ := sl_open h
  obtain ⟨A', c', rfl, hc1', hc2', ha'⟩ := sl_open h'
  have hlm : l.length ≤ 9223372036854775807 := sl_len h
  refine body_of follows Tryz.func76 rfl rfl _ rfl (by kernel_rfl) (vs ?_)
  refine loop_at (σ := Nat) (fun k => [(0, .slice A l.length c), (1, .slice A' l.length c'), (5, .int .i64 (k : Int))])
    (fun k w' => k ≤ l.length ∧ Sep w.heap.size w w' []) (fun k => l.length - k) 0 (vs trivial) ⟨Nat.zero_le _, Sep.start w⟩ ?_
  rintro k s w2 ⟨hk, H⟩
  refine vs (ways ?_ ?_)
  · refine vh fun hlt => ?_
    have hk2 : k < l.length := by omega
    refine draw_of [(0, true), (1, true), (2, true), (3, true), (4, true), (5, true), (6, true), (7, true), (8, false), (9, true)] w2.heap.size [] fun w3 hh hb3 => vs ?_
    have H := H.go (hb3 _)
    refine q_elg sl40 rfl (ha.mono H.bel) (by omega) hlt fun ad es hb hr hc => vs ?_
    have hlt1 : ad.block < w2.heap.size := by have := H.ns; rw [hh] at this; omega
    refine q_lds st78 hc (Kd.len _ hr) hlt1 (vs ?_)
    refine q_elg sl40 rfl (ha'.mono H.bel) (by omega) hlt fun ad' es' hb' hr' hc' => vs ?_
    have hlt2 : ad'.block < w2.heap.size := by have := H.ns; rw [hh] at this; omega
    refine q_lds st78 hc' (Kd.len _ hr') hlt2 (vs ?_)
    refine x_call (eqSent_ok w3 _ _ _ (Kd.le _ hr H.ns) (Kd.le _ hr' H.ns)) fun _ w4 ⟨e4, hb4⟩ => ?_
    subst e4
    refine vs ?_
    have H4 := H.go hb4
    exact ⟨kept_of hb4 (Nat.le_of_eq (by rw [hh])), k + 1, i64_eq (by unfold w64; omega), ⟨hk2, H4⟩, by omega⟩
  · refine vh fun hlt => ?_
    exact H.bel
theorem szSentS_ok (w : World) (v : Value) (l : List MSent) (left : Int) (h : (Kd.slice 78 kSent).rd w w.heap.size [v] l) (hl0 : 0 ≤ left) (hl1 : left ≤ 1048576) :
    ACalls Tryz.prog 54 #[v, .int .i64 left] w fun r w' => ∃ z : Int, r = .int .i64 z ∧ Below w.heap.size w w' ∧ -1 ≤ z ∧ z ≤ left ∧ (0 ≤ z → smSentS l) := by
  have hlm : l.length ≤ 9223372036854775807 := sl_len h
  obtain ⟨A, c, rfl, hc1, hc2, ha⟩ := sl_open h
  refine body_of follows Tryz.func54 rfl rfl _ rfl (by kernel_rfl) (vs ?_)
  have q : w64 (left - (l.length : Int)) = left - l.length := w64_id (by omega) (by omega)
  refine ve q (ways ?_ ?_)
  · refine vh fun hneg => ?_
    exact ⟨-1, rfl, Below.refl .., by omega, by omega, by omega⟩
  refine vh fun hge => ?_
  have H := Sep.start w
  refine loop_at (σ := Nat × Int) (fun x => [(0, .slice A l.length c), (1, .int .i64 x.2), (5, .int .i64 (x.1 : Int))])
    (fun x w' => x.1 ≤ l.length ∧ 0 ≤ x.2 ∧ x.2 ≤ left ∧ (∀ i (hi : i < l.length), i < x.1 → smSent l[i]) ∧ Sep w.heap.size w w' []) (fun x => l.length - x.1) (0, left - l.length) (vs ?_) ⟨Nat.zero_le _, by show 0 ≤ left - (l.length : Int); omega, by show left - (l.length : Int) ≤ left; omega, fun i hi h => absurd h (Nat.not_lt_zero i), H⟩ ?_
  · exact i64_eq q
  rintro ⟨k, z⟩ s w2 ⟨hk, hz0, hz1, hall, H⟩
  dsimp only at hk hz0 hz1 hall H
  refine vs (ways ?_ ?_)
  · refine vh fun hlt => ?_
    have hk2 : k < l.length := by omega
    refine x_elg sl30 rfl (ha.mono H.bel) (by omega) hlt fun ad es hb hr hc => vs ?_
    refine x_lds st134 hc (Kd.len _ hr) (vs ?_)
    refine x_call (szSent_ok w2 _ _ _ (Kd.le _ hr H.ns) (by omega) (by omega)) fun _ w3 ⟨z2, e2, hb2, a2, b2, s2⟩ => ?_
    subst e2
    have H := H.go hb2
    refine vs (ways ?_ ?_)
    · refine vh fun hneg => ?_
      exact ⟨-1, rfl, H.bel, by omega, by omega, by omega⟩
    · refine vh fun hge2 => ?_
      refine ⟨(k + 1, z2), ⟨rfl, i64_eq (by show w64 ((k : Int) + 1) = ((k + 1 : Nat) : Int); unfold w64; omega)⟩, ⟨hk2, by show 0 ≤ z2; omega, by show z2 ≤ left; omega, fun i hi h => ?_, H⟩, by show l.length - (k + 1) < l.length - k; omega⟩
      by_cases h2 : i = k
      · subst h2; exact s2 (by omega)
      · exact hall i hi (by show i < k; have : i < k + 1 := h; omega)
  · refine vh fun hlt => ?_
    exact ⟨z, rfl, H.bel, by omega, hz1, fun _ => ⟨by omega, fun y hy => by obtain ⟨i, hi, rfl⟩ := List.getElem_of_mem hy; exact hall i hi (by omega)⟩⟩

/-! ### World -/
structure MWorld where
  f_Seed : (List UInt8)
  f_Count : Int
  f_Known : Int
  f_Post : MPost
  f_Reader : MReader
  f_Net : (List MWire)
  f_Sent : (List MSent)
def kWorld : Kd MWorld := (Kd.pair (Kd.slice 5 Kd.u8) (Kd.pair Kd.i64 (Kd.pair Kd.i64 (Kd.pair kPost (Kd.pair kReader (Kd.pair (Kd.slice 88 kWire) (Kd.slice 78 kSent))))))).iso (fun c : MWorld => (c.f_Seed, c.f_Count, c.f_Known, c.f_Post, c.f_Reader, c.f_Net, c.f_Sent))
theorem kWorld_sz : kWorld.sz = 13 := rfl
theorem opens_42 : Opens Tryz.prog 42 kWorld := opens_iso (fun p => ⟨p.1, p.2.1, p.2.2.1, p.2.2.2.1, p.2.2.2.2.1, p.2.2.2.2.2.1, p.2.2.2.2.2.2⟩) (opens_struct Tryz.underlying42 (ofs_cons (opens_slice Tryz.underlying22 (opens_u8 Tryz.underlying5) (by kernel_rfl) (by decide)) rfl (by kernel_rfl) (ofs_cons (opens_i64 Tryz.underlying3) rfl (by kernel_rfl) (ofs_cons (opens_i64 Tryz.underlying3) rfl (by kernel_rfl) (ofs_cons opens_37 rfl (by kernel_rfl) (ofs_cons opens_38 rfl (by kernel_rfl) (ofs_cons (opens_slice Tryz.underlying39 opens_88 (by kernel_rfl) (by decide)) rfl (by kernel_rfl) (ofs_one (opens_slice Tryz.underlying40 opens_78 (by kernel_rfl) (by decide)) rfl (by kernel_rfl)))))))) (by kernel_rfl)) (fun _ => rfl)
theorem opens_32 : Opens Tryz.prog 32 kWorld := opens_iso (fun p => ⟨p.1, p.2.1, p.2.2.1, p.2.2.2.1, p.2.2.2.2.1, p.2.2.2.2.2.1, p.2.2.2.2.2.2⟩) (opens_struct Tryz.underlying32 (ofs_cons (opens_slice Tryz.underlying22 (opens_u8 Tryz.underlying5) (by kernel_rfl) (by decide)) rfl (by kernel_rfl) (ofs_cons (opens_i64 Tryz.underlying3) rfl (by kernel_rfl) (ofs_cons (opens_i64 Tryz.underlying3) rfl (by kernel_rfl) (ofs_cons opens_25 rfl (by kernel_rfl) (ofs_cons opens_28 rfl (by kernel_rfl) (ofs_cons (opens_slice Tryz.underlying29 opens_132 (by kernel_rfl) (by decide)) rfl (by kernel_rfl) (ofs_one (opens_slice Tryz.underlying30 opens_134 (by kernel_rfl) (by decide)) rfl (by kernel_rfl)))))))) (by kernel_rfl)) (fun _ => rfl)
theorem kWorld_open {w : World} {n : Nat} {cs : List Value} {x : MWorld} (h : kWorld.rd w n cs x) : ∃ v0 v3_0 v3_2 v4_0 v4_2 v4_3 v5 v6, cs = [v0, .int .i64 x.f_Count, .int .i64 x.f_Known, v3_0, .int .i64 x.f_Post.f_Time, v3_2, .int .i64 x.f_Post.f_Sure, v4_0, .int .i64 x.f_Reader.f_Epoch, v4_2, v4_3, v5, v6] ∧ ((Kd.slice 5 Kd.u8).rd w n [v0] x.f_Seed) ∧ (-9223372036854775808 ≤ x.f_Count ∧ x.f_Count < 9223372036854775808) ∧ (-9223372036854775808 ≤ x.f_Known ∧ x.f_Known < 9223372036854775808) ∧ (kPost.rd w n [v3_0, .int .i64 x.f_Post.f_Time, v3_2, .int .i64 x.f_Post.f_Sure] x.f_Post) ∧ (kReader.rd w n [v4_0, .int .i64 x.f_Reader.f_Epoch, v4_2, v4_3] x.f_Reader) ∧ ((Kd.slice 88 kWire).rd w n [v5] x.f_Net) ∧ ((Kd.slice 78 kSent).rd w n [v6] x.f_Sent) := by
  obtain ⟨a0, b0, rfl, h0, h⟩ := h
  obtain ⟨a1, b1, rfl, h1, h⟩ := h
  obtain ⟨a2, b2, rfl, h2, h⟩ := h
  obtain ⟨a3, b3, rfl, h3, h⟩ := h
  obtain ⟨a4, b4, rfl, h4, h⟩ := h
  obtain ⟨a5, b5, rfl, h5, h6⟩ := h
  obtain ⟨v0, rfl⟩ := sl_one h0
  obtain ⟨rfl, h1⟩ := h1
  obtain ⟨rfl, h2⟩ := h2
  have h3_ := h3
  obtain ⟨v3_0, v3_2, rfl, _⟩ := kPost_open h3_
  have h4_ := h4
  obtain ⟨v4_0, v4_2, v4_3, rfl, _⟩ := kReader_open h4_
  obtain ⟨v5, rfl⟩ := sl_one h5
  obtain ⟨v6, rfl⟩ := sl_one h6
  exact ⟨v0, v3_0, v3_2, v4_0, v4_2, v4_3, v5, v6, rfl, h0, h1, h2, h3, h4, h5, h6⟩
def zWorld : MWorld := ⟨[], 0, 0, zPost, zReader, [], []⟩
theorem kWorld_zero (w : World) : kWorld.ow w [] [.slice none 0 0, .int .i64 0, .int .i64 0, .slice none 0 0, .int .i64 0, .slice none 0 0, .int .i64 0, .slice none 0 0, .int .i64 0, .slice none 0 0, .slice none 0 0, .slice none 0 0, .slice none 0 0] zWorld := (pair_zero (sl_zero w) (pair_zero (plain_zero pl_i64 w (by decide)) (pair_zero (plain_zero pl_i64 w (by decide)) (pair_zero (kPost_zero w) (pair_zero (kReader_zero w) (pair_zero (sl_zero w) (sl_zero w)))))))
def smWorld (x : MWorld) : Prop := ((x.f_Seed).length ≤ 1048576) ∧ (smPost x.f_Post) ∧ (smReader x.f_Reader) ∧ (smWireS x.f_Net) ∧ (smSentS x.f_Sent)
theorem toWorld_ok (w : World) (cs : List Value) (x : MWorld) (h : kWorld.rd w w.heap.size cs x) (hs : smWorld x) :
    ACalls Tryz.prog 13 #[.agg cs.toArray] w fun r w' => ∃ cs' fp, r = .agg cs'.toArray ∧ Sep w.heap.size w w' [Ck.own kWorld fp cs' x] := by
  unfold smWorld at hs
  obtain ⟨v0, v3_0, v3_2, v4_0, v4_2, v4_3, v5, v6, rfl, h0, h1, h2, h3, h4, h5, h6⟩ := kWorld_open h
  have H := Sep.start w
  refine body_of follows Tryz.func13 rfl rfl _ rfl (by kernel_rfl) (vs ?_)
  refine x_bx H [v0, .int .i64 x.f_Count, .int .i64 x.f_Known, v3_0, .int .i64 x.f_Post.f_Time, v3_2, .int .i64 x.f_Post.f_Sure, v4_0, .int .i64 x.f_Reader.f_Epoch, v4_2, v4_3, v5, v6] fun g1 w1 H => vs ?_
  refine x_al H st42 fun g2 w2 H => vs ?_
  refine x_al H st42 fun g3 w3 H => vs ?_
  refine x_ld H sc22 ?_
  refine vs ?_
  refine x_callf H (toByteS_ok w3 _ _ (H.rd h0) (by have := hs.1; omega)) fun r0 fp0 w4 H => vs ?_
  refine x_st H sc22 (h1 := Kd.one _ (H.own (.head _)) _ (by simp)) fun w5 H => vs ?_
  refine x_ld H sc3 ?_
  refine vs ?_
  refine x_st H sc3 fun w6 H => vs ?_
  refine x_ld H sc3 ?_
  refine vs ?_
  refine x_st H sc3 fun w7 H => vs ?_
  refine x_ldp H [v3_0, .int .i64 x.f_Post.f_Time, v3_2, .int .i64 x.f_Post.f_Sure] st25 (vs ?_)
  refine x_call (toPost_ok w7 _ _ (H.rd h3) hs.2.1) fun _ w8 ⟨c3, fp3, e3, S⟩ => ?_
  subst e3
  have H := H.join S
  simp only [List.cons_append, List.nil_append] at H
  obtain ⟨r3_0, r3_2, rfl, _⟩ := kPost_open (H.own (.head _))
  refine vs ?_
  refine x_sta H st37 (h1 := Kd.one _ (H.own (.head _))) fun w9 H => vs ?_
  refine x_ldp H [v4_0, .int .i64 x.f_Reader.f_Epoch, v4_2, v4_3] st28 (vs ?_)
  refine x_call (toReader_ok w9 _ _ (H.rd h4) hs.2.2.1) fun _ w10 ⟨c4, fp4, e4, S⟩ => ?_
  subst e4
  have H := H.join S
  simp only [List.cons_append, List.nil_append] at H
  obtain ⟨r4_0, r4_2, r4_3, rfl, _⟩ := kReader_open (H.own (.head _))
  refine vs ?_
  refine x_sta H st38 (h1 := Kd.one _ (H.own (.head _))) fun w11 H => vs ?_
  refine x_ld H sc29 ?_
  refine vs ?_
  refine x_callf H (toWireS_ok w11 _ _ (H.rd h5) (hs.2.2.2.1)) fun r5 fp5 w12 H => vs ?_
  refine x_st H sc39 (h1 := Kd.one _ (H.own (.head _)) _ (by simp)) fun w13 H => vs ?_
  refine x_ld H sc30 ?_
  refine vs ?_
  refine x_callf H (toSentS_ok w13 _ _ (H.rd h6) (hs.2.2.2.2)) fun r6 fp6 w14 H => vs ?_
  refine x_st H sc40 (h1 := Kd.one _ (H.own (.head _)) _ (by simp)) fun w15 H => vs ?_
  have H := H.front (c := Ck.own (Kd.slice 78 kSent) fp6 [r6] x.f_Sent)
  have H := H.front (c := Ck.own (Kd.slice 88 kWire) fp5 [r5] x.f_Net)
  have H := H.pair
  have H := H.front (c := Ck.own kReader fp4 [r4_0, .int .i64 x.f_Reader.f_Epoch, r4_2, r4_3] x.f_Reader)
  have H := H.pair
  have H := H.front (c := Ck.own kPost fp3 [r3_0, .int .i64 x.f_Post.f_Time, r3_2, .int .i64 x.f_Post.f_Sure] x.f_Post)
  have H := H.pair
  have H := H.plain pl_i64 (x := x.f_Known) h2
  have H := H.pair
  have H := H.plain pl_i64 (x := x.f_Count) h1
  have H := H.pair
  have H := H.front (c := Ck.own (Kd.slice 5 Kd.u8) fp0 [r0] x.f_Seed)
  have H := H.pair
  have H := Sep.iso (y := x) (f := fun c : MWorld => (c.f_Seed, c.f_Count, c.f_Known, c.f_Post, c.f_Reader, c.f_Net, c.f_Sent)) H
  refine x_lda H st42 ?_
  refine vs ?_
  refine x_sta H st42 (h1 := Kd.one _ (H.own (.head _))) fun w16 H => vs ?_
  exact ⟨_, _, rfl, res_cell H st42, _, _, rfl, H.head⟩
theorem eqWorld_ok (w : World) (cs ds : List Value) (x : MWorld) (h : kWorld.rd w w.heap.size cs x) (h' : kWorld.rd w w.heap.size ds x) :
    ACalls Tryz.prog 15 #[.agg cs.toArray, .agg ds.toArray] w fun r w' => r = .bool true ∧ Below w.heap.size w w' := by
  obtain ⟨v0, v3_0, v3_2, v4_0, v4_2, v4_3, v5, v6, rfl, h0, h1, h2, h3, h4, h5, h6⟩ := kWorld_open h
  obtain ⟨u0, u3_0, u3_2, u4_0, u4_2, u4_3, u5, u6, rfl, k0, k1, k2, k3, k4, k5, k6⟩ := kWorld_open h'
  have H := Sep.start w
  refine body_of follows Tryz.func15 rfl rfl _ rfl (by kernel_rfl) (vs ?_)
  refine x_bx H [v0, .int .i64 x.f_Count, .int .i64 x.f_Known, v3_0, .int .i64 x.f_Post.f_Time, v3_2, .int .i64 x.f_Post.f_Sure, v4_0, .int .i64 x.f_Reader.f_Epoch, v4_2, v4_3, v5, v6] fun g1 w1 H => vs ?_
  refine x_bx H [u0, .int .i64 x.f_Count, .int .i64 x.f_Known, u3_0, .int .i64 x.f_Post.f_Time, u3_2, .int .i64 x.f_Post.f_Sure, u4_0, .int .i64 x.f_Reader.f_Epoch, u4_2, u4_3, u5, u6] fun g2 w2 H => vs ?_
  refine x_ld H sc22 ?_
  refine vs ?_
  refine x_ld H sc22 ?_
  refine vs ?_
  refine x_callb H (eqByteS_ok w2 _ _ _ _ (H.rd h0) (H.rd k0)) fun w3 H => vs ?_
  refine x_ld H sc3 ?_
  refine vs ?_
  refine x_ld H sc3 ?_
  refine vs ?_
  refine x_ld H sc3 ?_
  refine vs ?_
  refine x_ld H sc3 ?_
  refine vs ?_
  refine x_ldp H [v3_0, .int .i64 x.f_Post.f_Time, v3_2, .int .i64 x.f_Post.f_Sure] st37 (vs ?_)
  refine x_ldp H [u3_0, .int .i64 x.f_Post.f_Time, u3_2, .int .i64 x.f_Post.f_Sure] st37 (vs ?_)
  refine x_callb H (eqPost_ok w3 _ _ _ (H.rd h3) (H.rd k3)) fun w4 H => vs ?_
  refine x_ldp H [v4_0, .int .i64 x.f_Reader.f_Epoch, v4_2, v4_3] st38 (vs ?_)
  refine x_ldp H [u4_0, .int .i64 x.f_Reader.f_Epoch, u4_2, u4_3] st38 (vs ?_)
  refine x_callb H (eqReader_ok w4 _ _ _ (H.rd h4) (H.rd k4)) fun w5 H => vs ?_
  refine x_ld H sc39 ?_
  refine vs ?_
  refine x_ld H sc39 ?_
  refine vs ?_
  refine x_callb H (eqWireS_ok w5 _ _ _ (H.rd h5) (H.rd k5)) fun w6 H => vs ?_
  refine x_ld H sc40 ?_
  refine vs ?_
  refine x_ld H sc40 ?_
  refine vs ?_
  refine x_callb H (eqSentS_ok w6 _ _ _ (H.rd h6) (H.rd k6)) fun w7 H => vs ?_
  exact H.bel
theorem szWorld_ok (w : World) (cs : List Value) (x : MWorld) (left : Int) (h : kWorld.rd w w.heap.size cs x) (hl0 : 0 ≤ left) (hl1 : left ≤ 1048576) :
    ACalls Tryz.prog 11 #[.agg cs.toArray, .int .i64 left] w fun r w' => ∃ z : Int, r = .int .i64 z ∧ Below w.heap.size w w' ∧ -1 ≤ z ∧ z ≤ left ∧ (0 ≤ z → smWorld x) := by
  obtain ⟨v0, v3_0, v3_2, v4_0, v4_2, v4_3, v5, v6, rfl, h0, h1, h2, h3, h4, h5, h6⟩ := kWorld_open h
  have H := Sep.start w
  refine body_of follows Tryz.func11 rfl rfl _ rfl (by kernel_rfl) (vs ?_)
  refine x_bx H [v0, .int .i64 x.f_Count, .int .i64 x.f_Known, v3_0, .int .i64 x.f_Post.f_Time, v3_2, .int .i64 x.f_Post.f_Sure, v4_0, .int .i64 x.f_Reader.f_Epoch, v4_2, v4_3, v5, v6] fun g1 w1 H => vs ?_
  refine x_ld H sc22 ?_
  refine vs ?_
  refine x_call (szByteS_ok w1 _ _ _ (H.rd h0) (by omega) (by omega)) fun _ w2 ⟨z0, e0, hb0, a0, b0, s0⟩ => ?_
  subst e0
  have H := H.go hb0
  refine vs (ways ?_ ?_)
  · refine vh fun hneg => ?_
    exact ⟨-1, rfl, H.bel, by omega, by omega, by omega⟩
  refine vh fun hge0 => ?_
  refine x_ldp H [v3_0, .int .i64 x.f_Post.f_Time, v3_2, .int .i64 x.f_Post.f_Sure] st25 (vs ?_)
  refine x_call (szPost_ok w2 _ _ _ (H.rd h3) (by omega) (by omega)) fun _ w3 ⟨z1, e1, hb1, a1, b1, s1⟩ => ?_
  subst e1
  have H := H.go hb1
  refine vs (ways ?_ ?_)
  · refine vh fun hneg => ?_
    exact ⟨-1, rfl, H.bel, by omega, by omega, by omega⟩
  refine vh fun hge1 => ?_
  refine x_ldp H [v4_0, .int .i64 x.f_Reader.f_Epoch, v4_2, v4_3] st28 (vs ?_)
  refine x_call (szReader_ok w3 _ _ _ (H.rd h4) (by omega) (by omega)) fun _ w4 ⟨z2, e2, hb2, a2, b2, s2⟩ => ?_
  subst e2
  have H := H.go hb2
  refine vs (ways ?_ ?_)
  · refine vh fun hneg => ?_
    exact ⟨-1, rfl, H.bel, by omega, by omega, by omega⟩
  refine vh fun hge2 => ?_
  refine x_ld H sc29 ?_
  refine vs ?_
  refine x_call (szWireS_ok w4 _ _ _ (H.rd h5) (by omega) (by omega)) fun _ w5 ⟨z3, e3, hb3, a3, b3, s3⟩ => ?_
  subst e3
  have H := H.go hb3
  refine vs (ways ?_ ?_)
  · refine vh fun hneg => ?_
    exact ⟨-1, rfl, H.bel, by omega, by omega, by omega⟩
  refine vh fun hge3 => ?_
  refine x_ld H sc30 ?_
  refine vs ?_
  refine x_call (szSentS_ok w5 _ _ _ (H.rd h6) (by omega) (by omega)) fun _ w6 ⟨z4, e4, hb4, a4, b4, s4⟩ => ?_
  subst e4
  have H := H.go hb4
  refine vs (ways ?_ ?_)
  · refine vh fun hneg => ?_
    exact ⟨-1, rfl, H.bel, by omega, by omega, by omega⟩
  refine vh fun hge4 => ?_
  exact ⟨z4, rfl, H.bel, by omega, by omega, fun _ => ⟨s0 (by omega), s1 (by omega), s2 (by omega), s3 (by omega), s4 (by omega)⟩⟩
end Go.Proofs.YtfhbglaigjekpaaGreat.V
