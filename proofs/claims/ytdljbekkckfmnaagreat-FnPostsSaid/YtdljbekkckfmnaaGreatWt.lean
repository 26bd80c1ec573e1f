/- Types of the program as data, and the laws helpers on them, walked. Laid by a program. -/
import Derived.Test.YtdljbekkckfmnaaGreatWa
import Derived.Test.YtdljbekkckfmnaaGreatVo
namespace Go.Proofs.YtdljbekkckfmnaaGreat.V
open Go Go.RowKit
set_option maxRecDepth 100000
set_option maxHeartbeats 4000000
set_option linter.unusedSimpArgs false
set_option linter.unusedVariables false
set_option pp.deepTerms false
set_option pp.deepTerms.threshold 3

/-! ### lists of ByteS -/
def smByteSS (l : List (List UInt8)) : Prop := l.length ≤ 1048576 ∧ ∀ y ∈ l, (y).length ≤ 1048576
theorem eqByteSS_ok (w : World) (v v' : Value) (l : List (List UInt8)) (h : (Kd.slice 22 (Kd.slice 5 Kd.u8)).rd w w.heap.size [v] l) (h' : (Kd.slice 22 (Kd.slice 5 Kd.u8)).rd w w.heap.size [v'] l) :
    ACalls Tryz.prog 47 #[v, v'] w fun r w' => r = .bool true ∧ Below w.heap.size w w' := by
  obtain ⟨A, c, rfl, hc1, hc2, ha⟩ := sl_open h
  obtain ⟨A', c', rfl, hc1', hc2', ha'⟩ := sl_open h'
  have hlm : l.length ≤ 9223372036854775807 := sl_len h
  refine body_of follows Tryz.func47 rfl rfl _ rfl (by kernel_rfl) (vs ?_)
  refine loop_at (σ := Nat) (fun k => [(0, .slice A l.length c), (1, .slice A' l.length c'), (5, .int .i64 (k : Int))])
    (fun k w' => k ≤ l.length ∧ Sep w.heap.size w w' []) (fun k => l.length - k) 0 (vs trivial) ⟨Nat.zero_le _, Sep.start w⟩ ?_
  rintro k s w2 ⟨hk, H⟩
  refine vs (ways ?_ ?_)
  · refine vh fun hlt => ?_
    have hk2 : k < l.length := by omega
    refine draw_of [(0, true), (1, true), (2, true), (3, true), (4, true), (5, true), (6, true), (7, true), (8, false), (9, true)] w2.heap.size [] fun w3 hh hb3 => vs ?_
    have H := H.go (hb3 _)
    refine q_elg sl38 rfl (ha.mono H.bel) (by omega) hlt fun ad es hb hr hc => vs ?_
    obtain ⟨u, rfl⟩ := sl_one hr
    have hlt1 : ad.block < w2.heap.size := by have := H.ns; rw [hh] at this; omega
    refine q_ld1 sc22 hc rfl hlt1 (vs ?_)
    refine q_elg sl38 rfl (ha'.mono H.bel) (by omega) hlt fun ad' es' hb' hr' hc' => vs ?_
    obtain ⟨u', rfl⟩ := sl_one hr'
    have hlt2 : ad'.block < w2.heap.size := by have := H.ns; rw [hh] at this; omega
    refine q_ld1 sc22 hc' rfl hlt2 (vs ?_)
    refine x_call (eqByteS_ok w3 _ _ _ _ (Kd.le _ hr H.ns) (Kd.le _ hr' H.ns)) fun _ w4 ⟨e4, hb4⟩ => ?_
    subst e4
    refine vs ?_
    have H4 := H.go hb4
    exact ⟨kept_of hb4 (Nat.le_of_eq (by rw [hh])), k + 1, i64_eq (by unfold w64; omega), ⟨hk2, H4⟩, by omega⟩
  · refine vh fun hlt => ?_
    exact H.bel

/-! ### Item -/
structure MItem where
  f_Route : (List UInt8)
  f_Topic : Int
  f_Due : Int
  f_Bytes : (List UInt8)
def kItem : Kd MItem := (Kd.pair Kd.str (Kd.pair Kd.i64 (Kd.pair Kd.i64 (Kd.slice 5 Kd.u8)))).iso (fun c : MItem => (c.f_Route, c.f_Topic, c.f_Due, c.f_Bytes))
theorem kItem_sz : kItem.sz = 4 := rfl
theorem opens_32 : Opens Tryz.prog 32 kItem := opens_iso (fun p => ⟨p.1, p.2.1, p.2.2.1, p.2.2.2⟩) (opens_struct Tryz.underlying32 (ofs_cons (opens_str Tryz.underlying9) rfl (by kernel_rfl) (ofs_cons (opens_i64 Tryz.underlying3) rfl (by kernel_rfl) (ofs_cons (opens_i64 Tryz.underlying3) rfl (by kernel_rfl) (ofs_one (opens_slice Tryz.underlying22 (opens_u8 Tryz.underlying5) (by kernel_rfl) (by decide)) rfl (by kernel_rfl))))) (by kernel_rfl)) (fun _ => rfl)
theorem opens_133 : Opens Tryz.prog 133 kItem := opens_iso (fun p => ⟨p.1, p.2.1, p.2.2.1, p.2.2.2⟩) (opens_struct Tryz.underlying133 (ofs_cons (opens_str Tryz.underlying9) rfl (by kernel_rfl) (ofs_cons (opens_i64 Tryz.underlying3) rfl (by kernel_rfl) (ofs_cons (opens_i64 Tryz.underlying3) rfl (by kernel_rfl) (ofs_one (opens_slice Tryz.underlying22 (opens_u8 Tryz.underlying5) (by kernel_rfl) (by decide)) rfl (by kernel_rfl))))) (by kernel_rfl)) (fun _ => rfl)
theorem kItem_open {w : World} {n : Nat} {cs : List Value} {x : MItem} (h : kItem.rd w n cs x) : ∃ v3, cs = [.string ⟨(x.f_Route).toArray⟩, .int .i64 x.f_Topic, .int .i64 x.f_Due, v3] ∧ ((x.f_Route).length ≤ 9223372036854775807) ∧ (-9223372036854775808 ≤ x.f_Topic ∧ x.f_Topic < 9223372036854775808) ∧ (-9223372036854775808 ≤ x.f_Due ∧ x.f_Due < 9223372036854775808) ∧ ((Kd.slice 5 Kd.u8).rd w n [v3] x.f_Bytes) := by
  obtain ⟨a0, b0, rfl, h0, h⟩ := h
  obtain ⟨a1, b1, rfl, h1, h⟩ := h
  obtain ⟨a2, b2, rfl, h2, h3⟩ := h
  obtain ⟨rfl, h0⟩ := h0
  obtain ⟨rfl, h1⟩ := h1
  obtain ⟨rfl, h2⟩ := h2
  obtain ⟨v3, rfl⟩ := sl_one h3
  exact ⟨v3, rfl, h0, h1, h2, h3⟩
def zItem : MItem := ⟨[], 0, 0, []⟩
theorem kItem_zero (w : World) : kItem.ow w [] [.string ⟨#[]⟩, .int .i64 0, .int .i64 0, .slice none 0 0] zItem := (pair_zero (plain_zero pl_str w (by decide)) (pair_zero (plain_zero pl_i64 w (by decide)) (pair_zero (plain_zero pl_i64 w (by decide)) (sl_zero w))))
def smItem (x : MItem) : Prop := ((x.f_Route).length ≤ 1048576) ∧ ((x.f_Bytes).length ≤ 1048576)
theorem toItem_ok (w : World) (cs : List Value) (x : MItem) (h : kItem.rd w w.heap.size cs x) (hs : smItem x) :
    ACalls Tryz.prog 142 #[.agg cs.toArray] w fun r w' => ∃ cs' fp, r = .agg cs'.toArray ∧ Sep w.heap.size w w' [Ck.own kItem fp cs' x] := by
  unfold smItem at hs
  obtain ⟨v3, rfl, h0, h1, h2, h3⟩ := kItem_open h
  have H := Sep.start w
  refine body_of follows Tryz.func142 rfl rfl _ rfl (by kernel_rfl) (vs ?_)
  refine x_bx H [.string ⟨(x.f_Route).toArray⟩, .int .i64 x.f_Topic, .int .i64 x.f_Due, v3] fun g1 w1 H => vs ?_
  refine x_al H st32 fun g2 w2 H => vs ?_
  refine x_al H st32 fun g3 w3 H => vs ?_
  refine x_ld H sc9 ?_
  refine vs ?_
  refine x_st H sc9 fun w4 H => vs ?_
  refine x_ld H sc3 ?_
  refine vs ?_
  refine x_st H sc3 fun w5 H => vs ?_
  refine x_ld H sc3 ?_
  refine vs ?_
  refine x_st H sc3 fun w6 H => vs ?_
  refine x_ld H sc22 ?_
  refine vs ?_
  refine x_callf H (toByteS_ok w6 _ _ (H.rd h3) (by have := hs.2; omega)) fun r3 fp3 w7 H => vs ?_
  refine x_st H sc22 (h1 := Kd.one _ (H.own (.head _)) _ (by simp)) fun w8 H => vs ?_
  have H := H.front (c := Ck.own (Kd.slice 5 Kd.u8) fp3 [r3] x.f_Bytes)
  have H := H.plain pl_i64 (x := x.f_Due) h2
  have H := H.pair
  have H := H.plain pl_i64 (x := x.f_Topic) h1
  have H := H.pair
  have H := H.plain pl_str (x := x.f_Route) h0
  have H := H.pair
  have H := Sep.iso (y := x) (f := fun c : MItem => (c.f_Route, c.f_Topic, c.f_Due, c.f_Bytes)) H
  refine x_lda H st32 ?_
  refine vs ?_
  refine x_sta H st32 (h1 := Kd.one _ (H.own (.head _))) fun w9 H => vs ?_
  exact ⟨_, _, rfl, res_cell H st32, _, _, rfl, H.head⟩
theorem eqItem_ok (w : World) (cs ds : List Value) (x : MItem) (h : kItem.rd w w.heap.size cs x) (h' : kItem.rd w w.heap.size ds x) :
    ACalls Tryz.prog 143 #[.agg cs.toArray, .agg ds.toArray] w fun r w' => r = .bool true ∧ Below w.heap.size w w' := by
  obtain ⟨v3, rfl, h0, h1, h2, h3⟩ := kItem_open h
  obtain ⟨u3, rfl, k0, k1, k2, k3⟩ := kItem_open h'
  have H := Sep.start w
  refine body_of follows Tryz.func143 rfl rfl _ rfl (by kernel_rfl) (vs ?_)
  refine x_bx H [.string ⟨(x.f_Route).toArray⟩, .int .i64 x.f_Topic, .int .i64 x.f_Due, v3] fun g1 w1 H => vs ?_
  refine x_bx H [.string ⟨(x.f_Route).toArray⟩, .int .i64 x.f_Topic, .int .i64 x.f_Due, u3] fun g2 w2 H => vs ?_
  refine x_ld H sc9 ?_
  refine vs ?_
  refine x_ld H sc9 ?_
  refine vs ?_
  refine x_ld H sc3 ?_
  refine vs ?_
  refine x_ld H sc3 ?_
  refine vs ?_
  refine x_ld H sc3 ?_
  refine vs ?_
  refine x_ld H sc3 ?_
  refine vs ?_
  refine x_ld H sc22 ?_
  refine vs ?_
  refine x_ld H sc22 ?_
  refine vs ?_
  refine x_callb H (eqByteS_ok w2 _ _ _ _ (H.rd h3) (H.rd k3)) fun w3 H => vs ?_
  exact H.bel
theorem szItem_ok (w : World) (cs : List Value) (x : MItem) (left : Int) (h : kItem.rd w w.heap.size cs x) (hl0 : 0 ≤ left) (hl1 : left ≤ 1048576) :
    ACalls Tryz.prog 141 #[.agg cs.toArray, .int .i64 left] w fun r w' => ∃ z : Int, r = .int .i64 z ∧ Below w.heap.size w w' ∧ -1 ≤ z ∧ z ≤ left ∧ (0 ≤ z → smItem x) := by
  obtain ⟨v3, rfl, h0, h1, h2, h3⟩ := kItem_open h
  have H := Sep.start w
  refine body_of follows Tryz.func141 rfl rfl _ rfl (by kernel_rfl) (vs ?_)
  refine x_bx H [.string ⟨(x.f_Route).toArray⟩, .int .i64 x.f_Topic, .int .i64 x.f_Due, v3] fun g1 w1 H => vs ?_
  refine x_ld H sc9 ?_
  refine vs ?_
  have q0 : w64 (left - (x.f_Route.length : Int)) = left - x.f_Route.length := w64_id (by omega) (by omega)
  generalize hz0 : left - (x.f_Route.length : Int) = z0 at q0
  refine ve q0 ?_
  have s0 : 0 ≤ z0 → x.f_Route.length ≤ 1048576 := by omega
  refine ways ?_ ?_
  · refine vh fun hneg => ?_
    exact ⟨-1, rfl, H.bel, by omega, by omega, by omega⟩
  refine vh fun hge0 => ?_
  refine x_ld H sc22 ?_
  refine vs ?_
  refine x_call (szByteS_ok w1 _ _ _ (H.rd h3) (by omega) (by omega)) fun _ w2 ⟨z1, e1, hb1, a1, b1, s1⟩ => ?_
  subst e1
  have H := H.go hb1
  refine vs (ways ?_ ?_)
  · refine vh fun hneg => ?_
    exact ⟨-1, rfl, H.bel, by omega, by omega, by omega⟩
  refine vh fun hge1 => ?_
  exact ⟨z1, rfl, H.bel, by omega, by omega, fun _ => ⟨s0 (by omega), s1 (by omega)⟩⟩

/-! ### lists of Item -/
def smItemS (l : List MItem) : Prop := l.length ≤ 1048576 ∧ ∀ y ∈ l, smItem y
theorem toItemS_ok (w : World) (v : Value) (l : List MItem) (h : (Kd.slice 32 kItem).rd w w.heap.size [v] l) (hs : smItemS l) :
    ACalls Tryz.prog 91 #[v] w fun r w' => ∃ fp, Sep w.heap.size w w' [Ck.own (Kd.slice 32 kItem) fp [r] l] := by
  obtain ⟨A, c, rfl, hc1, hc2, ha⟩ := sl_open h
  have hlen := hs.1
  have H := Sep.start w
  refine body_of follows Tryz.func91 rfl rfl _ rfl (by kernel_rfl) (vs ?_)
  refine x_mkZ (d := kItem) H sl24 [.string ⟨#[]⟩, .int .i64 0, .int .i64 0, .slice none 0 0] zItem rfl (fun w => kItem_zero w) (by omega) (by omega) fun g w1 H => vs ?_
  refine loop_at (σ := Nat × List Nat) (fun x => [(0, .slice A l.length c), (3, .slice (some ⟨g, 0, none⟩) l.length l.length), (4, .int .i64 (x.1 : Int))])
    (fun x w' => x.1 ≤ l.length ∧ Sep w.heap.size w w' [Ck.own (Kd.slice 32 kItem) x.2 [.slice (some ⟨g, 0, none⟩) l.length l.length] (l.take x.1 ++ List.replicate (l.length - x.1) zItem)]) (fun x => l.length - x.1) (0, _) (vs trivial) ⟨Nat.zero_le _, by rw [take_zero_repl]; exact H⟩ ?_
  rintro ⟨k, fp⟩ s w2 ⟨hk, H⟩
  dsimp only at hk H
  refine vs (ways ?_ ?_)
  · refine vh fun hlt => ?_
    have hk2 : k < l.length := by omega
    refine x_elg sl54 rfl (ha.mono H.bel) (by omega) hlt fun ad es hb hr hc => vs ?_
    refine x_lds st133 hc (Kd.len _ hr) (vs ?_)
    refine x_call (toItem_ok w2 _ _ (Kd.le _ hr H.ns) (hs.2 _ (List.getElem_mem _))) fun _ w3 ⟨c2, fp2, e2, S⟩ => ?_
    subst e2
    have H := H.join S
    simp only [List.cons_append, List.nil_append] at H
    refine vs ?_
    refine x_index sl24 rfl (by omega) hlt (vs ?_)
    refine x_stSs st32 H rfl hk2 (Kd.one _ (H.own (.head _))) fun fp3 w4 H => vs ?_
    have H : Sep w.heap.size w w4 [Ck.own (Kd.slice 32 kItem) fp3 [.slice (some ⟨g, 0, none⟩) l.length l.length] (l.take (k + 1) ++ List.replicate (l.length - (k + 1)) zItem)] := by rw [← take_set l zItem k hk2]; exact H
    exact ⟨(k + 1, fp3), i64_eq (by show w64 ((k : Int) + 1) = ((k + 1 : Nat) : Int); unfold w64; omega), ⟨hk2, H⟩, by show l.length - (k + 1) < l.length - k; omega⟩
  · refine vh fun hlt => ?_
    rw [take_all_repl l zItem (by omega)] at H
    exact ⟨_, H⟩
theorem eqItemS_ok (w : World) (v v' : Value) (l : List MItem) (h : (Kd.slice 32 kItem).rd w w.heap.size [v] l) (h' : (Kd.slice 32 kItem).rd w w.heap.size [v'] l) :
    ACalls Tryz.prog 93 #[v, v'] w fun r w' => r = .bool true ∧ Below w.heap.size w w' := by
  obtain ⟨A, c, rfl, hc1, hc2, ha⟩ := sl_open h
  obtain ⟨A', c', rfl, hc1', hc2', ha'⟩ := sl_open h'
  have hlm : l.length ≤ 9223372036854775807 := sl_len h
  refine body_of follows Tryz.func93 rfl rfl _ rfl (by kernel_rfl) (vs ?_)
  refine loop_at (σ := Nat) (fun k => [(0, .slice A l.length c), (1, .slice A' l.length c'), (5, .int .i64 (k : Int))])
    (fun k w' => k ≤ l.length ∧ Sep w.heap.size w w' []) (fun k => l.length - k) 0 (vs trivial) ⟨Nat.zero_le _, Sep.start w⟩ ?_
  rintro k s w2 ⟨hk, H⟩
  refine vs (ways ?_ ?_)
  · refine vh fun hlt => ?_
    have hk2 : k < l.length := by omega
    refine draw_of [(0, true), (1, true), (2, true), (3, true), (4, true), (5, true), (6, true), (7, true), (8, false), (9, true)] w2.heap.size [] fun w3 hh hb3 => vs ?_
    have H := H.go (hb3 _)
    refine q_elg sl24 rfl (ha.mono H.bel) (by omega) hlt fun ad es hb hr hc => vs ?_
    have hlt1 : ad.block < w2.heap.size := by have := H.ns; rw [hh] at this; omega
    refine q_lds st32 hc (Kd.len _ hr) hlt1 (vs ?_)
    refine q_elg sl24 rfl (ha'.mono H.bel) (by omega) hlt fun ad' es' hb' hr' hc' => vs ?_
    have hlt2 : ad'.block < w2.heap.size := by have := H.ns; rw [hh] at this; omega
    refine q_lds st32 hc' (Kd.len _ hr') hlt2 (vs ?_)
    refine x_call (eqItem_ok w3 _ _ _ (Kd.le _ hr H.ns) (Kd.le _ hr' H.ns)) fun _ w4 ⟨e4, hb4⟩ => ?_
    subst e4
    refine vs ?_
    have H4 := H.go hb4
    exact ⟨kept_of hb4 (Nat.le_of_eq (by rw [hh])), k + 1, i64_eq (by unfold w64; omega), ⟨hk2, H4⟩, by omega⟩
  · refine vh fun hlt => ?_
    exact H.bel
theorem szItemS_ok (w : World) (v : Value) (l : List MItem) (left : Int) (h : (Kd.slice 32 kItem).rd w w.heap.size [v] l) (hl0 : 0 ≤ left) (hl1 : left ≤ 1048576) :
    ACalls Tryz.prog 89 #[v, .int .i64 left] w fun r w' => ∃ z : Int, r = .int .i64 z ∧ Below w.heap.size w w' ∧ -1 ≤ z ∧ z ≤ left ∧ (0 ≤ z → smItemS l) := by
  have hlm : l.length ≤ 9223372036854775807 := sl_len h
  obtain ⟨A, c, rfl, hc1, hc2, ha⟩ := sl_open h
  refine body_of follows Tryz.func89 rfl rfl _ rfl (by kernel_rfl) (vs ?_)
  have q : w64 (left - (l.length : Int)) = left - l.length := w64_id (by omega) (by omega)
  refine ve q (ways ?_ ?_)
  · refine vh fun hneg => ?_
    exact ⟨-1, rfl, Below.refl .., by omega, by omega, by omega⟩
  refine vh fun hge => ?_
  have H := Sep.start w
  refine loop_at (σ := Nat × Int) (fun x => [(0, .slice A l.length c), (1, .int .i64 x.2), (5, .int .i64 (x.1 : Int))])
    (fun x w' => x.1 ≤ l.length ∧ 0 ≤ x.2 ∧ x.2 ≤ left ∧ (∀ i (hi : i < l.length), i < x.1 → smItem l[i]) ∧ Sep w.heap.size w w' []) (fun x => l.length - x.1) (0, left - l.length) (vs ?_) ⟨Nat.zero_le _, by show 0 ≤ left - (l.length : Int); omega, by show left - (l.length : Int) ≤ left; omega, fun i hi h => absurd h (Nat.not_lt_zero i), H⟩ ?_
  · exact i64_eq q
  rintro ⟨k, z⟩ s w2 ⟨hk, hz0, hz1, hall, H⟩
  dsimp only at hk hz0 hz1 hall H
  refine vs (ways ?_ ?_)
  · refine vh fun hlt => ?_
    have hk2 : k < l.length := by omega
    refine x_elg sl54 rfl (ha.mono H.bel) (by omega) hlt fun ad es hb hr hc => vs ?_
    refine x_lds st133 hc (Kd.len _ hr) (vs ?_)
    refine x_call (szItem_ok w2 _ _ _ (Kd.le _ hr H.ns) (by omega) (by omega)) fun _ w3 ⟨z2, e2, hb2, a2, b2, s2⟩ => ?_
    subst e2
    have H := H.go hb2
    refine vs (ways ?_ ?_)
    · refine vh fun hneg => ?_
      exact ⟨-1, rfl, H.bel, by omega, by omega, by omega⟩
    · refine vh fun hge2 => ?_
      refine ⟨(k + 1, z2), ⟨rfl, i64_eq (by show w64 ((k : Int) + 1) = ((k + 1 : Nat) : Int); unfold w64; omega)⟩, ⟨hk2, by show 0 ≤ z2; omega, by show z2 ≤ left; omega, fun i hi h => ?_, H⟩, by show l.length - (k + 1) < l.length - k; omega⟩
      by_cases h2 : i = k
      · subst h2; exact s2 (by omega)
      · exact hall i hi (by show i < k; have : i < k + 1 := h; omega)
  · refine vh fun hlt => ?_
    exact ⟨z, rfl, H.bel, by omega, hz1, fun _ => ⟨by omega, fun y hy => by obtain ⟨i, hi, rfl⟩ := List.getElem_of_mem hy; exact hall i hi (by omega)⟩⟩

/-! ### Line -/
structure MLine where
  f_Kind : Int
  f_Route : (List UInt8)
  f_Topic : Int
  f_Due : Int
  f_Bytes : (List UInt8)
def kLine : Kd MLine := (Kd.pair Kd.i64 (Kd.pair Kd.str (Kd.pair Kd.i64 (Kd.pair Kd.i64 (Kd.slice 5 Kd.u8))))).iso (fun c : MLine => (c.f_Kind, c.f_Route, c.f_Topic, c.f_Due, c.f_Bytes))
theorem kLine_sz : kLine.sz = 5 := rfl
theorem opens_73 : Opens Tryz.prog 73 kLine := opens_iso (fun p => ⟨p.1, p.2.1, p.2.2.1, p.2.2.2.1, p.2.2.2.2⟩) (opens_struct Tryz.underlying73 (ofs_cons (opens_i64 Tryz.underlying3) rfl (by kernel_rfl) (ofs_cons (opens_str Tryz.underlying9) rfl (by kernel_rfl) (ofs_cons (opens_i64 Tryz.underlying3) rfl (by kernel_rfl) (ofs_cons (opens_i64 Tryz.underlying3) rfl (by kernel_rfl) (ofs_one (opens_slice Tryz.underlying22 (opens_u8 Tryz.underlying5) (by kernel_rfl) (by decide)) rfl (by kernel_rfl)))))) (by kernel_rfl)) (fun _ => rfl)
theorem kLine_open {w : World} {n : Nat} {cs : List Value} {x : MLine} (h : kLine.rd w n cs x) : ∃ v4, cs = [.int .i64 x.f_Kind, .string ⟨(x.f_Route).toArray⟩, .int .i64 x.f_Topic, .int .i64 x.f_Due, v4] ∧ (-9223372036854775808 ≤ x.f_Kind ∧ x.f_Kind < 9223372036854775808) ∧ ((x.f_Route).length ≤ 9223372036854775807) ∧ (-9223372036854775808 ≤ x.f_Topic ∧ x.f_Topic < 9223372036854775808) ∧ (-9223372036854775808 ≤ x.f_Due ∧ x.f_Due < 9223372036854775808) ∧ ((Kd.slice 5 Kd.u8).rd w n [v4] x.f_Bytes) := by
  obtain ⟨a0, b0, rfl, h0, h⟩ := h
  obtain ⟨a1, b1, rfl, h1, h⟩ := h
  obtain ⟨a2, b2, rfl, h2, h⟩ := h
  obtain ⟨a3, b3, rfl, h3, h4⟩ := h
  obtain ⟨rfl, h0⟩ := h0
  obtain ⟨rfl, h1⟩ := h1
  obtain ⟨rfl, h2⟩ := h2
  obtain ⟨rfl, h3⟩ := h3
  obtain ⟨v4, rfl⟩ := sl_one h4
  exact ⟨v4, rfl, h0, h1, h2, h3, h4⟩
def zLine : MLine := ⟨0, [], 0, 0, []⟩
theorem kLine_zero (w : World) : kLine.ow w [] [.int .i64 0, .string ⟨#[]⟩, .int .i64 0, .int .i64 0, .slice none 0 0] zLine := (pair_zero (plain_zero pl_i64 w (by decide)) (pair_zero (plain_zero pl_str w (by decide)) (pair_zero (plain_zero pl_i64 w (by decide)) (pair_zero (plain_zero pl_i64 w (by decide)) (sl_zero w)))))
def smLine (x : MLine) : Prop := ((x.f_Route).length ≤ 1048576) ∧ ((x.f_Bytes).length ≤ 1048576)

/-! ### Post -/
structure MPost where
  f_Queue : (List MItem)
  f_Time : Int
  f_Book : (List UInt8)
  f_Sure : Int
def kPost : Kd MPost := (Kd.pair (Kd.slice 32 kItem) (Kd.pair Kd.i64 (Kd.pair (Kd.slice 5 Kd.u8) Kd.i64))).iso (fun c : MPost => (c.f_Queue, c.f_Time, c.f_Book, c.f_Sure))
theorem kPost_sz : kPost.sz = 4 := rfl
theorem opens_26 : Opens Tryz.prog 26 kPost := opens_iso (fun p => ⟨p.1, p.2.1, p.2.2.1, p.2.2.2⟩) (opens_struct Tryz.underlying26 (ofs_cons (opens_slice Tryz.underlying24 opens_32 (by kernel_rfl) (by decide)) rfl (by kernel_rfl) (ofs_cons (opens_i64 Tryz.underlying3) rfl (by kernel_rfl) (ofs_cons (opens_slice Tryz.underlying22 (opens_u8 Tryz.underlying5) (by kernel_rfl) (by decide)) rfl (by kernel_rfl) (ofs_one (opens_i64 Tryz.underlying3) rfl (by kernel_rfl))))) (by kernel_rfl)) (fun _ => rfl)
theorem opens_56 : Opens Tryz.prog 56 kPost := opens_iso (fun p => ⟨p.1, p.2.1, p.2.2.1, p.2.2.2⟩) (opens_struct Tryz.underlying56 (ofs_cons (opens_slice Tryz.underlying54 opens_133 (by kernel_rfl) (by decide)) rfl (by kernel_rfl) (ofs_cons (opens_i64 Tryz.underlying3) rfl (by kernel_rfl) (ofs_cons (opens_slice Tryz.underlying22 (opens_u8 Tryz.underlying5) (by kernel_rfl) (by decide)) rfl (by kernel_rfl) (ofs_one (opens_i64 Tryz.underlying3) rfl (by kernel_rfl))))) (by kernel_rfl)) (fun _ => rfl)
theorem kPost_open {w : World} {n : Nat} {cs : List Value} {x : MPost} (h : kPost.rd w n cs x) : ∃ v0 v2, cs = [v0, .int .i64 x.f_Time, v2, .int .i64 x.f_Sure] ∧ ((Kd.slice 32 kItem).rd w n [v0] x.f_Queue) ∧ (-9223372036854775808 ≤ x.f_Time ∧ x.f_Time < 9223372036854775808) ∧ ((Kd.slice 5 Kd.u8).rd w n [v2] x.f_Book) ∧ (-9223372036854775808 ≤ x.f_Sure ∧ x.f_Sure < 9223372036854775808) := by
  obtain ⟨a0, b0, rfl, h0, h⟩ := h
  obtain ⟨a1, b1, rfl, h1, h⟩ := h
  obtain ⟨a2, b2, rfl, h2, h3⟩ := h
  obtain ⟨v0, rfl⟩ := sl_one h0
  obtain ⟨rfl, h1⟩ := h1
  obtain ⟨v2, rfl⟩ := sl_one h2
  obtain ⟨rfl, h3⟩ := h3
  exact ⟨v0, v2, rfl, h0, h1, h2, h3⟩
def zPost : MPost := ⟨[], 0, [], 0⟩
theorem kPost_zero (w : World) : kPost.ow w [] [.slice none 0 0, .int .i64 0, .slice none 0 0, .int .i64 0] zPost := (pair_zero (sl_zero w) (pair_zero (plain_zero pl_i64 w (by decide)) (pair_zero (sl_zero w) (plain_zero pl_i64 w (by decide)))))
def smPost (x : MPost) : Prop := (smItemS x.f_Queue) ∧ ((x.f_Book).length ≤ 1048576)
theorem toPost_ok (w : World) (cs : List Value) (x : MPost) (h : kPost.rd w w.heap.size cs x) (hs : smPost x) :
    ACalls Tryz.prog 39 #[.agg cs.toArray] w fun r w' => ∃ cs' fp, r = .agg cs'.toArray ∧ Sep w.heap.size w w' [Ck.own kPost fp cs' x] := by
  unfold smPost at hs
  obtain ⟨v0, v2, rfl, h0, h1, h2, h3⟩ := kPost_open h
  have H := Sep.start w
  refine body_of follows Tryz.func39 rfl rfl _ rfl (by kernel_rfl) (vs ?_)
  refine x_bx H [v0, .int .i64 x.f_Time, v2, .int .i64 x.f_Sure] fun g1 w1 H => vs ?_
  refine x_al H st26 fun g2 w2 H => vs ?_
  refine x_al H st26 fun g3 w3 H => vs ?_
  refine x_ld H sc54 ?_
  refine vs ?_
  refine x_callf H (toItemS_ok w3 _ _ (H.rd h0) (hs.1)) fun r0 fp0 w4 H => vs ?_
  refine x_st H sc24 (h1 := Kd.one _ (H.own (.head _)) _ (by simp)) fun w5 H => vs ?_
  refine x_ld H sc3 ?_
  refine vs ?_
  refine x_st H sc3 fun w6 H => vs ?_
  refine x_ld H sc22 ?_
  refine vs ?_
  refine x_callf H (toByteS_ok w6 _ _ (H.rd h2) (by have := hs.2; omega)) fun r2 fp2 w7 H => vs ?_
  refine x_st H sc22 (h1 := Kd.one _ (H.own (.head _)) _ (by simp)) fun w8 H => vs ?_
  refine x_ld H sc3 ?_
  refine vs ?_
  refine x_st H sc3 fun w9 H => vs ?_
  have H := H.plain pl_i64 (x := x.f_Sure) h3
  have H := H.front (c := Ck.own (Kd.slice 5 Kd.u8) fp2 [r2] x.f_Book)
  have H := H.pair
  have H := H.plain pl_i64 (x := x.f_Time) h1
  have H := H.pair
  have H := H.front (c := Ck.own (Kd.slice 32 kItem) fp0 [r0] x.f_Queue)
  have H := H.pair
  have H := Sep.iso (y := x) (f := fun c : MPost => (c.f_Queue, c.f_Time, c.f_Book, c.f_Sure)) H
  refine x_lda H st26 ?_
  refine vs ?_
  refine x_sta H st26 (h1 := Kd.one _ (H.own (.head _))) fun w10 H => vs ?_
  exact ⟨_, _, rfl, res_cell H st26, _, _, rfl, H.head⟩
theorem eqPost_ok (w : World) (cs ds : List Value) (x : MPost) (h : kPost.rd w w.heap.size cs x) (h' : kPost.rd w w.heap.size ds x) :
    ACalls Tryz.prog 41 #[.agg cs.toArray, .agg ds.toArray] w fun r w' => r = .bool true ∧ Below w.heap.size w w' := by
  obtain ⟨v0, v2, rfl, h0, h1, h2, h3⟩ := kPost_open h
  obtain ⟨u0, u2, rfl, k0, k1, k2, k3⟩ := kPost_open h'
  have H := Sep.start w
  refine body_of follows Tryz.func41 rfl rfl _ rfl (by kernel_rfl) (vs ?_)
  refine x_bx H [v0, .int .i64 x.f_Time, v2, .int .i64 x.f_Sure] fun g1 w1 H => vs ?_
  refine x_bx H [u0, .int .i64 x.f_Time, u2, .int .i64 x.f_Sure] fun g2 w2 H => vs ?_
  refine x_ld H sc24 ?_
  refine vs ?_
  refine x_ld H sc24 ?_
  refine vs ?_
  refine x_callb H (eqItemS_ok w2 _ _ _ (H.rd h0) (H.rd k0)) fun w3 H => vs ?_
  refine x_ld H sc3 ?_
  refine vs ?_
  refine x_ld H sc3 ?_
  refine vs ?_
  refine x_ld H sc22 ?_
  refine vs ?_
  refine x_ld H sc22 ?_
  refine vs ?_
  refine x_callb H (eqByteS_ok w3 _ _ _ _ (H.rd h2) (H.rd k2)) fun w4 H => vs ?_
  refine x_ld H sc3 ?_
  refine vs ?_
  refine x_ld H sc3 ?_
  refine vs ?_
  exact H.bel
theorem szPost_ok (w : World) (cs : List Value) (x : MPost) (left : Int) (h : kPost.rd w w.heap.size cs x) (hl0 : 0 ≤ left) (hl1 : left ≤ 1048576) :
    ACalls Tryz.prog 38 #[.agg cs.toArray, .int .i64 left] w fun r w' => ∃ z : Int, r = .int .i64 z ∧ Below w.heap.size w w' ∧ -1 ≤ z ∧ z ≤ left ∧ (0 ≤ z → smPost x) := by
  obtain ⟨v0, v2, rfl, h0, h1, h2, h3⟩ := kPost_open h
  have H := Sep.start w
  refine body_of follows Tryz.func38 rfl rfl _ rfl (by kernel_rfl) (vs ?_)
  refine x_bx H [v0, .int .i64 x.f_Time, v2, .int .i64 x.f_Sure] fun g1 w1 H => vs ?_
  refine x_ld H sc54 ?_
  refine vs ?_
  refine x_call (szItemS_ok w1 _ _ _ (H.rd h0) (by omega) (by omega)) fun _ w2 ⟨z0, e0, hb0, a0, b0, s0⟩ => ?_
  subst e0
  have H := H.go hb0
  refine vs (ways ?_ ?_)
  · refine vh fun hneg => ?_
    exact ⟨-1, rfl, H.bel, by omega, by omega, by omega⟩
  refine vh fun hge0 => ?_
  refine x_ld H sc22 ?_
  refine vs ?_
  refine x_call (szByteS_ok w2 _ _ _ (H.rd h2) (by omega) (by omega)) fun _ w3 ⟨z1, e1, hb1, a1, b1, s1⟩ => ?_
  subst e1
  have H := H.go hb1
  refine vs (ways ?_ ?_)
  · refine vh fun hneg => ?_
    exact ⟨-1, rfl, H.bel, by omega, by omega, by omega⟩
  refine vh fun hge1 => ?_
  exact ⟨z1, rfl, H.bel, by omega, by omega, fun _ => ⟨s0 (by omega), s1 (by omega)⟩⟩
end Go.Proofs.YtdljbekkckfmnaaGreat.V
