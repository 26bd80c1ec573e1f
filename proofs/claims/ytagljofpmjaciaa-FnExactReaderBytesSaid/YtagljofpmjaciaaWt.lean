/- Types of the program as data, and the laws helpers on them, walked. Laid by a program. -/
import Derived.Test.YtagljofpmjaciaaWa
import Derived.Test.YtagljofpmjaciaaVo
namespace Go.Proofs.Ytagljofpmjaciaa.V
open Go Go.RowKit
set_option maxRecDepth 100000
set_option maxHeartbeats 4000000
set_option linter.unusedSimpArgs false
set_option linter.unusedVariables false
set_option pp.deepTerms false
set_option pp.deepTerms.threshold 3

/-! ### lists of ByteS -/
def smByteSS (l : List (List UInt8)) : Prop := l.length ≤ 1048576 ∧ ∀ y ∈ l, (y).length ≤ 1048576
theorem toByteSS_ok (w : World) (v : Value) (l : List (List UInt8)) (h : (Kd.slice 22 (Kd.slice 5 Kd.u8)).rd w w.heap.size [v] l) (hs : smByteSS l) :
    ACalls Try.prog 81 #[v] w fun r w' => ∃ fp, Sep w.heap.size w w' [Ck.own (Kd.slice 22 (Kd.slice 5 Kd.u8)) fp [r] l] := by
  obtain ⟨A, c, rfl, hc1, hc2, ha⟩ := sl_open h
  have hlen := hs.1
  have H := Sep.start w
  refine body_of follows Try.func81 rfl rfl _ rfl (by kernel_rfl) (vs ?_)
  refine x_mkZ (d := (Kd.slice 5 Kd.u8)) H sl31 [.slice none 0 0] ([] : (List UInt8)) rfl (fun w => sl_zero w) (by omega) (by omega) fun g w1 H => vs ?_
  refine loop_at (σ := Nat × List Nat) (fun x => [(0, .slice A l.length c), (3, .slice (some ⟨g, 0, none⟩) l.length l.length), (4, .int .i64 (x.1 : Int))])
    (fun x w' => x.1 ≤ l.length ∧ Sep w.heap.size w w' [Ck.own (Kd.slice 22 (Kd.slice 5 Kd.u8)) x.2 [.slice (some ⟨g, 0, none⟩) l.length l.length] (l.take x.1 ++ List.replicate (l.length - x.1) [])]) (fun x => l.length - x.1) (0, _) (vs trivial) ⟨Nat.zero_le _, by rw [take_zero_repl]; exact H⟩ ?_
  rintro ⟨k, fp⟩ s w2 ⟨hk, H⟩
  dsimp only at hk H
  refine vs (ways ?_ ?_)
  · refine vh fun hlt => ?_
    have hk2 : k < l.length := by omega
    refine x_elg sl31 rfl (ha.mono H.bel) (by omega) hlt fun ad es hb hr hc => vs ?_
    obtain ⟨u, rfl⟩ := sl_one hr
    refine x_ld1 sc22 hc rfl (vs ?_)
    refine x_callf H (toByteS_ok w2 _ _ (Kd.le _ hr H.ns) (by have := hs.2 (l[(k : Int).toNat]'(by omega)) (List.getElem_mem _); omega)) fun r2 fp2 w3 H => vs ?_
    refine x_index sl31 rfl (by omega) hlt (vs ?_)
    refine x_stS1 sc22 H rfl hk2 (Kd.one _ (H.own (.head _)) _ (by simp)) fun fp3 w4 H => vs ?_
    have H : Sep w.heap.size w w4 [Ck.own (Kd.slice 22 (Kd.slice 5 Kd.u8)) fp3 [.slice (some ⟨g, 0, none⟩) l.length l.length] (l.take (k + 1) ++ List.replicate (l.length - (k + 1)) [])] := by rw [← take_set l [] k hk2]; exact H
    exact ⟨(k + 1, fp3), i64_eq (by show w64 ((k : Int) + 1) = ((k + 1 : Nat) : Int); unfold w64; omega), ⟨hk2, H⟩, by show l.length - (k + 1) < l.length - k; omega⟩
  · refine vh fun hlt => ?_
    rw [take_all_repl l [] (by omega)] at H
    exact ⟨_, H⟩
theorem eqByteSS_ok (w : World) (v v' : Value) (l : List (List UInt8)) (h : (Kd.slice 22 (Kd.slice 5 Kd.u8)).rd w w.heap.size [v] l) (h' : (Kd.slice 22 (Kd.slice 5 Kd.u8)).rd w w.heap.size [v'] l) :
    ACalls Try.prog 86 #[v, v'] w fun r w' => r = .bool true ∧ Below w.heap.size w w' := by
  obtain ⟨A, c, rfl, hc1, hc2, ha⟩ := sl_open h
  obtain ⟨A', c', rfl, hc1', hc2', ha'⟩ := sl_open h'
  have hlm : l.length ≤ 9223372036854775807 := sl_len h
  refine body_of follows Try.func86 rfl rfl _ rfl (by kernel_rfl) (vs ?_)
  refine loop_at (σ := Nat) (fun k => [(0, .slice A l.length c), (1, .slice A' l.length c'), (5, .int .i64 (k : Int))])
    (fun k w' => k ≤ l.length ∧ Sep w.heap.size w w' []) (fun k => l.length - k) 0 (vs trivial) ⟨Nat.zero_le _, Sep.start w⟩ ?_
  rintro k s w2 ⟨hk, H⟩
  refine vs (ways ?_ ?_)
  · refine vh fun hlt => ?_
    have hk2 : k < l.length := by omega
    refine draw_of [(0, true), (1, true), (2, true), (3, true), (4, true), (5, true), (6, true), (7, true), (8, false), (9, true)] w2.heap.size [] fun w3 hh hb3 => vs ?_
    have H := H.go (hb3 _)
    refine q_elg sl31 rfl (ha.mono H.bel) (by omega) hlt fun ad es hb hr hc => vs ?_
    obtain ⟨u, rfl⟩ := sl_one hr
    have hlt1 : ad.block < w2.heap.size := by have := H.ns; rw [hh] at this; omega
    refine q_ld1 sc22 hc rfl hlt1 (vs ?_)
    refine q_elg sl31 rfl (ha'.mono H.bel) (by omega) hlt fun ad' es' hb' hr' hc' => vs ?_
    obtain ⟨u', rfl⟩ := sl_one hr'
    have hlt2 : ad'.block < w2.heap.size := by have := H.ns; rw [hh] at this; omega
    refine q_ld1 sc22 hc' rfl hlt2 (vs ?_)
    refine x_call (eqByteS_ok w3 _ _ _ _ (Kd.le _ hr H.ns) (Kd.le _ hr' H.ns)) fun _ w4 ⟨e4, hb4⟩ => ?_
    subst e4
    refine vs ?_
    have H4 := H.go hb4
    exact ⟨kept_of hb4 (Nat.le_of_eq (by rw [hh])), k + 1, i64_eq (by unfold w64; omega), ⟨hk2, H4⟩, by omega⟩
  · refine vh fun hlt => ?_
    exact H.bel
theorem szByteSS_ok (w : World) (v : Value) (l : List (List UInt8)) (left : Int) (h : (Kd.slice 22 (Kd.slice 5 Kd.u8)).rd w w.heap.size [v] l) (hl0 : 0 ≤ left) (hl1 : left ≤ 1048576) :
    ACalls Try.prog 78 #[v, .int .i64 left] w fun r w' => ∃ z : Int, r = .int .i64 z ∧ Below w.heap.size w w' ∧ -1 ≤ z ∧ z ≤ left ∧ (0 ≤ z → smByteSS l) := by
  have hlm : l.length ≤ 9223372036854775807 := sl_len h
  obtain ⟨A, c, rfl, hc1, hc2, ha⟩ := sl_open h
  refine body_of follows Try.func78 rfl rfl _ rfl (by kernel_rfl) (vs ?_)
  have q : w64 (left - (l.length : Int)) = left - l.length := w64_id (by omega) (by omega)
  refine ve q (ways ?_ ?_)
  · refine vh fun hneg => ?_
    exact ⟨-1, rfl, Below.refl .., by omega, by omega, by omega⟩
  refine vh fun hge => ?_
  have H := Sep.start w
  refine loop_at (σ := Nat × Int) (fun x => [(0, .slice A l.length c), (1, .int .i64 x.2), (5, .int .i64 (x.1 : Int))])
    (fun x w' => x.1 ≤ l.length ∧ 0 ≤ x.2 ∧ x.2 ≤ left ∧ (∀ i (hi : i < l.length), i < x.1 → (l[i]).length ≤ 1048576) ∧ Sep w.heap.size w w' []) (fun x => l.length - x.1) (0, left - l.length) (vs ?_) ⟨Nat.zero_le _, by show 0 ≤ left - (l.length : Int); omega, by show left - (l.length : Int) ≤ left; omega, fun i hi h => absurd h (Nat.not_lt_zero i), H⟩ ?_
  · exact i64_eq q
  rintro ⟨k, z⟩ s w2 ⟨hk, hz0, hz1, hall, H⟩
  dsimp only at hk hz0 hz1 hall H
  refine vs (ways ?_ ?_)
  · refine vh fun hlt => ?_
    have hk2 : k < l.length := by omega
    refine x_elg sl31 rfl (ha.mono H.bel) (by omega) hlt fun ad es hb hr hc => vs ?_
    obtain ⟨u, rfl⟩ := sl_one hr
    refine x_ld1 sc22 hc rfl (vs ?_)
    refine x_call (szByteS_ok w2 _ _ _ (Kd.le _ hr H.ns) (by omega) (by omega)) fun _ w3 ⟨z2, e2, hb2, a2, b2, s2⟩ => ?_
    subst e2
    have H := H.go hb2
    refine vs (ways ?_ ?_)
    · refine vh fun hneg => ?_
      exact ⟨-1, rfl, H.bel, by omega, by omega, by omega⟩
    · refine vh fun hge2 => ?_
      refine ⟨(k + 1, z2), ⟨rfl, i64_eq (by show w64 ((k : Int) + 1) = ((k + 1 : Nat) : Int); unfold w64; omega)⟩, ⟨hk2, by show 0 ≤ z2; omega, by show z2 ≤ left; omega, fun i hi h => ?_, H⟩, by show l.length - (k + 1) < l.length - k; omega⟩
      by_cases h2 : i = k
      · subst h2; exact s2 (by omega)
      · exact hall i hi (by show i < k; have : i < k + 1 := h; omega)
  · refine vh fun hlt => ?_
    exact ⟨z, rfl, H.bel, by omega, hz1, fun _ => ⟨by omega, fun y hy => by obtain ⟨i, hi, rfl⟩ := List.getElem_of_mem hy; exact hall i hi (by omega)⟩⟩

/-! ### Chain -/
structure MChain where
  f_Key : (List UInt8)
  f_N : Int
def kChain : Kd MChain := (Kd.pair (Kd.slice 5 Kd.u8) Kd.i64).iso (fun c : MChain => (c.f_Key, c.f_N))
theorem kChain_sz : kChain.sz = 2 := rfl
theorem opens_43 : Opens Try.prog 43 kChain := opens_iso (fun p => ⟨p.1, p.2⟩) (opens_struct Try.underlying43 (ofs_cons (opens_slice Try.underlying22 (opens_u8 Try.underlying5) (by kernel_rfl) (by decide)) rfl (by kernel_rfl) (ofs_one (opens_i64 Try.underlying3) rfl (by kernel_rfl))) (by kernel_rfl)) (fun _ => rfl)
theorem opens_60 : Opens Try.prog 60 kChain := opens_iso (fun p => ⟨p.1, p.2⟩) (opens_struct Try.underlying60 (ofs_cons (opens_slice Try.underlying22 (opens_u8 Try.underlying5) (by kernel_rfl) (by decide)) rfl (by kernel_rfl) (ofs_one (opens_i64 Try.underlying3) rfl (by kernel_rfl))) (by kernel_rfl)) (fun _ => rfl)
theorem kChain_open {w : World} {n : Nat} {cs : List Value} {x : MChain} (h : kChain.rd w n cs x) : ∃ v0, cs = [v0, .int .i64 x.f_N] ∧ ((Kd.slice 5 Kd.u8).rd w n [v0] x.f_Key) ∧ (-9223372036854775808 ≤ x.f_N ∧ x.f_N < 9223372036854775808) := by
  obtain ⟨a0, b0, rfl, h0, h1⟩ := h
  obtain ⟨v0, rfl⟩ := sl_one h0
  obtain ⟨rfl, h1⟩ := h1
  exact ⟨v0, rfl, h0, h1⟩
def zChain : MChain := ⟨[], 0⟩
theorem kChain_zero (w : World) : kChain.ow w [] [.slice none 0 0, .int .i64 0] zChain := (pair_zero (sl_zero w) (plain_zero pl_i64 w (by decide)))
def smChain (x : MChain) : Prop := ((x.f_Key).length ≤ 1048576)
theorem toChain_ok (w : World) (cs : List Value) (x : MChain) (h : kChain.rd w w.heap.size cs x) (hs : smChain x) :
    ACalls Try.prog 45 #[.agg cs.toArray] w fun r w' => ∃ cs' fp, r = .agg cs'.toArray ∧ Sep w.heap.size w w' [Ck.own kChain fp cs' x] := by
  unfold smChain at hs
  obtain ⟨v0, rfl, h0, h1⟩ := kChain_open h
  have H := Sep.start w
  refine body_of follows Try.func45 rfl rfl _ rfl (by kernel_rfl) (vs ?_)
  refine x_bx H [v0, .int .i64 x.f_N] fun g1 w1 H => vs ?_
  refine x_al H st43 fun g2 w2 H => vs ?_
  refine x_al H st43 fun g3 w3 H => vs ?_
  refine x_ld H sc22 ?_
  refine vs ?_
  refine x_callf H (toByteS_ok w3 _ _ (H.rd h0) (by have := hs; omega)) fun r0 fp0 w4 H => vs ?_
  refine x_st H sc22 (h1 := Kd.one _ (H.own (.head _)) _ (by simp)) fun w5 H => vs ?_
  refine x_ld H sc3 ?_
  refine vs ?_
  refine x_st H sc3 fun w6 H => vs ?_
  have H := H.plain pl_i64 (x := x.f_N) h1
  have H := H.front (c := Ck.own (Kd.slice 5 Kd.u8) fp0 [r0] x.f_Key)
  have H := H.pair
  have H := Sep.iso (y := x) (f := fun c : MChain => (c.f_Key, c.f_N)) H
  refine x_lda H st43 ?_
  refine vs ?_
  refine x_sta H st43 (h1 := Kd.one _ (H.own (.head _))) fun w7 H => vs ?_
  exact ⟨_, _, rfl, res_cell H st43, _, _, rfl, H.head⟩
theorem eqChain_ok (w : World) (cs ds : List Value) (x : MChain) (h : kChain.rd w w.heap.size cs x) (h' : kChain.rd w w.heap.size ds x) :
    ACalls Try.prog 46 #[.agg cs.toArray, .agg ds.toArray] w fun r w' => r = .bool true ∧ Below w.heap.size w w' := by
  obtain ⟨v0, rfl, h0, h1⟩ := kChain_open h
  obtain ⟨u0, rfl, k0, k1⟩ := kChain_open h'
  have H := Sep.start w
  refine body_of follows Try.func46 rfl rfl _ rfl (by kernel_rfl) (vs ?_)
  refine x_bx H [v0, .int .i64 x.f_N] fun g1 w1 H => vs ?_
  refine x_bx H [u0, .int .i64 x.f_N] fun g2 w2 H => vs ?_
  refine x_ld H sc22 ?_
  refine vs ?_
  refine x_ld H sc22 ?_
  refine vs ?_
  refine x_callb H (eqByteS_ok w2 _ _ _ _ (H.rd h0) (H.rd k0)) fun w3 H => vs ?_
  refine x_ld H sc3 ?_
  refine vs ?_
  refine x_ld H sc3 ?_
  refine vs ?_
  exact H.bel
theorem szChain_ok (w : World) (cs : List Value) (x : MChain) (left : Int) (h : kChain.rd w w.heap.size cs x) (hl0 : 0 ≤ left) (hl1 : left ≤ 1048576) :
    ACalls Try.prog 43 #[.agg cs.toArray, .int .i64 left] w fun r w' => ∃ z : Int, r = .int .i64 z ∧ Below w.heap.size w w' ∧ -1 ≤ z ∧ z ≤ left ∧ (0 ≤ z → smChain x) := by
  obtain ⟨v0, rfl, h0, h1⟩ := kChain_open h
  have H := Sep.start w
  refine body_of follows Try.func43 rfl rfl _ rfl (by kernel_rfl) (vs ?_)
  refine x_bx H [v0, .int .i64 x.f_N] fun g1 w1 H => vs ?_
  refine x_ld H sc22 ?_
  refine vs ?_
  refine x_call (szByteS_ok w1 _ _ _ (H.rd h0) (by omega) (by omega)) fun _ w2 ⟨z0, e0, hb0, a0, b0, s0⟩ => ?_
  subst e0
  have H := H.go hb0
  refine vs (ways ?_ ?_)
  · refine vh fun hneg => ?_
    exact ⟨-1, rfl, H.bel, by omega, by omega, by omega⟩
  refine vh fun hge0 => ?_
  exact ⟨z0, rfl, H.bel, by omega, by omega, fun _ => s0 (by omega)⟩

/-! ### Kept -/
structure MKept where
  f_N : Int
  f_Key : (List UInt8)
def kKept : Kd MKept := (Kd.pair Kd.i64 (Kd.slice 5 Kd.u8)).iso (fun c : MKept => (c.f_N, c.f_Key))
theorem kKept_sz : kKept.sz = 2 := rfl
theorem opens_105 : Opens Try.prog 105 kKept := opens_iso (fun p => ⟨p.1, p.2⟩) (opens_struct Try.underlying105 (ofs_cons (opens_i64 Try.underlying3) rfl (by kernel_rfl) (ofs_one (opens_slice Try.underlying22 (opens_u8 Try.underlying5) (by kernel_rfl) (by decide)) rfl (by kernel_rfl))) (by kernel_rfl)) (fun _ => rfl)
theorem opens_132 : Opens Try.prog 132 kKept := opens_iso (fun p => ⟨p.1, p.2⟩) (opens_struct Try.underlying132 (ofs_cons (opens_i64 Try.underlying3) rfl (by kernel_rfl) (ofs_one (opens_slice Try.underlying22 (opens_u8 Try.underlying5) (by kernel_rfl) (by decide)) rfl (by kernel_rfl))) (by kernel_rfl)) (fun _ => rfl)
theorem kKept_open {w : World} {n : Nat} {cs : List Value} {x : MKept} (h : kKept.rd w n cs x) : ∃ v1, cs = [.int .i64 x.f_N, v1] ∧ (-9223372036854775808 ≤ x.f_N ∧ x.f_N < 9223372036854775808) ∧ ((Kd.slice 5 Kd.u8).rd w n [v1] x.f_Key) := by
  obtain ⟨a0, b0, rfl, h0, h1⟩ := h
  obtain ⟨rfl, h0⟩ := h0
  obtain ⟨v1, rfl⟩ := sl_one h1
  exact ⟨v1, rfl, h0, h1⟩
def zKept : MKept := ⟨0, []⟩
theorem kKept_zero (w : World) : kKept.ow w [] [.int .i64 0, .slice none 0 0] zKept := (pair_zero (plain_zero pl_i64 w (by decide)) (sl_zero w))
def smKept (x : MKept) : Prop := ((x.f_Key).length ≤ 1048576)
theorem toKept_ok (w : World) (cs : List Value) (x : MKept) (h : kKept.rd w w.heap.size cs x) (hs : smKept x) :
    ACalls Try.prog 139 #[.agg cs.toArray] w fun r w' => ∃ cs' fp, r = .agg cs'.toArray ∧ Sep w.heap.size w w' [Ck.own kKept fp cs' x] := by
  unfold smKept at hs
  obtain ⟨v1, rfl, h0, h1⟩ := kKept_open h
  have H := Sep.start w
  refine body_of follows Try.func139 rfl rfl _ rfl (by kernel_rfl) (vs ?_)
  refine x_bx H [.int .i64 x.f_N, v1] fun g1 w1 H => vs ?_
  refine x_al H st105 fun g2 w2 H => vs ?_
  refine x_al H st105 fun g3 w3 H => vs ?_
  refine x_ld H sc3 ?_
  refine vs ?_
  refine x_st H sc3 fun w4 H => vs ?_
  refine x_ld H sc22 ?_
  refine vs ?_
  refine x_callf H (toByteS_ok w4 _ _ (H.rd h1) (by have := hs; omega)) fun r1 fp1 w5 H => vs ?_
  refine x_st H sc22 (h1 := Kd.one _ (H.own (.head _)) _ (by simp)) fun w6 H => vs ?_
  have H := H.front (c := Ck.own (Kd.slice 5 Kd.u8) fp1 [r1] x.f_Key)
  have H := H.plain pl_i64 (x := x.f_N) h0
  have H := H.pair
  have H := Sep.iso (y := x) (f := fun c : MKept => (c.f_N, c.f_Key)) H
  refine x_lda H st105 ?_
  refine vs ?_
  refine x_sta H st105 (h1 := Kd.one _ (H.own (.head _))) fun w7 H => vs ?_
  exact ⟨_, _, rfl, res_cell H st105, _, _, rfl, H.head⟩
theorem eqKept_ok (w : World) (cs ds : List Value) (x : MKept) (h : kKept.rd w w.heap.size cs x) (h' : kKept.rd w w.heap.size ds x) :
    ACalls Try.prog 140 #[.agg cs.toArray, .agg ds.toArray] w fun r w' => r = .bool true ∧ Below w.heap.size w w' := by
  obtain ⟨v1, rfl, h0, h1⟩ := kKept_open h
  obtain ⟨u1, rfl, k0, k1⟩ := kKept_open h'
  have H := Sep.start w
  refine body_of follows Try.func140 rfl rfl _ rfl (by kernel_rfl) (vs ?_)
  refine x_bx H [.int .i64 x.f_N, v1] fun g1 w1 H => vs ?_
  refine x_bx H [.int .i64 x.f_N, u1] fun g2 w2 H => vs ?_
  refine x_ld H sc3 ?_
  refine vs ?_
  refine x_ld H sc3 ?_
  refine vs ?_
  refine x_ld H sc22 ?_
  refine vs ?_
  refine x_ld H sc22 ?_
  refine vs ?_
  refine x_callb H (eqByteS_ok w2 _ _ _ _ (H.rd h1) (H.rd k1)) fun w3 H => vs ?_
  exact H.bel
theorem szKept_ok (w : World) (cs : List Value) (x : MKept) (left : Int) (h : kKept.rd w w.heap.size cs x) (hl0 : 0 ≤ left) (hl1 : left ≤ 1048576) :
    ACalls Try.prog 138 #[.agg cs.toArray, .int .i64 left] w fun r w' => ∃ z : Int, r = .int .i64 z ∧ Below w.heap.size w w' ∧ -1 ≤ z ∧ z ≤ left ∧ (0 ≤ z → smKept x) := by
  obtain ⟨v1, rfl, h0, h1⟩ := kKept_open h
  have H := Sep.start w
  refine body_of follows Try.func138 rfl rfl _ rfl (by kernel_rfl) (vs ?_)
  refine x_bx H [.int .i64 x.f_N, v1] fun g1 w1 H => vs ?_
  refine x_ld H sc22 ?_
  refine vs ?_
  refine x_call (szByteS_ok w1 _ _ _ (H.rd h1) (by omega) (by omega)) fun _ w2 ⟨z0, e0, hb0, a0, b0, s0⟩ => ?_
  subst e0
  have H := H.go hb0
  refine vs (ways ?_ ?_)
  · refine vh fun hneg => ?_
    exact ⟨-1, rfl, H.bel, by omega, by omega, by omega⟩
  refine vh fun hge0 => ?_
  exact ⟨z0, rfl, H.bel, by omega, by omega, fun _ => s0 (by omega)⟩

/-! ### lists of Kept -/
def smKeptS (l : List MKept) : Prop := l.length ≤ 1048576 ∧ ∀ y ∈ l, smKept y
theorem toKeptS_ok (w : World) (v : Value) (l : List MKept) (h : (Kd.slice 105 kKept).rd w w.heap.size [v] l) (hs : smKeptS l) :
    ACalls Try.prog 110 #[v] w fun r w' => ∃ fp, Sep w.heap.size w w' [Ck.own (Kd.slice 105 kKept) fp [r] l] := by
  obtain ⟨A, c, rfl, hc1, hc2, ha⟩ := sl_open h
  have hlen := hs.1
  have H := Sep.start w
  refine body_of follows Try.func110 rfl rfl _ rfl (by kernel_rfl) (vs ?_)
  refine x_mkZ (d := kKept) H sl48 [.int .i64 0, .slice none 0 0] zKept rfl (fun w => kKept_zero w) (by omega) (by omega) fun g w1 H => vs ?_
  refine loop_at (σ := Nat × List Nat) (fun x => [(0, .slice A l.length c), (3, .slice (some ⟨g, 0, none⟩) l.length l.length), (4, .int .i64 (x.1 : Int))])
    (fun x w' => x.1 ≤ l.length ∧ Sep w.heap.size w w' [Ck.own (Kd.slice 105 kKept) x.2 [.slice (some ⟨g, 0, none⟩) l.length l.length] (l.take x.1 ++ List.replicate (l.length - x.1) zKept)]) (fun x => l.length - x.1) (0, _) (vs trivial) ⟨Nat.zero_le _, by rw [take_zero_repl]; exact H⟩ ?_
  rintro ⟨k, fp⟩ s w2 ⟨hk, H⟩
  dsimp only at hk H
  refine vs (ways ?_ ?_)
  · refine vh fun hlt => ?_
    have hk2 : k < l.length := by omega
    refine x_elg sl72 rfl (ha.mono H.bel) (by omega) hlt fun ad es hb hr hc => vs ?_
    refine x_lds st132 hc (Kd.len _ hr) (vs ?_)
    refine x_call (toKept_ok w2 _ _ (Kd.le _ hr H.ns) (hs.2 _ (List.getElem_mem _))) fun _ w3 ⟨c2, fp2, e2, S⟩ => ?_
    subst e2
    have H := H.join S
    simp only [List.cons_append, List.nil_append] at H
    refine vs ?_
    refine x_index sl48 rfl (by omega) hlt (vs ?_)
    refine x_stSs st105 H rfl hk2 (Kd.one _ (H.own (.head _))) fun fp3 w4 H => vs ?_
    have H : Sep w.heap.size w w4 [Ck.own (Kd.slice 105 kKept) fp3 [.slice (some ⟨g, 0, none⟩) l.length l.length] (l.take (k + 1) ++ List.replicate (l.length - (k + 1)) zKept)] := by rw [← take_set l zKept k hk2]; exact H
    exact ⟨(k + 1, fp3), i64_eq (by show w64 ((k : Int) + 1) = ((k + 1 : Nat) : Int); unfold w64; omega), ⟨hk2, H⟩, by show l.length - (k + 1) < l.length - k; omega⟩
  · refine vh fun hlt => ?_
    rw [take_all_repl l zKept (by omega)] at H
    exact ⟨_, H⟩
theorem eqKeptS_ok (w : World) (v v' : Value) (l : List MKept) (h : (Kd.slice 105 kKept).rd w w.heap.size [v] l) (h' : (Kd.slice 105 kKept).rd w w.heap.size [v'] l) :
    ACalls Try.prog 111 #[v, v'] w fun r w' => r = .bool true ∧ Below w.heap.size w w' := by
  obtain ⟨A, c, rfl, hc1, hc2, ha⟩ := sl_open h
  obtain ⟨A', c', rfl, hc1', hc2', ha'⟩ := sl_open h'
  have hlm : l.length ≤ 9223372036854775807 := sl_len h
  refine body_of follows Try.func111 rfl rfl _ rfl (by kernel_rfl) (vs ?_)
  refine loop_at (σ := Nat) (fun k => [(0, .slice A l.length c), (1, .slice A' l.length c'), (5, .int .i64 (k : Int))])
    (fun k w' => k ≤ l.length ∧ Sep w.heap.size w w' []) (fun k => l.length - k) 0 (vs trivial) ⟨Nat.zero_le _, Sep.start w⟩ ?_
  rintro k s w2 ⟨hk, H⟩
  refine vs (ways ?_ ?_)
  · refine vh fun hlt => ?_
    have hk2 : k < l.length := by omega
    refine draw_of [(0, true), (1, true), (2, true), (3, true), (4, true), (5, true), (6, true), (7, true), (8, false), (9, true)] w2.heap.size [] fun w3 hh hb3 => vs ?_
    have H := H.go (hb3 _)
    refine q_elg sl48 rfl (ha.mono H.bel) (by omega) hlt fun ad es hb hr hc => vs ?_
    have hlt1 : ad.block < w2.heap.size := by have := H.ns; rw [hh] at this; omega
    refine q_lds st105 hc (Kd.len _ hr) hlt1 (vs ?_)
    refine q_elg sl48 rfl (ha'.mono H.bel) (by omega) hlt fun ad' es' hb' hr' hc' => vs ?_
    have hlt2 : ad'.block < w2.heap.size := by have := H.ns; rw [hh] at this; omega
    refine q_lds st105 hc' (Kd.len _ hr') hlt2 (vs ?_)
    refine x_call (eqKept_ok w3 _ _ _ (Kd.le _ hr H.ns) (Kd.le _ hr' H.ns)) fun _ w4 ⟨e4, hb4⟩ => ?_
    subst e4
    refine vs ?_
    have H4 := H.go hb4
    exact ⟨kept_of hb4 (Nat.le_of_eq (by rw [hh])), k + 1, i64_eq (by unfold w64; omega), ⟨hk2, H4⟩, by omega⟩
  · refine vh fun hlt => ?_
    exact H.bel
theorem szKeptS_ok (w : World) (v : Value) (l : List MKept) (left : Int) (h : (Kd.slice 105 kKept).rd w w.heap.size [v] l) (hl0 : 0 ≤ left) (hl1 : left ≤ 1048576) :
    ACalls Try.prog 109 #[v, .int .i64 left] w fun r w' => ∃ z : Int, r = .int .i64 z ∧ Below w.heap.size w w' ∧ -1 ≤ z ∧ z ≤ left ∧ (0 ≤ z → smKeptS l) := by
  have hlm : l.length ≤ 9223372036854775807 := sl_len h
  obtain ⟨A, c, rfl, hc1, hc2, ha⟩ := sl_open h
  refine body_of follows Try.func109 rfl rfl _ rfl (by kernel_rfl) (vs ?_)
  have q : w64 (left - (l.length : Int)) = left - l.length := w64_id (by omega) (by omega)
  refine ve q (ways ?_ ?_)
  · refine vh fun hneg => ?_
    exact ⟨-1, rfl, Below.refl .., by omega, by omega, by omega⟩
  refine vh fun hge => ?_
  have H := Sep.start w
  refine loop_at (σ := Nat × Int) (fun x => [(0, .slice A l.length c), (1, .int .i64 x.2), (5, .int .i64 (x.1 : Int))])
    (fun x w' => x.1 ≤ l.length ∧ 0 ≤ x.2 ∧ x.2 ≤ left ∧ (∀ i (hi : i < l.length), i < x.1 → smKept l[i]) ∧ Sep w.heap.size w w' []) (fun x => l.length - x.1) (0, left - l.length) (vs ?_) ⟨Nat.zero_le _, by show 0 ≤ left - (l.length : Int); omega, by show left - (l.length : Int) ≤ left; omega, fun i hi h => absurd h (Nat.not_lt_zero i), H⟩ ?_
  · exact i64_eq q
  rintro ⟨k, z⟩ s w2 ⟨hk, hz0, hz1, hall, H⟩
  dsimp only at hk hz0 hz1 hall H
  refine vs (ways ?_ ?_)
  · refine vh fun hlt => ?_
    have hk2 : k < l.length := by omega
    refine x_elg sl72 rfl (ha.mono H.bel) (by omega) hlt fun ad es hb hr hc => vs ?_
    refine x_lds st132 hc (Kd.len _ hr) (vs ?_)
    refine x_call (szKept_ok w2 _ _ _ (Kd.le _ hr H.ns) (by omega) (by omega)) fun _ w3 ⟨z2, e2, hb2, a2, b2, s2⟩ => ?_
    subst e2
    have H := H.go hb2
    refine vs (ways ?_ ?_)
    · refine vh fun hneg => ?_
      exact ⟨-1, rfl, H.bel, by omega, by omega, by omega⟩
    · refine vh fun hge2 => ?_
      refine ⟨(k + 1, z2), ⟨rfl, i64_eq (by show w64 ((k : Int) + 1) = ((k + 1 : Nat) : Int); unfold w64; omega)⟩, ⟨hk2, by show 0 ≤ z2; omega, by show z2 ≤ left; omega, fun i hi h => ?_, H⟩, by show l.length - (k + 1) < l.length - k; omega⟩
      by_cases h2 : i = k
      · subst h2; exact s2 (by omega)
      · exact hall i hi (by show i < k; have : i < k + 1 := h; omega)
  · refine vh fun hlt => ?_
    exact ⟨z, rfl, H.bel, by omega, hz1, fun _ => ⟨by omega, fun y hy => by obtain ⟨i, hi, rfl⟩ := List.getElem_of_mem hy; exact hall i hi (by omega)⟩⟩

/-! ### Catch -/
structure MCatch where
  f_Chain : MChain
  f_List : (List MKept)
def kCatch : Kd MCatch := (Kd.pair kChain (Kd.slice 105 kKept)).iso (fun c : MCatch => (c.f_Chain, c.f_List))
theorem kCatch_sz : kCatch.sz = 3 := rfl
theorem opens_50 : Opens Try.prog 50 kCatch := opens_iso (fun p => ⟨p.1, p.2⟩) (opens_struct Try.underlying50 (ofs_cons opens_43 rfl (by kernel_rfl) (ofs_one (opens_slice Try.underlying48 opens_105 (by kernel_rfl) (by decide)) rfl (by kernel_rfl))) (by kernel_rfl)) (fun _ => rfl)
theorem opens_74 : Opens Try.prog 74 kCatch := opens_iso (fun p => ⟨p.1, p.2⟩) (opens_struct Try.underlying74 (ofs_cons opens_60 rfl (by kernel_rfl) (ofs_one (opens_slice Try.underlying72 opens_132 (by kernel_rfl) (by decide)) rfl (by kernel_rfl))) (by kernel_rfl)) (fun _ => rfl)
theorem kCatch_open {w : World} {n : Nat} {cs : List Value} {x : MCatch} (h : kCatch.rd w n cs x) : ∃ v0_0 v1, cs = [v0_0, .int .i64 x.f_Chain.f_N, v1] ∧ (kChain.rd w n [v0_0, .int .i64 x.f_Chain.f_N] x.f_Chain) ∧ ((Kd.slice 105 kKept).rd w n [v1] x.f_List) := by
  obtain ⟨a0, b0, rfl, h0, h1⟩ := h
  have h0_ := h0
  obtain ⟨v0_0, rfl, _⟩ := kChain_open h0_
  obtain ⟨v1, rfl⟩ := sl_one h1
  exact ⟨v0_0, v1, rfl, h0, h1⟩
def zCatch : MCatch := ⟨zChain, []⟩
theorem kCatch_zero (w : World) : kCatch.ow w [] [.slice none 0 0, .int .i64 0, .slice none 0 0] zCatch := (pair_zero (kChain_zero w) (sl_zero w))
def smCatch (x : MCatch) : Prop := (smChain x.f_Chain) ∧ (smKeptS x.f_List)
theorem toCatch_ok (w : World) (cs : List Value) (x : MCatch) (h : kCatch.rd w w.heap.size cs x) (hs : smCatch x) :
    ACalls Try.prog 62 #[.agg cs.toArray] w fun r w' => ∃ cs' fp, r = .agg cs'.toArray ∧ Sep w.heap.size w w' [Ck.own kCatch fp cs' x] := by
  unfold smCatch at hs
  obtain ⟨v0_0, v1, rfl, h0, h1⟩ := kCatch_open h
  have H := Sep.start w
  refine body_of follows Try.func62 rfl rfl _ rfl (by kernel_rfl) (vs ?_)
  refine x_bx H [v0_0, .int .i64 x.f_Chain.f_N, v1] fun g1 w1 H => vs ?_
  refine x_al H st50 fun g2 w2 H => vs ?_
  refine x_al H st50 fun g3 w3 H => vs ?_
  refine x_ldp H [v0_0, .int .i64 x.f_Chain.f_N] st60 (vs ?_)
  refine x_call (toChain_ok w3 _ _ (H.rd h0) hs.1) fun _ w4 ⟨c0, fp0, e0, S⟩ => ?_
  subst e0
  have H := H.join S
  simp only [List.cons_append, List.nil_append] at H
  obtain ⟨r0_0, rfl, _⟩ := kChain_open (H.own (.head _))
  refine vs ?_
  refine x_sta H st43 (h1 := Kd.one _ (H.own (.head _))) fun w5 H => vs ?_
  refine x_ld H sc72 ?_
  refine vs ?_
  refine x_callf H (toKeptS_ok w5 _ _ (H.rd h1) (hs.2)) fun r1 fp1 w6 H => vs ?_
  refine x_st H sc48 (h1 := Kd.one _ (H.own (.head _)) _ (by simp)) fun w7 H => vs ?_
  have H := H.front (c := Ck.own (Kd.slice 105 kKept) fp1 [r1] x.f_List)
  have H := H.front (c := Ck.own kChain fp0 [r0_0, .int .i64 x.f_Chain.f_N] x.f_Chain)
  have H := H.pair
  have H := Sep.iso (y := x) (f := fun c : MCatch => (c.f_Chain, c.f_List)) H
  refine x_lda H st50 ?_
  refine vs ?_
  refine x_sta H st50 (h1 := Kd.one _ (H.own (.head _))) fun w8 H => vs ?_
  exact ⟨_, _, rfl, res_cell H st50, _, _, rfl, H.head⟩
theorem eqCatch_ok (w : World) (cs ds : List Value) (x : MCatch) (h : kCatch.rd w w.heap.size cs x) (h' : kCatch.rd w w.heap.size ds x) :
    ACalls Try.prog 63 #[.agg cs.toArray, .agg ds.toArray] w fun r w' => r = .bool true ∧ Below w.heap.size w w' := by
  obtain ⟨v0_0, v1, rfl, h0, h1⟩ := kCatch_open h
  obtain ⟨u0_0, u1, rfl, k0, k1⟩ := kCatch_open h'
  have H := Sep.start w
  refine body_of follows Try.func63 rfl rfl _ rfl (by kernel_rfl) (vs ?_)
  refine x_bx H [v0_0, .int .i64 x.f_Chain.f_N, v1] fun g1 w1 H => vs ?_
  refine x_bx H [u0_0, .int .i64 x.f_Chain.f_N, u1] fun g2 w2 H => vs ?_
  refine x_ldp H [v0_0, .int .i64 x.f_Chain.f_N] st43 (vs ?_)
  refine x_ldp H [u0_0, .int .i64 x.f_Chain.f_N] st43 (vs ?_)
  refine x_callb H (eqChain_ok w2 _ _ _ (H.rd h0) (H.rd k0)) fun w3 H => vs ?_
  refine x_ld H sc48 ?_
  refine vs ?_
  refine x_ld H sc48 ?_
  refine vs ?_
  refine x_callb H (eqKeptS_ok w3 _ _ _ (H.rd h1) (H.rd k1)) fun w4 H => vs ?_
  exact H.bel
theorem szCatch_ok (w : World) (cs : List Value) (x : MCatch) (left : Int) (h : kCatch.rd w w.heap.size cs x) (hl0 : 0 ≤ left) (hl1 : left ≤ 1048576) :
    ACalls Try.prog 61 #[.agg cs.toArray, .int .i64 left] w fun r w' => ∃ z : Int, r = .int .i64 z ∧ Below w.heap.size w w' ∧ -1 ≤ z ∧ z ≤ left ∧ (0 ≤ z → smCatch x) := by
  obtain ⟨v0_0, v1, rfl, h0, h1⟩ := kCatch_open h
  have H := Sep.start w
  refine body_of follows Try.func61 rfl rfl _ rfl (by kernel_rfl) (vs ?_)
  refine x_bx H [v0_0, .int .i64 x.f_Chain.f_N, v1] fun g1 w1 H => vs ?_
  refine x_ldp H [v0_0, .int .i64 x.f_Chain.f_N] st60 (vs ?_)
  refine x_call (szChain_ok w1 _ _ _ (H.rd h0) (by omega) (by omega)) fun _ w2 ⟨z0, e0, hb0, a0, b0, s0⟩ => ?_
  subst e0
  have H := H.go hb0
  refine vs (ways ?_ ?_)
  · refine vh fun hneg => ?_
    exact ⟨-1, rfl, H.bel, by omega, by omega, by omega⟩
  refine vh fun hge0 => ?_
  refine x_ld H sc72 ?_
  refine vs ?_
  refine x_call (szKeptS_ok w2 _ _ _ (H.rd h1) (by omega) (by omega)) fun _ w3 ⟨z1, e1, hb1, a1, b1, s1⟩ => ?_
  subst e1
  have H := H.go hb1
  refine vs (ways ?_ ?_)
  · refine vh fun hneg => ?_
    exact ⟨-1, rfl, H.bel, by omega, by omega, by omega⟩
  refine vh fun hge1 => ?_
  exact ⟨z1, rfl, H.bel, by omega, by omega, fun _ => ⟨s0 (by omega), s1 (by omega)⟩⟩

/-! ### Reader -/
structure MReader where
  f_Seed : (List UInt8)
  f_Epoch : Int
  f_Seen : (List (List UInt8))
  f_Got : (List (List UInt8))
def kReader : Kd MReader := (Kd.pair (Kd.slice 5 Kd.u8) (Kd.pair Kd.i64 (Kd.pair (Kd.slice 22 (Kd.slice 5 Kd.u8)) (Kd.slice 22 (Kd.slice 5 Kd.u8))))).iso (fun c : MReader => (c.f_Seed, c.f_Epoch, c.f_Seen, c.f_Got))
theorem kReader_sz : kReader.sz = 4 := rfl
theorem opens_36 : Opens Try.prog 36 kReader := opens_iso (fun p => ⟨p.1, p.2.1, p.2.2.1, p.2.2.2⟩) (opens_struct Try.underlying36 (ofs_cons (opens_slice Try.underlying22 (opens_u8 Try.underlying5) (by kernel_rfl) (by decide)) rfl (by kernel_rfl) (ofs_cons (opens_i64 Try.underlying3) rfl (by kernel_rfl) (ofs_cons (opens_slice Try.underlying31 (opens_slice Try.underlying22 (opens_u8 Try.underlying5) (by kernel_rfl) (by decide)) (by kernel_rfl) (by decide)) rfl (by kernel_rfl) (ofs_one (opens_slice Try.underlying31 (opens_slice Try.underlying22 (opens_u8 Try.underlying5) (by kernel_rfl) (by decide)) (by kernel_rfl) (by decide)) rfl (by kernel_rfl))))) (by kernel_rfl)) (fun _ => rfl)
theorem opens_33 : Opens Try.prog 33 kReader := opens_iso (fun p => ⟨p.1, p.2.1, p.2.2.1, p.2.2.2⟩) (opens_struct Try.underlying33 (ofs_cons (opens_slice Try.underlying22 (opens_u8 Try.underlying5) (by kernel_rfl) (by decide)) rfl (by kernel_rfl) (ofs_cons (opens_i64 Try.underlying3) rfl (by kernel_rfl) (ofs_cons (opens_slice Try.underlying31 (opens_slice Try.underlying22 (opens_u8 Try.underlying5) (by kernel_rfl) (by decide)) (by kernel_rfl) (by decide)) rfl (by kernel_rfl) (ofs_one (opens_slice Try.underlying31 (opens_slice Try.underlying22 (opens_u8 Try.underlying5) (by kernel_rfl) (by decide)) (by kernel_rfl) (by decide)) rfl (by kernel_rfl))))) (by kernel_rfl)) (fun _ => rfl)
theorem kReader_open {w : World} {n : Nat} {cs : List Value} {x : MReader} (h : kReader.rd w n cs x) : ∃ v0 v2 v3, cs = [v0, .int .i64 x.f_Epoch, v2, v3] ∧ ((Kd.slice 5 Kd.u8).rd w n [v0] x.f_Seed) ∧ (-9223372036854775808 ≤ x.f_Epoch ∧ x.f_Epoch < 9223372036854775808) ∧ ((Kd.slice 22 (Kd.slice 5 Kd.u8)).rd w n [v2] x.f_Seen) ∧ ((Kd.slice 22 (Kd.slice 5 Kd.u8)).rd w n [v3] x.f_Got) := by
  obtain ⟨a0, b0, rfl, h0, h⟩ := h
  obtain ⟨a1, b1, rfl, h1, h⟩ := h
  obtain ⟨a2, b2, rfl, h2, h3⟩ := h
  obtain ⟨v0, rfl⟩ := sl_one h0
  obtain ⟨rfl, h1⟩ := h1
  obtain ⟨v2, rfl⟩ := sl_one h2
  obtain ⟨v3, rfl⟩ := sl_one h3
  exact ⟨v0, v2, v3, rfl, h0, h1, h2, h3⟩
def zReader : MReader := ⟨[], 0, [], []⟩
theorem kReader_zero (w : World) : kReader.ow w [] [.slice none 0 0, .int .i64 0, .slice none 0 0, .slice none 0 0] zReader := (pair_zero (sl_zero w) (pair_zero (plain_zero pl_i64 w (by decide)) (pair_zero (sl_zero w) (sl_zero w))))
def smReader (x : MReader) : Prop := ((x.f_Seed).length ≤ 1048576) ∧ (smByteSS x.f_Seen) ∧ (smByteSS x.f_Got)
theorem toReader_ok (w : World) (cs : List Value) (x : MReader) (h : kReader.rd w w.heap.size cs x) (hs : smReader x) :
    ACalls Try.prog 25 #[.agg cs.toArray] w fun r w' => ∃ cs' fp, r = .agg cs'.toArray ∧ Sep w.heap.size w w' [Ck.own kReader fp cs' x] := by
  unfold smReader at hs
  obtain ⟨v0, v2, v3, rfl, h0, h1, h2, h3⟩ := kReader_open h
  have H := Sep.start w
  refine body_of follows Try.func25 rfl rfl _ rfl (by kernel_rfl) (vs ?_)
  refine x_bx H [v0, .int .i64 x.f_Epoch, v2, v3] fun g1 w1 H => vs ?_
  refine x_al H st36 fun g2 w2 H => vs ?_
  refine x_al H st36 fun g3 w3 H => vs ?_
  refine x_ld H sc22 ?_
  refine vs ?_
  refine x_callf H (toByteS_ok w3 _ _ (H.rd h0) (by have := hs.1; omega)) fun r0 fp0 w4 H => vs ?_
  refine x_st H sc22 (h1 := Kd.one _ (H.own (.head _)) _ (by simp)) fun w5 H => vs ?_
  refine x_ld H sc3 ?_
  refine vs ?_
  refine x_st H sc3 fun w6 H => vs ?_
  refine x_ld H sc31 ?_
  refine vs ?_
  refine x_callf H (toByteSS_ok w6 _ _ (H.rd h2) (hs.2.1)) fun r2 fp2 w7 H => vs ?_
  refine x_st H sc31 (h1 := Kd.one _ (H.own (.head _)) _ (by simp)) fun w8 H => vs ?_
  refine x_ld H sc31 ?_
  refine vs ?_
  refine x_callf H (toByteSS_ok w8 _ _ (H.rd h3) (hs.2.2)) fun r3 fp3 w9 H => vs ?_
  refine x_st H sc31 (h1 := Kd.one _ (H.own (.head _)) _ (by simp)) fun w10 H => vs ?_
  have H := H.front (c := Ck.own (Kd.slice 22 (Kd.slice 5 Kd.u8)) fp3 [r3] x.f_Got)
  have H := H.front (c := Ck.own (Kd.slice 22 (Kd.slice 5 Kd.u8)) fp2 [r2] x.f_Seen)
  have H := H.pair
  have H := H.plain pl_i64 (x := x.f_Epoch) h1
  have H := H.pair
  have H := H.front (c := Ck.own (Kd.slice 5 Kd.u8) fp0 [r0] x.f_Seed)
  have H := H.pair
  have H := Sep.iso (y := x) (f := fun c : MReader => (c.f_Seed, c.f_Epoch, c.f_Seen, c.f_Got)) H
  refine x_lda H st36 ?_
  refine vs ?_
  refine x_sta H st36 (h1 := Kd.one _ (H.own (.head _))) fun w11 H => vs ?_
  exact ⟨_, _, rfl, res_cell H st36, _, _, rfl, H.head⟩
theorem eqReader_ok (w : World) (cs ds : List Value) (x : MReader) (h : kReader.rd w w.heap.size cs x) (h' : kReader.rd w w.heap.size ds x) :
    ACalls Try.prog 28 #[.agg cs.toArray, .agg ds.toArray] w fun r w' => r = .bool true ∧ Below w.heap.size w w' := by
  obtain ⟨v0, v2, v3, rfl, h0, h1, h2, h3⟩ := kReader_open h
  obtain ⟨u0, u2, u3, rfl, k0, k1, k2, k3⟩ := kReader_open h'
  have H := Sep.start w
  refine body_of follows Try.func28 rfl rfl _ rfl (by kernel_rfl) (vs ?_)
  refine x_bx H [v0, .int .i64 x.f_Epoch, v2, v3] fun g1 w1 H => vs ?_
  refine x_bx H [u0, .int .i64 x.f_Epoch, u2, u3] fun g2 w2 H => vs ?_
  refine x_ld H sc22 ?_
  refine vs ?_
  refine x_ld H sc22 ?_
  refine vs ?_
  refine x_callb H (eqByteS_ok w2 _ _ _ _ (H.rd h0) (H.rd k0)) fun w3 H => vs ?_
  refine x_ld H sc3 ?_
  refine vs ?_
  refine x_ld H sc3 ?_
  refine vs ?_
  refine x_ld H sc31 ?_
  refine vs ?_
  refine x_ld H sc31 ?_
  refine vs ?_
  refine x_callb H (eqByteSS_ok w3 _ _ _ (H.rd h2) (H.rd k2)) fun w4 H => vs ?_
  refine x_ld H sc31 ?_
  refine vs ?_
  refine x_ld H sc31 ?_
  refine vs ?_
  refine x_callb H (eqByteSS_ok w4 _ _ _ (H.rd h3) (H.rd k3)) fun w5 H => vs ?_
  exact H.bel
theorem szReader_ok (w : World) (cs : List Value) (x : MReader) (left : Int) (h : kReader.rd w w.heap.size cs x) (hl0 : 0 ≤ left) (hl1 : left ≤ 1048576) :
    ACalls Try.prog 23 #[.agg cs.toArray, .int .i64 left] w fun r w' => ∃ z : Int, r = .int .i64 z ∧ Below w.heap.size w w' ∧ -1 ≤ z ∧ z ≤ left ∧ (0 ≤ z → smReader x) := by
  obtain ⟨v0, v2, v3, rfl, h0, h1, h2, h3⟩ := kReader_open h
  have H := Sep.start w
  refine body_of follows Try.func23 rfl rfl _ rfl (by kernel_rfl) (vs ?_)
  refine x_bx H [v0, .int .i64 x.f_Epoch, v2, v3] fun g1 w1 H => vs ?_
  refine x_ld H sc22 ?_
  refine vs ?_
  refine x_call (szByteS_ok w1 _ _ _ (H.rd h0) (by omega) (by omega)) fun _ w2 ⟨z0, e0, hb0, a0, b0, s0⟩ => ?_
  subst e0
  have H := H.go hb0
  refine vs (ways ?_ ?_)
  · refine vh fun hneg => ?_
    exact ⟨-1, rfl, H.bel, by omega, by omega, by omega⟩
  refine vh fun hge0 => ?_
  refine x_ld H sc31 ?_
  refine vs ?_
  refine x_call (szByteSS_ok w2 _ _ _ (H.rd h2) (by omega) (by omega)) fun _ w3 ⟨z1, e1, hb1, a1, b1, s1⟩ => ?_
  subst e1
  have H := H.go hb1
  refine vs (ways ?_ ?_)
  · refine vh fun hneg => ?_
    exact ⟨-1, rfl, H.bel, by omega, by omega, by omega⟩
  refine vh fun hge1 => ?_
  refine x_ld H sc31 ?_
  refine vs ?_
  refine x_call (szByteSS_ok w3 _ _ _ (H.rd h3) (by omega) (by omega)) fun _ w4 ⟨z2, e2, hb2, a2, b2, s2⟩ => ?_
  subst e2
  have H := H.go hb2
  refine vs (ways ?_ ?_)
  · refine vh fun hneg => ?_
    exact ⟨-1, rfl, H.bel, by omega, by omega, by omega⟩
  refine vh fun hge2 => ?_
  exact ⟨z2, rfl, H.bel, by omega, by omega, fun _ => ⟨s0 (by omega), s1 (by omega), s2 (by omega)⟩⟩
end Go.Proofs.Ytagljofpmjaciaa.V
