/- Types of the program as data, and the laws helpers on them, walked. Laid by a program. -/
import Derived.Test.YtijbmapeechcpaaWa
import Derived.Test.YtijbmapeechcpaaVo
namespace Go.Proofs.Ytijbmapeechcpaa.V
open Go Go.RowKit
set_option maxRecDepth 100000
set_option maxHeartbeats 4000000
set_option linter.unusedSimpArgs false
set_option linter.unusedVariables false
set_option pp.deepTerms false
set_option pp.deepTerms.threshold 3

/-! ### lists of ByteS -/
def smByteSS (l : List (List UInt8)) : Prop := l.length ≤ 1048576 ∧ ∀ y ∈ l, (y).length ≤ 1048576
theorem eqByteSS_ok (w : World) (v v' : Value) (l : List (List UInt8)) (h : (Kd.slice 22 (Kd.slice 5 Kd.u8)).rd w w.heap.size [v] l) (h' : (Kd.slice 22 (Kd.slice 5 Kd.u8)).rd w w.heap.size [v'] l) :
    ACalls Try.prog 18 #[v, v'] w fun r w' => r = .bool true ∧ Below w.heap.size w w' := by
  obtain ⟨A, c, rfl, hc1, hc2, ha⟩ := sl_open h
  obtain ⟨A', c', rfl, hc1', hc2', ha'⟩ := sl_open h'
  have hlm : l.length ≤ 9223372036854775807 := sl_len h
  refine body_of follows Try.func18 rfl rfl _ rfl (by kernel_rfl) (vs ?_)
  refine loop_at (σ := Nat) (fun k => [(0, .slice A l.length c), (1, .slice A' l.length c'), (5, .int .i64 (k : Int))])
    (fun k w' => k ≤ l.length ∧ Sep w.heap.size w w' []) (fun k => l.length - k) 0 (vs trivial) ⟨Nat.zero_le _, Sep.start w⟩ ?_
  rintro k s w2 ⟨hk, H⟩
  refine vs (ways ?_ ?_)
  · refine vh fun hlt => ?_
    have hk2 : k < l.length := by omega
    refine draw_of [(0, true), (1, true), (2, true), (3, true), (4, true), (5, true), (6, true), (7, true), (8, false), (9, true)] w2.heap.size [] fun w3 hh hb3 => vs ?_
    have H := H.go (hb3 _)
    refine q_elg sl23 rfl (ha.mono H.bel) (by omega) hlt fun ad es hb hr hc => vs ?_
    obtain ⟨u, rfl⟩ := sl_one hr
    have hlt1 : ad.block < w2.heap.size := by have := H.ns; rw [hh] at this; omega
    refine q_ld1 sc22 hc rfl hlt1 (vs ?_)
    refine q_elg sl23 rfl (ha'.mono H.bel) (by omega) hlt fun ad' es' hb' hr' hc' => vs ?_
    obtain ⟨u', rfl⟩ := sl_one hr'
    have hlt2 : ad'.block < w2.heap.size := by have := H.ns; rw [hh] at this; omega
    refine q_ld1 sc22 hc' rfl hlt2 (vs ?_)
    refine x_call (eqByteS_ok w3 _ _ _ _ (Kd.le _ hr H.ns) (Kd.le _ hr' H.ns)) fun _ w4 ⟨e4, hb4⟩ => ?_
    subst e4
    refine vs ?_
    have H4 := H.go hb4
    exact ⟨kept_of hb4 (Nat.le_of_eq (by rw [hh])), k + 1, i64_eq (by unfold w64; omega), ⟨hk2, H4⟩, by omega⟩
  · refine vh fun hlt => ?_
    exact H.bel

/-! ### Reader -/
structure MReader where
  f_Seed : (List UInt8)
  f_Epoch : Int
  f_Seen : (List (List UInt8))
  f_Got : (List (List UInt8))
def kReader : Kd MReader := (Kd.pair (Kd.slice 5 Kd.u8) (Kd.pair Kd.i64 (Kd.pair (Kd.slice 22 (Kd.slice 5 Kd.u8)) (Kd.slice 22 (Kd.slice 5 Kd.u8))))).iso (fun c : MReader => (c.f_Seed, c.f_Epoch, c.f_Seen, c.f_Got))
theorem kReader_sz : kReader.sz = 4 := rfl
theorem opens_25 : Opens Try.prog 25 kReader := opens_iso (fun p => ⟨p.1, p.2.1, p.2.2.1, p.2.2.2⟩) (opens_struct Try.underlying25 (ofs_cons (opens_slice Try.underlying22 (opens_u8 Try.underlying5) (by kernel_rfl) (by decide)) rfl (by kernel_rfl) (ofs_cons (opens_i64 Try.underlying3) rfl (by kernel_rfl) (ofs_cons (opens_slice Try.underlying23 (opens_slice Try.underlying22 (opens_u8 Try.underlying5) (by kernel_rfl) (by decide)) (by kernel_rfl) (by decide)) rfl (by kernel_rfl) (ofs_one (opens_slice Try.underlying23 (opens_slice Try.underlying22 (opens_u8 Try.underlying5) (by kernel_rfl) (by decide)) (by kernel_rfl) (by decide)) rfl (by kernel_rfl))))) (by kernel_rfl)) (fun _ => rfl)
theorem kReader_open {w : World} {n : Nat} {cs : List Value} {x : MReader} (h : kReader.rd w n cs x) : ∃ v0 v2 v3, cs = [v0, .int .i64 x.f_Epoch, v2, v3] ∧ ((Kd.slice 5 Kd.u8).rd w n [v0] x.f_Seed) ∧ (-9223372036854775808 ≤ x.f_Epoch ∧ x.f_Epoch < 9223372036854775808) ∧ ((Kd.slice 22 (Kd.slice 5 Kd.u8)).rd w n [v2] x.f_Seen) ∧ ((Kd.slice 22 (Kd.slice 5 Kd.u8)).rd w n [v3] x.f_Got) := by
  obtain ⟨a0, b0, rfl, h0, h⟩ := h
  obtain ⟨a1, b1, rfl, h1, h⟩ := h
  obtain ⟨a2, b2, rfl, h2, h3⟩ := h
  obtain ⟨v0, rfl⟩ := sl_one h0
  obtain ⟨rfl, h1⟩ := h1
  obtain ⟨v2, rfl⟩ := sl_one h2
  obtain ⟨v3, rfl⟩ := sl_one h3
  exact ⟨v0, v2, v3, rfl, h0, h1, h2, h3⟩
def zReader : MReader := ⟨[], 0, [], []⟩
theorem kReader_zero (w : World) : kReader.ow w [] [.slice none 0 0, .int .i64 0, .slice none 0 0, .slice none 0 0] zReader := (pair_zero (sl_zero w) (pair_zero (plain_zero pl_i64 w (by decide)) (pair_zero (sl_zero w) (sl_zero w))))
def smReader (x : MReader) : Prop := ((x.f_Seed).length ≤ 1048576) ∧ (smByteSS x.f_Seen) ∧ (smByteSS x.f_Got)
theorem eqReader_ok (w : World) (cs ds : List Value) (x : MReader) (h : kReader.rd w w.heap.size cs x) (h' : kReader.rd w w.heap.size ds x) :
    ACalls Try.prog 7 #[.agg cs.toArray, .agg ds.toArray] w fun r w' => r = .bool true ∧ Below w.heap.size w w' := by
  obtain ⟨v0, v2, v3, rfl, h0, h1, h2, h3⟩ := kReader_open h
  obtain ⟨u0, u2, u3, rfl, k0, k1, k2, k3⟩ := kReader_open h'
  have H := Sep.start w
  refine body_of follows Try.func7 rfl rfl _ rfl (by kernel_rfl) (vs ?_)
  refine x_bx H [v0, .int .i64 x.f_Epoch, v2, v3] fun g1 w1 H => vs ?_
  refine x_bx H [u0, .int .i64 x.f_Epoch, u2, u3] fun g2 w2 H => vs ?_
  refine x_ld H sc22 ?_
  refine vs ?_
  refine x_ld H sc22 ?_
  refine vs ?_
  refine x_callb H (eqByteS_ok w2 _ _ _ _ (H.rd h0) (H.rd k0)) fun w3 H => vs ?_
  refine x_ld H sc3 ?_
  refine vs ?_
  refine x_ld H sc3 ?_
  refine vs ?_
  refine x_ld H sc23 ?_
  refine vs ?_
  refine x_ld H sc23 ?_
  refine vs ?_
  refine x_callb H (eqByteSS_ok w3 _ _ _ (H.rd h2) (H.rd k2)) fun w4 H => vs ?_
  refine x_ld H sc23 ?_
  refine vs ?_
  refine x_ld H sc23 ?_
  refine vs ?_
  refine x_callb H (eqByteSS_ok w4 _ _ _ (H.rd h3) (H.rd k3)) fun w5 H => vs ?_
  exact H.bel
end Go.Proofs.Ytijbmapeechcpaa.V
