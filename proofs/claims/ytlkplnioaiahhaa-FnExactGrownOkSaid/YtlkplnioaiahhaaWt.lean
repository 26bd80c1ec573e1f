/- Types of the program as data, and the laws helpers on them, walked. Laid by a program. -/
import Derived.Test.YtlkplnioaiahhaaWa
import Derived.Test.YtlkplnioaiahhaaVo
namespace Go.Proofs.Ytlkplnioaiahhaa.V
open Go Go.RowKit
set_option maxRecDepth 100000
set_option maxHeartbeats 4000000
set_option linter.unusedSimpArgs false
set_option linter.unusedVariables false
set_option pp.deepTerms false
set_option pp.deepTerms.threshold 3

/-! ### lists of ByteS -/
def smByteSS (l : List (List UInt8)) : Prop := l.length ≤ 1048576 ∧ ∀ y ∈ l, (y).length ≤ 1048576
theorem toByteSS_ok (w : World) (v : Value) (l : List (List UInt8)) (h : (Kd.slice 22 (Kd.slice 5 Kd.u8)).rd w w.heap.size [v] l) (hs : smByteSS l) :
    ACalls Try.prog 36 #[v] w fun r w' => ∃ fp, Sep w.heap.size w w' [Ck.own (Kd.slice 22 (Kd.slice 5 Kd.u8)) fp [r] l] := by
  obtain ⟨A, c, rfl, hc1, hc2, ha⟩ := sl_open h
  have hlen := hs.1
  have H := Sep.start w
  refine body_of follows Try.func36 rfl rfl _ rfl (by kernel_rfl) (vs ?_)
  refine x_mkZ (d := (Kd.slice 5 Kd.u8)) H sl24 [.slice none 0 0] ([] : (List UInt8)) rfl (fun w => sl_zero w) (by omega) (by omega) fun g w1 H => vs ?_
  refine loop_at (σ := Nat × List Nat) (fun x => [(0, .slice A l.length c), (3, .slice (some ⟨g, 0, none⟩) l.length l.length), (4, .int .i64 (x.1 : Int))])
    (fun x w' => x.1 ≤ l.length ∧ Sep w.heap.size w w' [Ck.own (Kd.slice 22 (Kd.slice 5 Kd.u8)) x.2 [.slice (some ⟨g, 0, none⟩) l.length l.length] (l.take x.1 ++ List.replicate (l.length - x.1) [])]) (fun x => l.length - x.1) (0, _) (vs trivial) ⟨Nat.zero_le _, by rw [take_zero_repl]; exact H⟩ ?_
  rintro ⟨k, fp⟩ s w2 ⟨hk, H⟩
  dsimp only at hk H
  refine vs (ways ?_ ?_)
  · refine vh fun hlt => ?_
    have hk2 : k < l.length := by omega
    refine x_elg sl24 rfl (ha.mono H.bel) (by omega) hlt fun ad es hb hr hc => vs ?_
    obtain ⟨u, rfl⟩ := sl_one hr
    refine x_ld1 sc22 hc rfl (vs ?_)
    refine x_callf H (toByteS_ok w2 _ _ (Kd.le _ hr H.ns) (by have := hs.2 (l[(k : Int).toNat]'(by omega)) (List.getElem_mem _); omega)) fun r2 fp2 w3 H => vs ?_
    refine x_index sl24 rfl (by omega) hlt (vs ?_)
    refine x_stS1 sc22 H rfl hk2 (Kd.one _ (H.own (.head _)) _ (by simp)) fun fp3 w4 H => vs ?_
    have H : Sep w.heap.size w w4 [Ck.own (Kd.slice 22 (Kd.slice 5 Kd.u8)) fp3 [.slice (some ⟨g, 0, none⟩) l.length l.length] (l.take (k + 1) ++ List.replicate (l.length - (k + 1)) [])] := by rw [← take_set l [] k hk2]; exact H
    exact ⟨(k + 1, fp3), i64_eq (by show w64 ((k : Int) + 1) = ((k + 1 : Nat) : Int); unfold w64; omega), ⟨hk2, H⟩, by show l.length - (k + 1) < l.length - k; omega⟩
  · refine vh fun hlt => ?_
    rw [take_all_repl l [] (by omega)] at H
    exact ⟨_, H⟩
theorem eqByteSS_ok (w : World) (v v' : Value) (l : List (List UInt8)) (h : (Kd.slice 22 (Kd.slice 5 Kd.u8)).rd w w.heap.size [v] l) (h' : (Kd.slice 22 (Kd.slice 5 Kd.u8)).rd w w.heap.size [v'] l) :
    ACalls Try.prog 37 #[v, v'] w fun r w' => r = .bool true ∧ Below w.heap.size w w' := by
  obtain ⟨A, c, rfl, hc1, hc2, ha⟩ := sl_open h
  obtain ⟨A', c', rfl, hc1', hc2', ha'⟩ := sl_open h'
  have hlm : l.length ≤ 9223372036854775807 := sl_len h
  refine body_of follows Try.func37 rfl rfl _ rfl (by kernel_rfl) (vs ?_)
  refine loop_at (σ := Nat) (fun k => [(0, .slice A l.length c), (1, .slice A' l.length c'), (5, .int .i64 (k : Int))])
    (fun k w' => k ≤ l.length ∧ Sep w.heap.size w w' []) (fun k => l.length - k) 0 (vs trivial) ⟨Nat.zero_le _, Sep.start w⟩ ?_
  rintro k s w2 ⟨hk, H⟩
  refine vs (ways ?_ ?_)
  · refine vh fun hlt => ?_
    have hk2 : k < l.length := by omega
    refine draw_of [(0, true), (1, true), (2, true), (3, true), (4, true), (5, true), (6, true), (7, true), (8, false), (9, true)] w2.heap.size [] fun w3 hh hb3 => vs ?_
    have H := H.go (hb3 _)
    refine q_elg sl24 rfl (ha.mono H.bel) (by omega) hlt fun ad es hb hr hc => vs ?_
    obtain ⟨u, rfl⟩ := sl_one hr
    have hlt1 : ad.block < w2.heap.size := by have := H.ns; rw [hh] at this; omega
    refine q_ld1 sc22 hc rfl hlt1 (vs ?_)
    refine q_elg sl24 rfl (ha'.mono H.bel) (by omega) hlt fun ad' es' hb' hr' hc' => vs ?_
    obtain ⟨u', rfl⟩ := sl_one hr'
    have hlt2 : ad'.block < w2.heap.size := by have := H.ns; rw [hh] at this; omega
    refine q_ld1 sc22 hc' rfl hlt2 (vs ?_)
    refine x_call (eqByteS_ok w3 _ _ _ _ (Kd.le _ hr H.ns) (Kd.le _ hr' H.ns)) fun _ w4 ⟨e4, hb4⟩ => ?_
    subst e4
    refine vs ?_
    have H4 := H.go hb4
    exact ⟨kept_of hb4 (Nat.le_of_eq (by rw [hh])), k + 1, i64_eq (by unfold w64; omega), ⟨hk2, H4⟩, by omega⟩
  · refine vh fun hlt => ?_
    exact H.bel
theorem szByteSS_ok (w : World) (v : Value) (l : List (List UInt8)) (left : Int) (h : (Kd.slice 22 (Kd.slice 5 Kd.u8)).rd w w.heap.size [v] l) (hl0 : 0 ≤ left) (hl1 : left ≤ 1048576) :
    ACalls Try.prog 35 #[v, .int .i64 left] w fun r w' => ∃ z : Int, r = .int .i64 z ∧ Below w.heap.size w w' ∧ -1 ≤ z ∧ z ≤ left ∧ (0 ≤ z → smByteSS l) := by
  have hlm : l.length ≤ 9223372036854775807 := sl_len h
  obtain ⟨A, c, rfl, hc1, hc2, ha⟩ := sl_open h
  refine body_of follows Try.func35 rfl rfl _ rfl (by kernel_rfl) (vs ?_)
  have q : w64 (left - (l.length : Int)) = left - l.length := w64_id (by omega) (by omega)
  refine ve q (ways ?_ ?_)
  · refine vh fun hneg => ?_
    exact ⟨-1, rfl, Below.refl .., by omega, by omega, by omega⟩
  refine vh fun hge => ?_
  have H := Sep.start w
  refine loop_at (σ := Nat × Int) (fun x => [(0, .slice A l.length c), (1, .int .i64 x.2), (5, .int .i64 (x.1 : Int))])
    (fun x w' => x.1 ≤ l.length ∧ 0 ≤ x.2 ∧ x.2 ≤ left ∧ (∀ i (hi : i < l.length), i < x.1 → (l[i]).length ≤ 1048576) ∧ Sep w.heap.size w w' []) (fun x => l.length - x.1) (0, left - l.length) (vs ?_) ⟨Nat.zero_le _, by show 0 ≤ left - (l.length : Int); omega, by show left - (l.length : Int) ≤ left; omega, fun i hi h => absurd h (Nat.not_lt_zero i), H⟩ ?_
  · exact i64_eq q
  rintro ⟨k, z⟩ s w2 ⟨hk, hz0, hz1, hall, H⟩
  dsimp only at hk hz0 hz1 hall H
  refine vs (ways ?_ ?_)
  · refine vh fun hlt => ?_
    have hk2 : k < l.length := by omega
    refine x_elg sl24 rfl (ha.mono H.bel) (by omega) hlt fun ad es hb hr hc => vs ?_
    obtain ⟨u, rfl⟩ := sl_one hr
    refine x_ld1 sc22 hc rfl (vs ?_)
    refine x_call (szByteS_ok w2 _ _ _ (Kd.le _ hr H.ns) (by omega) (by omega)) fun _ w3 ⟨z2, e2, hb2, a2, b2, s2⟩ => ?_
    subst e2
    have H := H.go hb2
    refine vs (ways ?_ ?_)
    · refine vh fun hneg => ?_
      exact ⟨-1, rfl, H.bel, by omega, by omega, by omega⟩
    · refine vh fun hge2 => ?_
      refine ⟨(k + 1, z2), ⟨rfl, i64_eq (by show w64 ((k : Int) + 1) = ((k + 1 : Nat) : Int); unfold w64; omega)⟩, ⟨hk2, by show 0 ≤ z2; omega, by show z2 ≤ left; omega, fun i hi h => ?_, H⟩, by show l.length - (k + 1) < l.length - k; omega⟩
      by_cases h2 : i = k
      · subst h2; exact s2 (by omega)
      · exact hall i hi (by show i < k; have : i < k + 1 := h; omega)
  · refine vh fun hlt => ?_
    exact ⟨z, rfl, H.bel, by omega, hz1, fun _ => ⟨by omega, fun y hy => by obtain ⟨i, hi, rfl⟩ := List.getElem_of_mem hy; exact hall i hi (by omega)⟩⟩
end Go.Proofs.Ytlkplnioaiahhaa.V
