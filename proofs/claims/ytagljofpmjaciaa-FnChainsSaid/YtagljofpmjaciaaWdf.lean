/- Draws of so many bytes, or nearly. -/
import Derived.Test.YtagljofpmjaciaaWda
namespace Go.Proofs.Ytagljofpmjaciaa.V
open Go Go.RowKit
set_option maxRecDepth 100000
set_option maxHeartbeats 4000000
set_option linter.unusedSimpArgs false
set_option linter.unusedVariables false
set_option pp.deepTerms false
set_option pp.deepTerms.threshold 3

theorem l1Max_ok (w : World) (a b : Int) : ACalls Try.prog 137 #[.int .i64 a, .int .i64 b] w fun r w' => r = .int .i64 (max a b) ∧ w' = w := by
  refine body_of follows Try.func137 rfl rfl _ rfl (by kernel_rfl) (vs ?_)
  by_cases q : b < a
  · refine ve q ?_
    congr 1; omega
  · refine ve q ?_
    congr 1; omega
theorem l1DrawJust_ok {n : Nat} {w0 w : World} {L : List Ck} {g : Nat} {v : Value} {i h : Int} {a : List UInt8} (m : Nat) (H : Sep n w0 w (curB g v i h :: L)) (hv : (bytes 5).rd w0 n [v] a) (hi : 0 ≤ i ∧ i ≤ a.length) (hm : m ≤ 1048576) :
    ACalls Try.prog 136 #[.pointer (some ⟨g, 0, none⟩), .int .i64 (m : Int)] w fun r w' => ∃ (b : List UInt8) (fp : List Nat) (i' h' : Int), b.length = m ∧ (0 ≤ i' ∧ i' ≤ a.length) ∧ Sep n w0 w' (Ck.own (bytes 5) fp [r] b :: curB g v i' h' :: L) := by
  refine body_of follows Try.func136 rfl rfl _ rfl (by kernel_rfl) (vs ?_)
  refine x_emp H pl_u8 sl22 fun g1 w1 H => vs ?_
  refine loop_at (σ := Nat × Value × List UInt8 × List Nat × Int × Int) (fun y => [(0, .pointer (some ⟨g, 0, none⟩)), (1, .int .i64 (m : Int)), (5, y.2.1), (6, .int .i64 (y.1 : Int))])
    (fun y w' => y.1 ≤ m ∧ y.2.2.1.length = y.1 ∧ (0 ≤ y.2.2.2.2.1 ∧ y.2.2.2.2.1 ≤ a.length) ∧ Sep n w0 w' (Ck.own (bytes 5) y.2.2.2.1 [y.2.1] y.2.2.1 :: curB g v y.2.2.2.2.1 y.2.2.2.2.2 :: L)) (fun y => m - y.1) (0, .slice (some ⟨g1, 0, none⟩) 0 0, [], [g1], i, h) (vs trivial) ⟨Nat.zero_le _, rfl, hi, H⟩ ?_
  rintro ⟨j, u, b, fp, i2, h2⟩ s w3 ⟨hj, hb, hi2, H⟩
  dsimp only at hj hb hi2 H
  refine vs (ways ?_ ?_)
  · refine vh fun hlt => ?_
    have H := H.front (c := curB g v i2 h2)
    refine x_call (l1Below_ok 256 H hv hi2) fun _ w4 ⟨q, i3, h3, e, hq, hi3, H⟩ => ?_
    subst e
    refine ve (u8_low (k := q) (by omega)) ?_
    refine x_lst H pl_u8 sl22 [UInt8.ofNat q] (by simp) fun g4 w4 H => vs ?_
    refine x_app H pl_u8 sl22 (H.own (.head _)) ?_ ?_ fun f5 v5 w5 H => vs ?_
    · simp only [List.length_cons, List.length_nil]; omega
    · simp only [List.length_cons, List.length_nil]; omega
    refine ⟨(j + 1, v5, b ++ [UInt8.ofNat q], f5, i3, h3), ⟨rfl, i64_eq (by show w64 ((j : Int) + 1) = ((j + 1 : Nat) : Int); exact w64_succ (b := 1048576) (by omega) (by omega))⟩, ⟨by dsimp only; omega, by dsimp only; simp [hb], hi3, ?_⟩, by show m - (j + 1) < m - j; omega⟩
    have H := H.front (c := Ck.own (bytes 5) f5 [v5] (b ++ [UInt8.ofNat q]))
    exact H.drops' (L := [_])
  · refine vh fun hlt => ?_
    exact ⟨_, _, _, _, by omega, hi2, H⟩
theorem l1DrawNear_ok {n : Nat} {w0 w : World} {L : List Ck} {g : Nat} {v : Value} {i h : Int} {a : List UInt8} (m : Nat) (H : Sep n w0 w (curB g v i h :: L)) (hv : (bytes 5).rd w0 n [v] a) (hi : 0 ≤ i ∧ i ≤ a.length) (hm : m ≤ 1048000) :
    ACalls Try.prog 105 #[.pointer (some ⟨g, 0, none⟩), .int .i64 (m : Int)] w fun r w' => ∃ (b : List UInt8) (fp : List Nat) (i' h' : Int), b.length ≤ m + 1 ∧ (0 ≤ i' ∧ i' ≤ a.length) ∧ Sep n w0 w' (Ck.own (bytes 5) fp [r] b :: curB g v i' h' :: L) := by
  refine body_of follows Try.func105 rfl rfl _ rfl (by kernel_rfl) (vs ?_)
  refine x_call (l1Below_ok 16 H hv hi) fun _ w1 ⟨k, i1, h1, e, hk, hi1, H⟩ => ?_
  subst e
  by_cases q0 : (k : Int) = 0
  · refine ve q0 ?_
    refine ve (show w64 ((m : Int) + 1) = ((m + 1 : Nat) : Int) by rw [w64_id (by omega) (by omega)]; omega) ?_
    refine x_call (l1DrawJust_ok (m + 1) H hv hi1 (by omega)) fun r w2 ⟨b, fp, i2, h2, hb, hi2, H⟩ => vs ?_
    exact ⟨_, _, _, _, by omega, hi2, H⟩
  refine ve q0 ?_
  by_cases q1 : (k : Int) = 1
  · refine ve q1 ?_
    refine ve (show w64 ((m : Int) - 1) = (m : Int) - 1 by rw [w64_id (by omega) (by omega)]) ?_
    refine x_callw (l1Max_ok w1 _ _) ?_
    rw [show max ((m : Int) - 1) 0 = ((m - 1 : Nat) : Int) by omega]
    refine vs ?_
    refine x_call (l1DrawJust_ok (m - 1) H hv hi1 (by omega)) fun r w2 ⟨b, fp, i2, h2, hb, hi2, H⟩ => vs ?_
    exact ⟨_, _, _, _, by omega, hi2, H⟩
  refine ve q1 ?_
  by_cases q2 : (k : Int) = 2
  · refine ve q2 ?_
    refine x_emp H pl_u8 sl22 fun g2 w2 H => vs ?_
    exact ⟨_, _, _, _, by simp, hi1, H⟩
  refine ve q2 ?_
  refine x_call (l1DrawJust_ok m H hv hi1 (by omega)) fun r w2 ⟨b, fp, i2, h2, hb, hi2, H⟩ => vs ?_
  exact ⟨_, _, _, _, by omega, hi2, H⟩
end Go.Proofs.Ytagljofpmjaciaa.V
