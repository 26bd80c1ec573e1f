/- Bytes in signs of four bits, read and written; routes: both sides. -/
import Derived.Test.YtcmckbgiiclomaaGreatDoorWa
import Derived.Test.YtcmckbgiiclomaaGreatDoorVx
import Derived.Test.YtcmckbgiiclomaaGreatDoorVt
import Derived.Test.YtcmckbgiiclomaaGreatDoorPx
namespace Go.Proofs.YtcmckbgiiclomaaGreatDoor.V
open Go Go.RowKit
set_option maxRecDepth 100000
set_option maxHeartbeats 4000000
set_option linter.unusedSimpArgs false
set_option linter.unusedVariables false
set_option pp.deepTerms false
set_option pp.deepTerms.threshold 3

theorem ixL_ok (w : World) (l : List UInt8) (c : UInt8) : ACalls Tryz.prog 95 #[.string ⟨l.toArray⟩, .int .u8 (c.toNat : Int)] w fun r w' => r = .int .i64 (Go.Lib.indexByte l c) ∧ w' = w := by
  refine body_of follows Tryz.func95 rfl rfl _ rfl (by kernel_rfl) (vs ?_)
  refine o_ext Tryz.func111 (by kernel_rfl) (by kernel_rfl) (by kernel_rfl) (e := Extern.BytealgIndexByte.indexByte) (by kernel_rfl) ?_
  refine vS_run (Go.Lib.run_indexByteString ⟨l.toArray⟩ (c.toNat : Int) w) (vs ?_)
  have e : (c.toNat : Int).toNat.toUInt8 = c := by simp
  exact congrArg (fun c => Value.int .i64 (Go.Lib.indexByte l c)) e
theorem ixS_ok (w : World) (l : List UInt8) (c : UInt8) : ACalls Tryz.prog 69 #[.string ⟨l.toArray⟩, .int .u8 (c.toNat : Int)] w fun r w' => r = .int .i64 (Go.Lib.indexByte l c) ∧ w' = w := by
  refine body_of follows Tryz.func69 rfl rfl _ rfl (by kernel_rfl) (vs ?_)
  refine x_callw (ixL_ok w l c) (vs ?_)
  trivial

theorem ishr4 (b : UInt8) : ishr .u8 (b.toNat : Int) 4 = ((b.toNat / 16 : Nat) : Int) := by
  unfold ishr
  rw [show min 4 IntKind.u8.bits = 4 from rfl, Int.fdiv_eq_ediv_of_nonneg _ (by decide)]
  have : ((2 : Int) ^ 4) = 16 := by decide
  rw [this]; omega
theorem iand15 (b : UInt8) : iand .u8 (b.toNat : Int) 15 = ((b.toNat % 16 : Nat) : Int) := by
  have h : iand .u8 (b.toNat : Int) ((15 : UInt8).toNat : Int) = ((b &&& 15).toNat : Int) := iand_u8
  have e : ((15 : UInt8).toNat : Int) = 15 := by decide
  rw [e] at h
  rw [h, UInt8.toNat_and, show (15 : UInt8).toNat = 2 ^ 4 - 1 from rfl, Nat.and_two_pow_sub_one_eq_mod]
theorem l1Sign_ok (w : World) (c : UInt8) : ACalls Tryz.prog 71 #[.int .u8 (c.toNat : Int)] w fun r w' => r = .int .i64 (hx c) ∧ w' = w := by
  have hlt := c.toNat_lt
  rw [hx_eq]
  refine body_of follows Tryz.func71 rfl rfl _ rfl (by kernel_rfl) ?_
  by_cases h1 : 48 ≤ c.toNat
  · have a1 : (48 : Int) ≤ c.toNat := by omega
    by_cases h2 : c.toNat ≤ 57
    · have a2 : (c.toNat : Int) ≤ 57 := by omega
      refine ve (And.intro a1 a2) ?_
      unfold hxR
      rw [if_pos ⟨h1, h2⟩]
      exact i64_eq (by unfold w64; omega)
    · have a2 : ¬ (c.toNat : Int) ≤ 57 := by omega
      by_cases h3 : 97 ≤ c.toNat
      · have a3 : (97 : Int) ≤ c.toNat := by omega
        by_cases h4 : c.toNat ≤ 102
        · have a4 : (c.toNat : Int) ≤ 102 := by omega
          refine ve (And.intro a1 (And.intro a2 (And.intro a3 a4))) ?_
          unfold hxR
          rw [if_neg (by omega), if_pos (by omega)]
          exact i64_eq (by unfold w64; omega)
        · have a4 : ¬ (c.toNat : Int) ≤ 102 := by omega
          refine ve (And.intro a1 (And.intro a2 (And.intro a3 a4))) ?_
          unfold hxR
          rw [if_neg (by omega), if_neg (by omega)]
      · have a3 : ¬ (97 : Int) ≤ c.toNat := by omega
        refine ve (And.intro a1 (And.intro a2 a3)) ?_
        unfold hxR
        rw [if_neg (by omega), if_neg (by omega)]
  · have a1 : ¬ (48 : Int) ≤ c.toNat := by omega
    have a3 : ¬ (97 : Int) ≤ c.toNat := by omega
    refine ve (And.intro a1 a3) ?_
    unfold hxR
    rw [if_neg (by omega), if_neg (by omega)]

theorem pair_or {x y : Int} (hx0 : 0 ≤ x) (hx1 : x ≤ 15) (hy0 : 0 ≤ y) (hy1 : y ≤ 15) : ior .i64 (ishl .i64 x 4) y % 256 = ((UInt8.ofNat (16 * x.toNat + y.toNat)).toNat : Int) := by
  obtain ⟨a, rfl⟩ := Int.eq_ofNat_of_zero_le hx0
  obtain ⟨b, rfl⟩ := Int.eq_ofNat_of_zero_le hy0
  have h1 : ishl .i64 (a : Int) 4 = ((a <<< 4 : Nat) : Int) := ishl_nat (by omega) (by omega)
  rw [h1, ior_nat (by rw [Nat.shiftLeft_eq]; omega) (by omega), ← Nat.shiftLeft_add_eq_or_of_lt (i := 4) (by omega), Nat.shiftLeft_eq, UInt8.toNat_ofNat']
  simp only [Int.toNat_natCast]
  omega
theorem pair_add {x y : Int} (hx0 : 0 ≤ x) (hx1 : x ≤ 15) (hy0 : 0 ≤ y) (hy1 : y ≤ 15) : w64 (w64 (16 * x) + y) % 256 = ((UInt8.ofNat (16 * x.toNat + y.toNat)).toNat : Int) := by
  rw [UInt8.toNat_ofNat']
  unfold w64
  omega
theorem implUnhex_ok (w : World) (l : List UInt8) (hl : l.length ≤ 1099511627776) :
    ACalls Tryz.prog 49 #[.string ⟨l.toArray⟩] w fun r w' => ∃ v fp, r = .tuple #[v, .bool (unhexOk l)] ∧ Sep w.heap.size w w' [Ck.own (bytes 5) fp [v] (unhexB l)] := by
  have H := Sep.start w
  refine body_of follows Tryz.func49 rfl rfl _ rfl (by kernel_rfl) (vs ?_)
  refine x_rem (b := 2) ?_
  have em : (l.length : Int).tmod 2 = ((l.length % 2 : Nat) : Int) := by
    rw [Int.tmod_eq_emod_of_nonneg (Int.natCast_nonneg _)]; omega
  refine ve em ?_
  refine ways ?_ ?_
  rotate_left
  · refine vh fun hodd => ?_
    obtain ⟨e1, e2⟩ := unhex_odd (s := l) (by omega)
    rw [e1, e2]
    exact ⟨_, _, rfl, H.nothing (sl_zero w)⟩
  refine vh fun heven => ?_
  have hev : l.length % 2 = 0 := by omega
  have hpl := pairs_len l
  refine x_emp H pl_u8 sl22 fun g w1 H => vs ?_
  refine loop_at (σ := Nat × Value × List Nat) (fun x => [(0, .string ⟨l.toArray⟩), (4, x.2.1), (5, .int .i64 ((2 * x.1 : Nat) : Int))])
    (fun x w' => x.1 ≤ (pairs l).length ∧ (∀ k, k < x.1 → 0 ≤ hx (l.getD (2 * k) 0) ∧ 0 ≤ hx (l.getD (2 * k + 1) 0)) ∧ Sep w.heap.size w w' [Ck.own (bytes 5) x.2.2 [x.2.1] (((pairs l).take x.1).map pairB)]) (fun x => (pairs l).length - x.1) (0, _, _) (vs rfl) ⟨Nat.zero_le _, fun k h => absurd h (Nat.not_lt_zero k), H⟩ ?_
  rintro ⟨k, v', fp⟩ s w2 ⟨hk, hall, H⟩
  dsimp only at hk hall H
  refine vs (ways ?_ ?_)
  · refine vh fun hlt => ?_
    have hk2 : k < (pairs l).length := by omega
    have r1 := hx_range (l.getD (2 * k) 0)
    have r2 := hx_range (l.getD (2 * k + 1) 0)
    have e1 : w64 (((2 * k : Nat) : Int) + 1) = ((2 * k + 1 : Nat) : Int) := by unfold w64; omega
    refine draw_of [(0, true), (1, true), (2, true), (4, true), (5, true), (6, true), (7, true), (3, false), (8, false), (9, true), (10, true)] w.heap.size [] fun w3 hh hb3 => vs ?_
    have H := H.go (hb3 _)
    have H3 := H
    refine qx_sidx Tryz.underlying9 (Int.natCast_nonneg _) hlt ?_
    refine vs ?_
    refine ve e1 ?_
    refine qx_sidx Tryz.underlying9 (Int.natCast_nonneg _) (by omega) ?_
    refine vs ?_
    refine x_callw (ixS_ok w3 signs16 (l.getD (2 * k) 0)) (vs ?_)
    refine ⟨kept_base H3 H, ?_⟩
    refine x_callw (ixS_ok w3 signs16 (l.getD (2 * k + 1) 0)) (vs ?_)
    refine ⟨kept_base H3 H, ?_⟩
    rw [show Go.Lib.indexByte signs16 (l.getD (2 * k) 0) = hx (l.getD (2 * k) 0) from rfl, show Go.Lib.indexByte signs16 (l.getD (2 * k + 1) 0) = hx (l.getD (2 * k + 1) 0) from rfl]
    by_cases h1 : hx (l.getD (2 * k) 0) < 0
    · refine ve h1 ?_
      obtain ⟨q1, q2⟩ := unhex_bad hk2 (.inl h1)
      rw [q1, q2]
      exact ⟨_, _, rfl, (H.nothing (sl_zero w3)).head⟩
    · refine ve h1 ?_
      by_cases h2 : hx (l.getD (2 * k + 1) 0) < 0
      · refine ve h2 ?_
        obtain ⟨q1, q2⟩ := unhex_bad hk2 (.inr h2)
        rw [q1, q2]
        exact ⟨_, _, rfl, (H.nothing (sl_zero w3)).head⟩
      · refine ve h2 ?_
        refine ve (pair_or (Int.not_lt.1 h1) r1.2 (Int.not_lt.1 h2) r2.2) ?_
        refine x_lst H pl_u8 sl22 [UInt8.ofNat (16 * (hx (l.getD (2 * k) 0)).toNat + (hx (l.getD (2 * k + 1) 0)).toNat)] (by simp) fun g3 w4 H => vs ?_
        refine x_app H pl_u8 sl22 (H.own (.head _)) ?_ ?_ fun fp5 v5 w5 H => vs ?_
        · simp only [List.length_map, List.length_take, List.length_cons, List.length_nil]; omega
        · simp only [List.length_map, List.length_take, List.length_cons, List.length_nil]; omega
        refine ⟨(k + 1, v5, fp5), ⟨rfl, i64_eq (by show w64 (((2 * k : Nat) : Int) + 2) = ((2 * (k + 1) : Nat) : Int); unfold w64; omega)⟩, ⟨hk2, fun j hj => ?_, ?_⟩, by show (pairs l).length - (k + 1) < (pairs l).length - k; omega⟩
        · by_cases hjk : j = k
          · subst hjk; exact ⟨Int.not_lt.1 h1, Int.not_lt.1 h2⟩
          · exact hall j (by have hj : j < k + 1 := hj; omega)
        · show Sep _ _ _ [Ck.own _ fp5 [v5] (((pairs l).take (k + 1)).map pairB)]
          rw [pairs_succ hk2]
          exact H.tail
  · refine vh fun hlt => ?_
    obtain rfl : k = (pairs l).length := by omega
    obtain ⟨e1, e2⟩ := unhex_good hev hall
    rw [List.take_length] at H
    rw [e1, e2]
    exact ⟨_, _, rfl, H⟩
theorem specUnhex_ok (w : World) (l : List UInt8) (hl : l.length ≤ 1099511627776) :
    ACalls Tryz.prog 51 #[.string ⟨l.toArray⟩] w fun r w' => ∃ v fp, r = .tuple #[v, .bool (unhexOk l)] ∧ Sep w.heap.size w w' [Ck.own (bytes 5) fp [v] (unhexB l)] := by
  have H := Sep.start w
  have hpl := pairs_len l
  have em : (l.length : Int).tmod 2 = ((l.length % 2 : Nat) : Int) := by
    rw [Int.tmod_eq_emod_of_nonneg (Int.natCast_nonneg _)]; omega
  refine body_of follows Tryz.func51 rfl rfl _ rfl (by kernel_rfl) (vs ?_)
  refine x_emp H pl_u8 sl22 fun g w1 H => vs ?_
  refine loop_at (σ := Nat × Value × List Nat) (fun x => [(0, .string ⟨l.toArray⟩), (4, x.2.1), (5, .int .i64 ((2 * x.1 : Nat) : Int))])
    (fun x w' => x.1 ≤ (pairs l).length ∧ (∀ k, k < x.1 → 0 ≤ hx (l.getD (2 * k) 0) ∧ 0 ≤ hx (l.getD (2 * k + 1) 0)) ∧ Sep w.heap.size w w' [Ck.own (bytes 5) x.2.2 [x.2.1] (((pairs l).take x.1).map pairB)]) (fun x => (pairs l).length - x.1) (0, _, _) (vs rfl) ⟨Nat.zero_le _, fun k h => absurd h (Nat.not_lt_zero k), H⟩ ?_
  rintro ⟨k, v', fp⟩ s w2 ⟨hk, hall, H⟩
  dsimp only at hk hall H
  have e1 : w64 (((2 * k : Nat) : Int) + 1) = ((2 * k + 1 : Nat) : Int) := by unfold w64; omega
  refine ve e1 (ways ?_ ?_)
  · refine vh fun hlt => ?_
    have hk2 : k < (pairs l).length := by omega
    have r1 := hx_range (l.getD (2 * k) 0)
    have r2 := hx_range (l.getD (2 * k + 1) 0)
    refine draw_of [(0, true), (1, true), (2, true), (4, true), (5, true), (6, true), (7, true), (3, false), (8, false), (9, true), (10, true)] w.heap.size [] fun w3 hh hb3 => vs ?_
    have H := H.go (hb3 _)
    have H3 := H
    refine qx_sidx Tryz.underlying9 (Int.natCast_nonneg _) (by omega) ?_
    refine vs ?_
    refine ve e1 ?_
    refine qx_sidx Tryz.underlying9 (Int.natCast_nonneg _) hlt ?_
    refine vs ?_
    refine x_callw (l1Sign_ok w3 (l.getD (2 * k) 0)) (vs ?_)
    refine ⟨kept_base H3 H, ?_⟩
    refine x_callw (l1Sign_ok w3 (l.getD (2 * k + 1) 0)) (vs ?_)
    refine ⟨kept_base H3 H, ?_⟩
    by_cases h1 : hx (l.getD (2 * k) 0) < 0
    · refine ve h1 ?_
      obtain ⟨q1, q2⟩ := unhex_bad hk2 (.inl h1)
      rw [q1, q2]
      refine x_emp H pl_u8 sl22 fun g4 w4 H => vs ?_
      exact ⟨_, _, rfl, H.head⟩
    · refine ve h1 ?_
      by_cases h2 : hx (l.getD (2 * k + 1) 0) < 0
      · refine ve h2 ?_
        obtain ⟨q1, q2⟩ := unhex_bad hk2 (.inr h2)
        rw [q1, q2]
        refine x_emp H pl_u8 sl22 fun g4 w4 H => vs ?_
        exact ⟨_, _, rfl, H.head⟩
      · refine ve h2 ?_
        refine ve (pair_add (Int.not_lt.1 h1) r1.2 (Int.not_lt.1 h2) r2.2) ?_
        refine x_lst H pl_u8 sl22 [UInt8.ofNat (16 * (hx (l.getD (2 * k) 0)).toNat + (hx (l.getD (2 * k + 1) 0)).toNat)] (by simp) fun g3 w4 H => vs ?_
        refine x_app H pl_u8 sl22 (H.own (.head _)) ?_ ?_ fun fp5 v5 w5 H => vs ?_
        · simp only [List.length_map, List.length_take, List.length_cons, List.length_nil]; omega
        · simp only [List.length_map, List.length_take, List.length_cons, List.length_nil]; omega
        refine ⟨(k + 1, v5, fp5), ⟨rfl, i64_eq (by show w64 (((2 * k : Nat) : Int) + 2) = ((2 * (k + 1) : Nat) : Int); unfold w64; omega)⟩, ⟨hk2, fun j hj => ?_, ?_⟩, by show (pairs l).length - (k + 1) < (pairs l).length - k; omega⟩
        · by_cases hjk : j = k
          · subst hjk; exact ⟨Int.not_lt.1 h1, Int.not_lt.1 h2⟩
          · exact hall j (by have hj : j < k + 1 := hj; omega)
        · show Sep _ _ _ [Ck.own _ fp5 [v5] (((pairs l).take (k + 1)).map pairB)]
          rw [pairs_succ hk2]
          exact H.tail
  · refine vh fun hlt => ?_
    obtain rfl : k = (pairs l).length := by omega
    refine x_rem (b := 2) ?_
    refine ve em ?_
    refine ways ?_ ?_
    rotate_left
    · refine vh fun hodd => ?_
      obtain ⟨e1, e2⟩ := unhex_odd (s := l) (by omega)
      rw [e1, e2]
      refine x_emp H pl_u8 sl22 fun g4 w4 H => vs ?_
      exact ⟨_, _, rfl, H.head⟩
    · refine vh fun heven => ?_
      obtain ⟨e1, e2⟩ := unhex_good (s := l) (by omega) hall
      rw [List.take_length] at H
      rw [e1, e2]
      exact ⟨_, _, rfl, H⟩

theorem implIsRoute_ok (w : World) (l : List UInt8) (hl : l.length ≤ 1099511627776) :
    ACalls Tryz.prog 31 #[.string ⟨l.toArray⟩] w fun r w' => r = .bool (isRoute l) ∧ Below w.heap.size w w' := by
  have H := Sep.start w
  refine body_of follows Tryz.func31 rfl rfl _ rfl (by kernel_rfl) (vs ?_)
  refine x_call (implUnhex_ok w l hl) fun _ w1 ⟨v, fp, e, S⟩ => ?_
  subst e
  have H := H.join S
  refine vs ?_
  cases hu : unhexOk l with
  | false =>
    refine vs ?_
    have : isRoute l = false := by unfold isRoute; rw [hu]; rfl
    rw [this]
    exact ⟨rfl, H.bel⟩
  | true =>
    refine vs ?_
    refine ⟨?_, H.bel⟩
    have : isRoute l = decide ((l.length : Int) = 16) := by unfold isRoute; rw [hu, Bool.true_and]; exact decide_eq_decide.2 (by omega)
    rw [this]
theorem specIsRoute_ok (w : World) (l : List UInt8) (hl : l.length ≤ 1099511627776) :
    ACalls Tryz.prog 34 #[.string ⟨l.toArray⟩] w fun r w' => r = .bool (isRoute l) ∧ Below w.heap.size w w' := by
  have H := Sep.start w
  refine body_of follows Tryz.func34 rfl rfl _ rfl (by kernel_rfl) (vs ?_)
  refine x_call (specUnhex_ok w l hl) fun _ w1 ⟨v, fp, e, S⟩ => ?_
  subst e
  have H := H.join S
  refine vs ?_
  cases hu : unhexOk l with
  | false =>
    refine vs ?_
    have : isRoute l = false := by unfold isRoute; rw [hu]; rfl
    rw [this]
    exact ⟨rfl, H.bel⟩
  | true =>
    obtain ⟨A, c, rfl, _⟩ := sl_open (H.own (.head _))
    refine vs ?_
    refine ⟨?_, H.bel⟩
    have : isRoute l = decide (((unhexB l).length : Int) = 8) := by rw [isRoute_spec, hu, Bool.true_and]; exact decide_eq_decide.2 (by omega)
    rw [this]
end Go.Proofs.YtcmckbgiiclomaaGreatDoor.V
