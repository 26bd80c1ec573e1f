/- Numbers as bytes, the last first and the first first: both sides. -/
import Derived.Test.YtcmckbgiiclomaaGreatDoorWa
import Derived.Test.YtcmckbgiiclomaaGreatDoorWj
namespace Go.Proofs.YtcmckbgiiclomaaGreatDoor.V
open Go Go.RowKit
set_option maxRecDepth 100000
set_option maxHeartbeats 4000000
set_option linter.unusedSimpArgs false
set_option linter.unusedVariables false
set_option pp.deepTerms false
set_option pp.deepTerms.threshold 3

/-! ### numbers as bytes -/
def littleB (n : Int) (many : Int) : List UInt8 := if 0 ≤ n ∧ 1 ≤ many ∧ many ≤ 8 then (List.range many.toNat).map fun i => UInt8.ofNat (n.toNat / 256 ^ i % 256) else []
theorem littleB_len (n many : Int) : (littleB n many).length ≤ 8 := by
  unfold littleB
  split
  · simp; omega
  · simp
theorem u8_of (m : Nat) : ((m % 256 : Nat) : Int) % 256 = ((UInt8.ofNat (m % 256)).toNat : Int) := by rw [UInt8.toNat_ofNat']; omega
theorem u8_of' (m : Nat) : (m : Int) % 256 = ((UInt8.ofNat (m % 256)).toNat : Int) := by rw [UInt8.toNat_ofNat']; omega
theorem lit_step (n k : Nat) : ((List.range (k + 1)).map fun i => UInt8.ofNat (n / 256 ^ i % 256)) = ((List.range k).map fun i => UInt8.ofNat (n / 256 ^ i % 256)) ++ [UInt8.ofNat (n / 256 ^ k % 256)] := by
  rw [List.range_succ, List.map_append]; rfl
theorem shr8 (n k : Nat) (h : n < 9223372036854775808) : ishr .i64 ((n / 256 ^ k : Nat) : Int) 8 = ((n / 256 ^ (k + 1) : Nat) : Int) := by
  have e : 256 ^ (k + 1) = 256 ^ k * 2 ^ 8 := Nat.pow_succ ..
  rw [ishr_nat (by omega), Nat.shiftRight_eq_div_pow, Nat.div_div_eq_div_mul, e]

theorem implLittle_ok (w : World) (n many : Int) (hn : n < 9223372036854775808) :
    ACalls Tryz.prog 77 #[.int .i64 n, .int .i64 many] w fun r w' => ∃ fp, Sep w.heap.size w w' [Ck.own (bytes 5) fp [r] (littleB n many)] := by
  have H := Sep.start w
  refine body_of follows Tryz.func77 rfl rfl _ rfl (by kernel_rfl) ?_
  by_cases h1 : n < 0
  · refine ve h1 ?_
    have e : littleB n many = [] := by unfold littleB; rw [if_neg (by omega)]
    rw [e]
    exact ⟨_, H.nothing (sl_zero w)⟩
  refine ve h1 ?_
  refine x_callw (in_ok w _ _ _) ?_
  by_cases h2 : 1 ≤ many ∧ many ≤ 8
  · refine ve h2 ?_
    refine x_emp H pl_u8 sl22 fun g w1 H => vs ?_
    obtain ⟨m, rfl⟩ : ∃ m : Nat, many = (m : Int) := ⟨many.toNat, by omega⟩
    obtain ⟨n, rfl⟩ : ∃ q : Nat, n = (q : Int) := ⟨n.toNat, by omega⟩
    have e : littleB (n : Int) (m : Int) = (List.range m).map fun i => UInt8.ofNat (n / 256 ^ i % 256) := by
      unfold littleB; rw [if_pos ⟨by omega, h2⟩]; simp
    rw [e]
    refine loop_at (σ := Nat × Value × List Nat) (fun x => [(0, .int .i64 ((n / 256 ^ x.1 : Nat) : Int)), (5, x.2.1), (14, .int .i64 (m : Int)), (15, .int .i64 (x.1 : Int))])
      (fun x w' => x.1 ≤ m ∧ Sep w.heap.size w w' [Ck.own (bytes 5) x.2.2 [x.2.1] ((List.range x.1).map fun i => UInt8.ofNat (n / 256 ^ i % 256))]) (fun x => m - x.1) (0, _, _) (vs ?_) ⟨Nat.zero_le _, H⟩ ?_
    · exact i64_eq (by simp)
    rintro ⟨k, v, fp⟩ s w2 ⟨hk, H⟩
    dsimp only at hk H
    refine vs (ways ?_ ?_)
    · refine vh fun hlt => ?_
      rw [u8_of']
      refine x_lst H pl_u8 sl22 [UInt8.ofNat (n / 256 ^ k % 256)] (by simp) fun g3 w4 H => vs ?_
      refine x_app H pl_u8 sl22 (H.own (.head _)) ?_ ?_ fun fp5 v5 w5 H => vs ?_
      · simp only [List.length_cons, List.length_nil, List.length_map, List.length_range]; omega
      · simp only [List.length_cons, List.length_nil, List.length_map, List.length_range]; omega
      rw [shr8 n k (by omega)]
      refine ⟨(k + 1, v5, fp5), ⟨rfl, rfl, i64_eq (by show w64 ((k : Int) + 1) = ((k + 1 : Nat) : Int); unfold w64; omega)⟩, ⟨by show k + 1 ≤ m; omega, ?_⟩, by show m - (k + 1) < m - k; omega⟩
      dsimp only
      rw [lit_step]; exact H.tail
    · refine vh fun hlt => ?_
      obtain rfl : k = m := by omega
      exact ⟨_, H⟩
  · refine ve h2 ?_
    have e : littleB n many = [] := by unfold littleB; rw [if_neg (by omega)]
    rw [e]
    exact ⟨_, H.nothing (sl_zero w)⟩

theorem specLittle_ok (w : World) (n many : Int) (hn : n < 9223372036854775808) :
    ACalls Tryz.prog 94 #[.int .i64 n, .int .i64 many] w fun r w' => ∃ fp, Sep w.heap.size w w' [Ck.own (bytes 5) fp [r] (littleB n many)] := by
  have H := Sep.start w
  refine body_of follows Tryz.func94 rfl rfl _ rfl (by kernel_rfl) ?_
  by_cases h1 : n < 0
  · refine ve h1 ?_
    refine x_emp H pl_u8 sl22 fun g w1 H => ?_
    refine ve h1 ?_
    have e : littleB n many = [] := by unfold littleB; rw [if_neg (by omega)]
    rw [e]
    exact ⟨_, H⟩
  refine ve h1 ?_
  refine x_emp H pl_u8 sl22 fun g w1 H => ?_
  refine ve h1 ?_
  refine x_callw (l1In_ok w1 _ _ _) ?_
  by_cases h2 : 1 ≤ many ∧ many ≤ 8
  · refine ve h2 ?_
    obtain ⟨m, rfl⟩ : ∃ m : Nat, many = (m : Int) := ⟨many.toNat, by omega⟩
    obtain ⟨n, rfl⟩ : ∃ q : Nat, n = (q : Int) := ⟨n.toNat, by omega⟩
    have e : littleB (n : Int) (m : Int) = (List.range m).map fun i => UInt8.ofNat (n / 256 ^ i % 256) := by
      unfold littleB; rw [if_pos ⟨by omega, h2⟩]; simp
    rw [e]
    refine loop_at (σ := Nat × Value × List Nat) (fun x => [(0, .int .i64 ((n / 256 ^ x.1 : Nat) : Int)), (1, .int .i64 (m : Int)), (5, x.2.1), (6, .int .i64 (x.1 : Int))])
      (fun x w' => x.1 ≤ m ∧ Sep w.heap.size w w' [Ck.own (bytes 5) x.2.2 [x.2.1] ((List.range x.1).map fun i => UInt8.ofNat (n / 256 ^ i % 256))]) (fun x => m - x.1) (0, _, _) (vs ?_) ⟨Nat.zero_le _, H⟩ ?_
    · exact i64_eq (by simp)
    rintro ⟨k, v, fp⟩ s w2 ⟨hk, H⟩
    dsimp only at hk H
    refine vs (ways ?_ ?_)
    · refine vh fun hlt => ?_
      have hq : n / 256 ^ k < 9223372036854775808 := Nat.lt_of_le_of_lt (Nat.div_le_self _ _) (by omega)
      have e2 : iand .i64 ((n / 256 ^ k : Nat) : Int) 255 = ((n / 256 ^ k % 256 : Nat) : Int) := by
        have h3 : iand .i64 ((n / 256 ^ k : Nat) : Int) 255 = ((n / 256 ^ k &&& 255 : Nat) : Int) := iand_nat (b := 255) hq
        have h4 : n / 256 ^ k &&& 255 = n / 256 ^ k % 256 := Nat.and_two_pow_sub_one_eq_mod _ 8
        rw [h3, h4]
      rw [e2, u8_of]
      refine x_lst H pl_u8 sl22 [UInt8.ofNat (n / 256 ^ k % 256)] (by simp) fun g3 w4 H => vs ?_
      refine x_app H pl_u8 sl22 (H.own (.head _)) ?_ ?_ fun fp5 v5 w5 H => vs ?_
      · simp only [List.length_cons, List.length_nil, List.length_map, List.length_range]; omega
      · simp only [List.length_cons, List.length_nil, List.length_map, List.length_range]; omega
      rw [shr8 n k (by omega)]
      refine ⟨(k + 1, v5, fp5), ⟨rfl, rfl, i64_eq (by show w64 ((k : Int) + 1) = ((k + 1 : Nat) : Int); unfold w64; omega)⟩, ⟨by show k + 1 ≤ m; omega, ?_⟩, by show m - (k + 1) < m - k; omega⟩
      dsimp only
      rw [lit_step]; exact H.tail
    · refine vh fun hlt => ?_
      obtain rfl : k = m := by omega
      exact ⟨_, H⟩
  · refine ve h2 ?_
    have e : littleB n many = [] := by unfold littleB; rw [if_neg (by omega)]
    rw [e]
    exact ⟨_, H⟩

def greatB (n many : Int) : List UInt8 := (littleB n many).reverse
theorem greatB_len (n many : Int) : (greatB n many).length ≤ 8 := by unfold greatB; rw [List.length_reverse]; exact littleB_len n many
theorem turned_ok (w : World) (v : Value) (a : List UInt8) (h : (bytes 5).rd w w.heap.size [v] a) (hl : a.length ≤ 1099511627776) :
    ACalls Tryz.prog 97 #[v] w fun r w' => ∃ fp, Sep w.heap.size w w' [Ck.own (bytes 5) fp [r] a.reverse] := by
  obtain ⟨A, c, rfl, hc1, hc2, ha⟩ := sl_open h
  have H := Sep.start w
  refine body_of follows Tryz.func97 rfl rfl _ rfl (by kernel_rfl) (vs ?_)
  refine x_mk (x := (0 : UInt8)) H pl_u8 sl22 trivial (by omega) (by omega) fun g w1 H => vs ?_
  refine loop_at (σ := Nat) (fun x => [(0, .slice A a.length c), (3, .slice (some ⟨g, 0, none⟩) a.length a.length), (9, .slice A a.length c), (10, .int .i64 (a.length : Int)), (11, .int .i64 (x : Int))])
    (fun x w' => x ≤ a.length ∧ Sep w.heap.size w w' [Ck.own (bytes 5) [g] [.slice (some ⟨g, 0, none⟩) a.length a.length] (List.replicate (a.length - x) 0 ++ (a.take x).reverse)]) (fun x => a.length - x) 0 (vs trivial) ⟨Nat.zero_le _, by simpa using H⟩ ?_
  rintro k s w2 ⟨hk, H⟩
  refine vs (ways ?_ ?_)
  · refine vh fun hlt => ?_
    have hk2 : k < a.length := by omega
    refine x_el pl_u8 sl22 (ha.mono H.bel) (by omega) hlt fun ad hb hc _ => vs ?_
    refine x_load sc5 hc ?_
    have e1 : w64 (w64 ((a.length : Int) - 1) - (k : Int)) = ((a.length - 1 - k : Nat) : Int) := by unfold w64; omega
    refine ve e1 ?_
    refine x_index sl22 rfl (by omega) (by omega) (vs ?_)
    have hj : a.length - 1 - k < a.length := by omega
    refine x_set (x := a[k]) (j := a.length - 1 - k) H pl_u8 sc5 hj trivial fun w3 H => vs ?_
    refine ⟨k + 1, i64_eq (by unfold w64; omega), ⟨hk2, ?_⟩, by omega⟩
    have e2 : (List.replicate (a.length - k) (0 : UInt8) ++ (a.take k).reverse).set (a.length - 1 - k) a[k] = List.replicate (a.length - (k + 1)) 0 ++ (a.take (k + 1)).reverse := by
      rw [List.set_append_left _ _ (by simp; omega), List.take_succ_eq_append_getElem hk2, List.reverse_append]
      have e3 : a.length - k = (a.length - 1 - k) + 1 := by omega
      have e4 : a.length - (k + 1) = a.length - 1 - k := by omega
      rw [e3, e4, List.replicate_succ', List.set_append_right _ _ (by simp)]
      simp
    rw [← e2]; exact H
  · refine vh fun hlt => ?_
    obtain rfl : k = a.length := by omega
    rw [Nat.sub_self, List.take_length] at H
    exact ⟨_, H⟩
theorem implGreat_ok (w : World) (n many : Int) (hn : n < 9223372036854775808) :
    ACalls Tryz.prog 72 #[.int .i64 n, .int .i64 many] w fun r w' => ∃ fp, Sep w.heap.size w w' [Ck.own (bytes 5) fp [r] (greatB n many)] := by
  refine body_of follows Tryz.func72 rfl rfl _ rfl (by kernel_rfl) (vs ?_)
  refine x_callf (Sep.start w) (implLittle_ok w n many hn) fun r1 f1 w1 H => vs ?_
  refine x_callf H (turned_ok w1 r1 _ (H.own (.head _)) (by have := littleB_len n many; omega)) fun r2 f2 w2 H => vs ?_
  exact ⟨_, H.head⟩
theorem specGreat_ok (w : World) (n many : Int) (hn : n < 9223372036854775808) :
    ACalls Tryz.prog 89 #[.int .i64 n, .int .i64 many] w fun r w' => ∃ fp, Sep w.heap.size w w' [Ck.own (bytes 5) fp [r] (greatB n many)] := by
  refine body_of follows Tryz.func89 rfl rfl _ rfl (by kernel_rfl) (vs ?_)
  refine x_callf (Sep.start w) (specLittle_ok w n many hn) fun r1 f1 w1 H => ?_
  have hlen := littleB_len n many
  unfold greatB
  generalize littleB n many = a at *
  obtain ⟨A, c, rfl, hc1, hc2, ha⟩ := sl_open (H.own (.head _))
  refine vs ?_
  refine x_emp H pl_u8 sl22 fun g w2 H => vs ?_
  refine loop_at (σ := Nat × Value × List Nat) (fun x => [(5, .slice A a.length c), (6, x.2.1), (7, .int .i64 ((a.length : Int) - 1 - x.1))])
    (fun x w' => x.1 ≤ a.length ∧ Sep w.heap.size w w' [Ck.own (bytes 5) x.2.2 [x.2.1] (a.reverse.take x.1), Ck.own (bytes 5) f1 [.slice A a.length c] a]) (fun x => a.length - x.1) (0, _, _) (vs ?_) ⟨Nat.zero_le _, H⟩ ?_
  · exact i64_eq (by unfold w64; omega)
  rintro ⟨k, v, fp⟩ s w3 ⟨hk, H⟩
  dsimp only at hk H
  refine vs (ways ?_ ?_)
  · refine vh fun hge => ?_
    have hk2 : k < a.length := by omega
    obtain ⟨A', c', he, _, _, ha'⟩ := sl_open (H.own (.tail _ (.head _)))
    cases he
    have e1 : (a.length : Int) - 1 - (k : Int) = ((a.length - 1 - k : Nat) : Int) := by omega
    rw [e1]
    refine x_el pl_u8 sl22 ha' (by omega) (by omega) fun ad hb hc _ => vs ?_
    refine x_load sc5 hc (vs ?_)
    refine x_lst H pl_u8 sl22 [a[a.length - 1 - k]'(by omega)] (by simp) fun g3 w4 H => vs ?_
    refine x_app H pl_u8 sl22 (H.own (.head _)) ?_ ?_ fun fp5 v5 w5 H => vs ?_
    · simp only [List.length_cons, List.length_nil, List.length_take, List.length_reverse]; omega
    · simp only [List.length_cons, List.length_nil, List.length_take, List.length_reverse]; omega
    refine ⟨(k + 1, v5, fp5), ⟨rfl, i64_eq (by show w64 (((a.length - 1 - k : Nat) : Int) - 1) = (a.length : Int) - 1 - ((k + 1 : Nat) : Int); unfold w64; omega)⟩, ⟨hk2, ?_⟩, by show a.length - (k + 1) < a.length - k; omega⟩
    dsimp only
    rw [List.take_succ_eq_append_getElem (by simpa using hk2), List.getElem_reverse]
    exact H.tail
  · refine vh fun hge => ?_
    obtain rfl : k = a.length := by omega
    rw [List.take_of_length_le (by simp)] at H
    exact ⟨_, H.head⟩
end Go.Proofs.YtcmckbgiiclomaaGreatDoor.V
