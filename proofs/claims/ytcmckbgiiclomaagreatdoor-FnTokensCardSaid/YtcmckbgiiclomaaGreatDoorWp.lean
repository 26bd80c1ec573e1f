/- Words of 32 bits: both sides. -/
import Derived.Test.YtcmckbgiiclomaaGreatDoorWk
import Derived.Test.YtcmckbgiiclomaaGreatDoorVx
import Derived.Test.YtcmckbgiiclomaaGreatDoorPh
namespace Go.Proofs.YtcmckbgiiclomaaGreatDoor.V
open Go Go.RowKit
set_option maxRecDepth 100000
set_option maxHeartbeats 4000000
set_option linter.unusedSimpArgs false
set_option linter.unusedVariables false
set_option pp.deepTerms false
set_option pp.deepTerms.threshold 3

abbrev ints : Kd (List Int) := Kd.slice 3 Kd.i64
theorem implWord_ok (w : World) (n : Int) : ACalls Tryz.prog 73 #[.int .i64 n] w fun r w' => r = .int .i64 (word n) ∧ w' = w := by
  refine body_of follows Tryz.func73 rfl rfl _ rfl (by kernel_rfl) (vs ?_)
  exact i64_eq (iand_word n)
theorem specWord_ok (w : World) (n : Int) : ACalls Tryz.prog 92 #[.int .i64 n] w fun r w' => r = .int .i64 (word n) ∧ w' = w := by
  refine body_of follows Tryz.func92 rfl rfl _ rfl (by kernel_rfl) (vs ?_)
  exact i64_eq (iand_word n)
theorem mod32 (k : Int) : (k % 32).toNat < 32 := by omega
theorem sub32 (k : Int) : w64 (32 - ((k % 32).toNat : Int)) = ((32 - (k % 32).toNat : Nat) : Int) := by have := mod32 k; unfold w64; omega
theorem implTurn_ok (w : World) (n k : Int) : ACalls Tryz.prog 99 #[.int .i64 n, .int .i64 k] w fun r w' => r = .int .i64 (turn n k) ∧ Below w.heap.size w w' := by
  refine body_of follows Tryz.func99 rfl rfl _ rfl (by kernel_rfl) (vs ?_)
  refine x_callw (implWord_ok w n) (ve (iand_31 k) ?_)
  refine draw_at [(0, true), (1, true), (2, true), (3, true), (4, true), (5, true), (6, true), (7, true), (8, false), (9, true)] fun w3 hh hb3 => ve (sub32 k) ?_
  refine x_callw (implWord_ok w3 _) (vs ?_)
  exact ⟨Kept.refl .., rfl, hb3 _⟩
theorem specTurn_ok (w : World) (n k : Int) : ACalls Tryz.prog 110 #[.int .i64 n, .int .i64 k] w fun r w' => r = .int .i64 (turn n k) ∧ Below w.heap.size w w' := by
  refine body_of follows Tryz.func110 rfl rfl _ rfl (by kernel_rfl) (vs ?_)
  refine x_callw (specWord_ok w n) (ve (iand_31 k) ?_)
  refine draw_at [(0, true), (1, true), (2, true), (3, true), (4, true), (5, true), (6, true), (7, true), (8, false), (9, true)] fun w3 hh hb3 => ve (sub32 k) ?_
  refine x_callw (specWord_ok w3 _) (vs ?_)
  exact ⟨Kept.refl .., rfl, hb3 _⟩
theorem neg_mod (a : Nat) (h : a ≤ 32) (n : Int) : turn n (w64 (0 - (a : Int))) = turn n (32 - (a : Int)) := turn_mod n (by unfold w64; omega)
theorem sub_32 (a : Nat) (h : a ≤ 32) : w64 (32 - (a : Int)) = 32 - (a : Int) := by unfold w64; omega
theorem implMix_ok (w : World) (x : Int) (a b c : Nat) (s : Bool) (ha : a ≤ 32) (hb : b ≤ 32) (hc : c ≤ 32) (hx : 0 ≤ x ∧ x < 4294967296) :
    ACalls Tryz.prog 76 #[.int .i64 x, .int .i64 (a : Int), .int .i64 (b : Int), .int .i64 (c : Int), .bool s] w fun r w' => r = .int .i64 (mix x a b c s) ∧ Below w.heap.size w w' := by
  have H := Sep.start w
  refine body_of follows Tryz.func76 rfl rfl _ rfl (by kernel_rfl) (vs ?_)
  refine x_callb H (implTurn_ok w x _) fun w1 H => ?_
  rw [neg_mod c hc]
  unfold mix
  cases s with
  | true =>
    refine vs ?_
    refine x_callb H (implTurn_ok w1 x _) fun w2 H => vs ?_
    refine x_callb H (implTurn_ok w2 x _) fun w3 H => vs ?_
    rw [neg_mod a ha, neg_mod b hb, word_id hx]
    exact ⟨rfl, H.bel⟩
  | false =>
    refine vs ?_
    refine x_callb H (implTurn_ok w1 x _) fun w2 H => vs ?_
    refine x_callb H (implTurn_ok w2 x _) fun w3 H => vs ?_
    rw [neg_mod a ha, neg_mod b hb]
    exact ⟨rfl, H.bel⟩
theorem specMix_ok (w : World) (x : Int) (a b c : Nat) (s : Bool) (ha : a ≤ 32) (hb : b ≤ 32) (hc : c ≤ 32) :
    ACalls Tryz.prog 93 #[.int .i64 x, .int .i64 (a : Int), .int .i64 (b : Int), .int .i64 (c : Int), .bool s] w fun r w' => r = .int .i64 (mix x a b c s) ∧ Below w.heap.size w w' := by
  have H := Sep.start w
  refine body_of follows Tryz.func93 rfl rfl _ rfl (by kernel_rfl) (vs ?_)
  rw [sub_32 c hc]
  refine x_callb H (specTurn_ok w x _) fun w1 H => ?_
  unfold mix
  cases s with
  | true =>
    refine vs ?_
    refine x_callw (specWord_ok w1 x) (vs ?_)
    rw [sub_32 a ha]
    refine x_callb H (specTurn_ok w1 x _) fun w2 H => vs ?_
    rw [sub_32 b hb]
    refine x_callb H (specTurn_ok w2 x _) fun w3 H => vs ?_
    exact H.bel
  | false =>
    refine vs ?_
    rw [sub_32 a ha]
    refine x_callb H (specTurn_ok w1 x _) fun w2 H => vs ?_
    rw [sub_32 b hb]
    refine x_callb H (specTurn_ok w2 x _) fun w3 H => vs ?_
    exact H.bel

theorem getD_drop (b : List UInt8) (o i n : Nat) (h : i < n) : ((b.drop o).take n).getD i 0 = b.getD (o + i) 0 := by
  simp [List.getD_eq_getElem?_getD, List.getElem?_take, h, List.getElem?_drop]
theorem wordOf_ok (w : World) (v : Value) (b : List UInt8) (h : (bytes 5).rd w w.heap.size [v] b) (hl : b.length = 4) :
    ACalls Tryz.prog 116 #[v, .bool true] w fun r w' => r = .int .i64 (w4 (b.getD 0 0) (b.getD 1 0) (b.getD 2 0) (b.getD 3 0)) ∧ Below w.heap.size w w' := by
  obtain ⟨A, c, rfl, hc1, hc2, ha⟩ := sl_open h
  refine body_of follows Tryz.func116 rfl rfl _ rfl (by kernel_rfl) (vs ?_)
  refine draw_at [(0, true), (1, true), (2, true), (3, true), (4, true), (5, true), (6, true), (7, true), (8, true), (9, true), (10, true), (11, true), (12, true), (13, true), (14, true), (15, true), (16, true), (17, true), (18, true), (19, true), (20, true), (21, true), (22, true)] fun w3 hh hb3 => vs ?_
  have ha := (ha.mono (hb3 _)).le (hb3 w.heap.size).size
  refine q_elV pl_u8 sl22 0 ha (getD_at (z := 0) (by omega)) rfl rfl fun ad hb hc _ => vs ?_
  refine qx_load sc5 hc hb (by simp) (vs ?_)
  refine q_elV pl_u8 sl22 1 ha (getD_at (z := 0) (by omega)) rfl rfl fun ad hb hc _ => vs ?_
  refine qx_load sc5 hc hb (by simp) (vs ?_)
  refine q_elV pl_u8 sl22 2 ha (getD_at (z := 0) (by omega)) rfl rfl fun ad hb hc _ => vs ?_
  refine qx_load sc5 hc hb (by simp) (vs ?_)
  refine q_elV pl_u8 sl22 3 ha (getD_at (z := 0) (by omega)) rfl rfl fun ad hb hc _ => vs ?_
  refine qx_load sc5 hc hb (by simp) (vs ?_)
  exact ⟨rfl, hb3 _⟩
theorem w4_ok (b : List UInt8) (o : Nat) : w4 (((b.drop o).take (o + 4 - o)).getD 0 0) (((b.drop o).take (o + 4 - o)).getD 1 0) (((b.drop o).take (o + 4 - o)).getD 2 0) (((b.drop o).take (o + 4 - o)).getD 3 0) = w4 (b.getD o 0) (b.getD (o + 1) 0) (b.getD (o + 2) 0) (b.getD (o + 3) 0) := by
  rw [show o + 4 - o = 4 by omega, getD_drop _ _ _ _ (by omega), getD_drop _ _ _ _ (by omega), getD_drop _ _ _ _ (by omega), getD_drop _ _ _ _ (by omega)]
  rfl
theorem w4_i64 (a b c d : UInt8) : -9223372036854775808 ≤ w4 a b c d ∧ w4 a b c d < 9223372036854775808 := by have := w4_range a b c d; omega

theorem implWords_ok (w : World) (v : Value) (b : List UInt8) (n : Nat) (h : (bytes 5).rd w w.heap.size [v] b) (hl : b.length = 4 * n) (hn : n ≤ 1073741824) :
    ACalls Tryz.prog 98 #[v, .bool true] w fun r w' => ∃ fp, Sep w.heap.size w w' [Ck.own ints fp [r] (wordsN b n)] := by
  have h0 := h
  obtain ⟨A, c, rfl, hc1, hc2, ha⟩ := sl_open h
  have H := Sep.start w
  refine body_of follows Tryz.func98 rfl rfl _ rfl (by kernel_rfl) (vs ?_)
  refine x_emp H pl_i64 sl52 fun g w1 H => vs ?_
  refine loop_at (σ := Nat × Value × List Nat) (fun x => [(0, .slice A b.length c), (1, .bool true), (5, x.2.1), (6, .int .i64 ((4 * x.1 : Nat) : Int))])
    (fun x w' => x.1 ≤ n ∧ Sep w.heap.size w w' [Ck.own ints x.2.2 [x.2.1] (wordsN b x.1)]) (fun x => n - x.1) (0, _, _) (vs ?_) ⟨Nat.zero_le _, H⟩ ?_
  · rfl
  rintro ⟨k, v', fp⟩ s w2 ⟨hk, H⟩
  dsimp only at hk H
  have e4 : w64 (((4 * k : Nat) : Int) + 4) = ((4 * k + 4 : Nat) : Int) := by unfold w64; omega
  by_cases hlt : k < n
  · have e5 : (((4 * k + 4 : Nat) : Int) ≤ (b.length : Int)) := by omega
    refine ve (And.intro e4 e5) ?_
    refine x_sub sl22 rfl (H.rd h0) (lo := 4 * k) (hi := 4 * k + 4) (by omega) (by omega) fun v3 hv3 => vs ?_
    refine x_callb H (wordOf_ok w2 v3 _ hv3 (by simp; omega)) fun w3 H => vs ?_
    rw [w4_ok]
    refine x_lst H pl_i64 sl52 [w4 (b.getD (4 * k) 0) (b.getD (4 * k + 1) 0) (b.getD (4 * k + 2) 0) (b.getD (4 * k + 3) 0)] (fun x hx => by simp only [List.mem_singleton] at hx; subst hx; exact w4_i64 ..) fun g3 w4' H => vs ?_
    have hlen : (wordsN b k).length = k := by simp [wordsN]
    refine x_app H pl_i64 sl52 (H.own (.head _)) ?_ ?_ fun fp5 v5 w5 H => vs ?_
    · simp only [List.length_cons, List.length_nil, hlen]; omega
    · simp only [List.length_cons, List.length_nil, hlen]; omega
    refine ⟨(k + 1, v5, fp5), ⟨rfl, i64_eq (by show w64 (((4 * k : Nat) : Int) + 4) = ((4 * (k + 1) : Nat) : Int); rw [e4]; rfl)⟩, ⟨hlt, ?_⟩, by show n - (k + 1) < n - k; omega⟩
    dsimp only
    rw [wordsN_succ]; exact H.tail
  · have e5 : ¬ (((4 * k + 4 : Nat) : Int) ≤ (b.length : Int)) := by omega
    refine ve (And.intro e4 e5) ?_
    obtain rfl : k = n := by omega
    exact ⟨_, H⟩

theorem specWords_ok (w : World) (v : Value) (b : List UInt8) (n : Nat) (h : (bytes 5).rd w w.heap.size [v] b) (hl : b.length = 4 * n) (hn : n ≤ 1073741824) :
    ACalls Tryz.prog 109 #[v, .bool true] w fun r w' => ∃ fp, Sep w.heap.size w w' [Ck.own ints fp [r] (wordsN b n)] := by
  obtain ⟨A, c, rfl, hc1, hc2, ha⟩ := sl_open h
  have H := Sep.start w
  refine body_of follows Tryz.func109 rfl rfl _ rfl (by kernel_rfl) (vs ?_)
  refine x_emp H pl_i64 sl52 fun g w1 H => vs ?_
  refine loop_at (σ := Nat × Value × List Nat) (fun x => [(0, .slice A b.length c), (1, .bool true), (5, x.2.1), (6, .int .i64 ((4 * x.1 : Nat) : Int))])
    (fun x w' => x.1 ≤ n ∧ Sep w.heap.size w w' [Ck.own ints x.2.2 [x.2.1] (wordsN b x.1)]) (fun x => n - x.1) (0, _, _) (vs ?_) ⟨Nat.zero_le _, H⟩ ?_
  · rfl
  rintro ⟨k, v', fp⟩ s w2 ⟨hk, H⟩
  dsimp only at hk H
  have e1 : w64 (((4 * k : Nat) : Int) + 1) = ((4 * k + 1 : Nat) : Int) := by unfold w64; omega
  have e2 : w64 (((4 * k : Nat) : Int) + 2) = ((4 * k + 2 : Nat) : Int) := by unfold w64; omega
  have e3 : w64 (((4 * k : Nat) : Int) + 3) = ((4 * k + 3 : Nat) : Int) := by unfold w64; omega
  have e4 : w64 (((4 * k : Nat) : Int) + 4) = ((4 * k + 4 : Nat) : Int) := by unfold w64; omega
  by_cases hlt : k < n
  · have e5 : (((4 * k + 3 : Nat) : Int) < (b.length : Int)) := by omega
    refine ve (And.intro e3 e5) ?_
    refine draw_of [(0, true), (1, true), (2, true), (3, true), (4, true), (5, true), (6, true), (7, true), (8, true), (9, true), (10, true), (11, true), (12, true), (13, true), (14, true), (15, true), (16, true), (17, true), (18, true), (19, true), (20, true), (21, true), (22, true), (23, true), (24, true), (25, true), (26, true), (27, true), (28, true), (29, true), (30, false), (31, false), (32, true)] w.heap.size [] fun w3 hh hb3 => ve (And.intro e1 (And.intro e2 e3)) ?_
    have H := H.go (hb3 _)
    have H3 := H
    have ha := ha.mono H.bel
    refine q_elV pl_u8 sl22 (4 * k) ha (getD_at (z := 0) (by omega)) rfl rfl fun ad hb hc _ => vs ?_
    refine qx_load sc5 hc hb (by simp) (vs ?_)
    refine q_elV pl_u8 sl22 (4 * k + 1) ha (getD_at (z := 0) (by omega)) e1 rfl fun ad hb hc _ => vs ?_
    refine qx_load sc5 hc hb (by simp) (vs ?_)
    refine q_elV pl_u8 sl22 (4 * k + 2) ha (getD_at (z := 0) (by omega)) e2 rfl fun ad hb hc _ => vs ?_
    refine qx_load sc5 hc hb (by simp) (vs ?_)
    refine q_elV pl_u8 sl22 (4 * k + 3) ha (getD_at (z := 0) (by omega)) e3 rfl fun ad hb hc _ => vs ?_
    refine qx_load sc5 hc hb (by simp) (vs ?_)
    refine x_lst H pl_i64 sl52 [w4 (b.getD (4 * k) 0) (b.getD (4 * k + 1) 0) (b.getD (4 * k + 2) 0) (b.getD (4 * k + 3) 0)] (fun x hx => by simp only [List.mem_singleton] at hx; subst hx; exact w4_i64 ..) fun g3 w4' H => vs ?_
    refine ⟨kept_base H3 H, ?_⟩
    have hlen : (wordsN b k).length = k := by simp [wordsN]
    refine x_app H pl_i64 sl52 (H.own (.head _)) ?_ ?_ fun fp5 v5 w5 H => vs ?_
    · simp only [List.length_cons, List.length_nil, hlen]; omega
    · simp only [List.length_cons, List.length_nil, hlen]; omega
    refine ⟨kept_base H3 H, (k + 1, v5, fp5), ⟨rfl, i64_eq (by show w64 (((4 * k : Nat) : Int) + 4) = ((4 * (k + 1) : Nat) : Int); rw [e4]; rfl)⟩, ⟨hlt, ?_⟩, by show n - (k + 1) < n - k; omega⟩
    dsimp only
    rw [wordsN_succ]; exact H.tail
  · have e5 : ¬ (((4 * k + 3 : Nat) : Int) < (b.length : Int)) := by omega
    refine ve (And.intro e3 e5) ?_
    obtain rfl : k = n := by omega
    exact ⟨_, H⟩
end Go.Proofs.YtcmckbgiiclomaaGreatDoor.V
