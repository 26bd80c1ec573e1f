/- Hashes, leaves and nodes: both sides. -/
import Derived.Test.YtcmckbgiiclomaaGreatDoorWv
namespace Go.Proofs.YtcmckbgiiclomaaGreatDoor.V
open Go Go.RowKit
set_option maxRecDepth 100000
set_option maxHeartbeats 4000000
set_option linter.unusedSimpArgs false
set_option linter.unusedVariables false
set_option pp.deepTerms false
set_option pp.deepTerms.threshold 3

def padB (b : List UInt8) : List UInt8 := b ++ [128] ++ List.replicate (zerosFor b.length) 0 ++ greatB (8 * (b.length : Int)) 8
theorem greatB_len' {n many : Int} (h : 0 ≤ n) (h1 : 1 ≤ many) (h2 : many ≤ 8) : (greatB n many).length = many.toNat := by
  unfold greatB littleB
  rw [if_pos ⟨h, h1, h2⟩]; simp
theorem padB_len (b : List UInt8) : ∃ m, (padB b).length = 64 * m ∧ m ≤ b.length + 2 := by
  have hg := greatB_len' (n := 8 * (b.length : Int)) (many := 8) (by omega) (by omega) (by omega)
  refine ⟨(b.length + 1 + zerosFor b.length + 8) / 64, ?_, ?_⟩
  · unfold padB
    simp only [List.length_append, List.length_cons, List.length_nil, List.length_replicate, hg]
    unfold zerosFor
    omega
  · unfold zerosFor; omega
theorem tmod64 (L : Nat) : ((L : Int).tmod 64) = ((L % 64 : Nat) : Int) := by
  rw [Int.tmod_eq_emod_of_nonneg (by omega)]; omega
theorem pad_step (n k : Nat) (hk : k ≤ zerosFor n) : ((((n + 1 + k) % 64 : Nat) : Int) = 56) ↔ k = zerosFor n := by unfold zerosFor at *; omega

theorem implHashPad_ok (w : World) (v : Value) (b : List UInt8) (h : (bytes 5).rd w w.heap.size [v] b) (hl : b.length ≤ 4000) :
    ACalls Tryz.prog 54 #[v] w fun r w' => ∃ fp, Sep w.heap.size w w' [Ck.own (bytes 5) fp [r] (padB b)] := by
  have h0 := h
  obtain ⟨A, c, rfl, hc1, hc2, ha⟩ := sl_open h
  have H := Sep.start w
  have el : ¬ ((4000 : Int) < (b.length : Int)) := by omega
  refine body_of follows Tryz.func54 rfl rfl _ rfl (by kernel_rfl) (ve el ?_)
  refine x_lst H pl_u8 sl22 [128] (by simp) fun g1 w1 H => vs ?_
  refine x_lstR (d := bytes 5) H sl78 rfl [_, _] [b, [128]] ⟨H.rd h0, H.own (.head _), trivial⟩ fun g2 w2 H hr => vs ?_
  have e : [b, [128]].flatten = b ++ [128] := by simp
  refine x_callf H (joined_ok w2 _ _ hr (by rw [e]; simp only [List.length_append, List.length_cons, List.length_nil]; omega)) fun r3 f3 w3 H => vs ?_
  rw [e] at H
  have H := H.head
  refine loop_at (σ := Nat × Value × List Nat) (fun x => [(0, .slice A b.length c), (3, x.2.1)])
    (fun x w' => x.1 ≤ zerosFor b.length ∧ Sep w.heap.size w w' [Ck.own (bytes 5) x.2.2 [x.2.1] (b ++ [128] ++ List.replicate x.1 0)]) (fun x => zerosFor b.length - x.1) (0, r3, f3) (vs trivial) ⟨Nat.zero_le _, by simpa using H⟩ ?_
  rintro ⟨k, v4, f4⟩ s w4 ⟨hk, H⟩
  dsimp only at hk H
  have hz : zerosFor b.length < 64 := by unfold zerosFor; omega
  have hp := pad_step b.length k hk
  have hlen : (b ++ [128] ++ List.replicate k (0 : UInt8)).length = b.length + 1 + k := by simp only [List.length_append, List.length_cons, List.length_nil, List.length_replicate]
  obtain ⟨A4, c4, rfl, _, _, _⟩ := sl_open (H.own (.head _))
  refine vs ?_
  refine x_rem ?_
  rw [tmod64]
  by_cases hkz : k = zerosFor b.length
  · have e0 : ((((b ++ [128] ++ List.replicate k (0 : UInt8)).length % 64 : Nat) : Int) = 56) = True := by rw [hlen]; exact eq_true (hp.2 hkz)
    refine ve e0 ?_
    have e1 : w64 (8 * (b.length : Int)) = 8 * (b.length : Int) := w64_id (by omega) (by omega)
    rw [e1]
    refine x_callf H (implGreat_ok w4 _ 8 (by omega)) fun r5 f5 w5 H => vs ?_
    have hg := greatB_len (8 * (b.length : Int)) 8
    refine x_app (l := b ++ [128] ++ List.replicate k 0) H pl_u8 sl22 (H.own (.head _)) ?_ ?_ fun f6 v6 w6 H => vs ?_
    · rw [hlen]; omega
    · rw [hlen]; omega
    refine ⟨f6, ?_⟩
    unfold padB
    rw [← hkz]; exact H.only
  · have e0 : ((((b ++ [128] ++ List.replicate k (0 : UInt8)).length % 64 : Nat) : Int) = 56) = False := by rw [hlen]; exact eq_false (fun h => hkz (hp.1 h))
    refine ve e0 ?_
    refine x_lst H pl_u8 sl22 [0] (by simp) fun g5 w5 H => vs ?_
    refine x_app (l := b ++ [128] ++ List.replicate k 0) H pl_u8 sl22 (H.own (.head _)) ?_ ?_ fun f6 v6 w6 H => vs ?_
    · rw [hlen]; simp only [List.length_cons, List.length_nil]; omega
    · rw [hlen]; simp only [List.length_cons, List.length_nil]; omega
    refine ⟨(k + 1, v6, f6), rfl, ⟨by show k + 1 ≤ _; omega, ?_⟩, by show zerosFor b.length - (k + 1) < zerosFor b.length - k; omega⟩
    dsimp only
    rw [List.replicate_succ', ← List.append_assoc]; exact H.tail

theorem specHashPad_ok (w : World) (v : Value) (b : List UInt8) (h : (bytes 5).rd w w.heap.size [v] b) (hl : b.length ≤ 4000) :
    ACalls Tryz.prog 65 #[v] w fun r w' => ∃ fp, Sep w.heap.size w w' [Ck.own (bytes 5) fp [r] (padB b)] := by
  have h0 := h
  obtain ⟨A, c, rfl, hc1, hc2, ha⟩ := sl_open h
  have H := Sep.start w
  have el : ¬ ((4000 : Int) < (b.length : Int)) := by omega
  refine body_of follows Tryz.func65 rfl rfl _ rfl (by kernel_rfl) (ve el ?_)
  refine x_emp H pl_u8 sl22 fun g1 w1 H => vs ?_
  refine x_app H pl_u8 sl22 (H.rd h0) ?_ ?_ fun f2 v2 w2 H => vs ?_
  · simp only [List.length_nil]; omega
  · simp only [List.length_nil]; omega
  refine x_lst H pl_u8 sl22 [128] (by simp) fun g3 w3 H => vs ?_
  refine x_app (l := [] ++ b) H pl_u8 sl22 (H.own (.head _)) ?_ ?_ fun f4 v4 w4 H => vs ?_
  · simp only [List.length_append, List.length_cons, List.length_nil]; omega
  · simp only [List.length_append, List.length_cons, List.length_nil]; omega
  have H := H.tail
  rw [List.nil_append] at H
  refine loop_at (σ := Nat × Value × List Nat) (fun x => [(0, .slice A b.length c), (3, x.2.1)])
    (fun x w' => x.1 ≤ zerosFor b.length ∧ Sep w.heap.size w w' [Ck.own (bytes 5) x.2.2 [x.2.1] (b ++ [128] ++ List.replicate x.1 0)]) (fun x => zerosFor b.length - x.1) (0, v4, f4) (vs trivial) ⟨Nat.zero_le _, by simpa using H⟩ ?_
  rintro ⟨k, v4, f4⟩ s w4 ⟨hk, H⟩
  dsimp only at hk H
  have hz : zerosFor b.length < 64 := by unfold zerosFor; omega
  have hp := pad_step b.length k hk
  have hlen : (b ++ [128] ++ List.replicate k (0 : UInt8)).length = b.length + 1 + k := by simp only [List.length_append, List.length_cons, List.length_nil, List.length_replicate]
  obtain ⟨A4, c4, rfl, _, _, _⟩ := sl_open (H.own (.head _))
  refine vs ?_
  refine x_rem ?_
  rw [tmod64]
  by_cases hkz : k = zerosFor b.length
  · have e0 : ((((b ++ [128] ++ List.replicate k (0 : UInt8)).length % 64 : Nat) : Int) = 56) = True := by rw [hlen]; exact eq_true (hp.2 hkz)
    refine ve e0 ?_
    have e1 : w64 (8 * (b.length : Int)) = 8 * (b.length : Int) := w64_id (by omega) (by omega)
    rw [e1]
    refine x_callf H (specGreat_ok w4 _ 8 (by omega)) fun r5 f5 w5 H => vs ?_
    have hg := greatB_len (8 * (b.length : Int)) 8
    refine x_app (l := b ++ [128] ++ List.replicate k 0) H pl_u8 sl22 (H.own (.head _)) ?_ ?_ fun f6 v6 w6 H => vs ?_
    · rw [hlen]; omega
    · rw [hlen]; omega
    refine ⟨f6, ?_⟩
    unfold padB
    rw [← hkz]; exact H.only
  · have e0 : ((((b ++ [128] ++ List.replicate k (0 : UInt8)).length % 64 : Nat) : Int) = 56) = False := by rw [hlen]; exact eq_false (fun h => hkz (hp.1 h))
    refine ve e0 ?_
    refine x_lst H pl_u8 sl22 [0] (by simp) fun g5 w5 H => vs ?_
    refine x_app (l := b ++ [128] ++ List.replicate k 0) H pl_u8 sl22 (H.own (.head _)) ?_ ?_ fun f6 v6 w6 H => vs ?_
    · rw [hlen]; simp only [List.length_cons, List.length_nil]; omega
    · rw [hlen]; simp only [List.length_cons, List.length_nil]; omega
    refine ⟨(k + 1, v6, f6), rfl, ⟨by show k + 1 ≤ _; omega, ?_⟩, by show zerosFor b.length - (k + 1) < zerosFor b.length - k; omega⟩
    dsimp only
    rw [List.replicate_succ', ← List.append_assoc]; exact H.tail

/-! ### words as bytes -/
def wordBytes : List Int → List UInt8
  | [] => []
  | x :: l => greatB (word x) 4 ++ wordBytes l
theorem wordBytes_app (l : List Int) (x : Int) : wordBytes (l ++ [x]) = wordBytes l ++ greatB (word x) 4 := by
  induction l with
  | nil => simp [wordBytes]
  | cons y l ih => simp [wordBytes, ih]
theorem wordBytes_len (l : List Int) : (wordBytes l).length = 4 * l.length := by
  induction l with
  | nil => rfl
  | cons y l ih =>
    have := greatB_len' (n := word y) (many := 4) (word_range y).1 (by omega) (by omega)
    simp only [wordBytes, List.length_append, List.length_cons, ih, this]; omega
theorem implWordBytes_ok (w : World) (v : Value) (l : List Int) (h : ints.rd w w.heap.size [v] l) (hl : l.length ≤ 1073741824) :
    ACalls Tryz.prog 56 #[v, .bool true] w fun r w' => ∃ fp, Sep w.heap.size w w' [Ck.own (bytes 5) fp [r] (wordBytes l)] := by
  obtain ⟨A, c, rfl, hc1, hc2, ha⟩ := sl_open h
  have H := Sep.start w
  refine body_of follows Tryz.func56 rfl rfl _ rfl (by kernel_rfl) (vs ?_)
  refine x_emp H pl_u8 sl22 fun g w1 H => vs ?_
  refine loop_at (σ := Nat × Value × List Nat) (fun x => [(1, .bool true), (5, x.2.1), (9, .slice A l.length c), (10, .int .i64 (l.length : Int)), (11, .int .i64 (x.1 : Int))])
    (fun x w' => x.1 ≤ l.length ∧ Sep w.heap.size w w' [Ck.own (bytes 5) x.2.2 [x.2.1] (wordBytes (l.take x.1))]) (fun x => l.length - x.1) (0, _, _) (vs trivial) ⟨Nat.zero_le _, H⟩ ?_
  rintro ⟨k, v', fp⟩ s w2 ⟨hk, H⟩
  dsimp only at hk H
  refine vs (ways ?_ ?_)
  · refine vh fun hlt => ?_
    have hk2 : k < l.length := by omega
    refine x_elV pl_i64 sl52 k (ha.mono H.bel) (getD_at (z := 0) hk2) rfl rfl fun ad hb hc _ => vs ?_
    refine x_load sc3 hc (vs ?_)
    refine x_callw (implWord_ok w2 _) (vs ?_)
    have hw := word_range (l.getD k 0)
    refine x_callf H (implGreat_ok w2 _ 4 (by omega)) fun r3 f3 w3 H => vs ?_
    have hg := greatB_len (word (l.getD k 0)) 4
    have hwl := wordBytes_len (l.take k)
    rw [List.length_take] at hwl
    refine x_app (l := wordBytes (l.take k)) H pl_u8 sl22 (H.own (.head _)) ?_ ?_ fun fp5 v5 w5 H => vs ?_
    · omega
    · omega
    refine ⟨(k + 1, v5, fp5), ⟨rfl, i64_eq (by show w64 ((k : Int) + 1) = ((k + 1 : Nat) : Int); unfold w64; omega)⟩, ⟨hk2, ?_⟩, by show l.length - (k + 1) < l.length - k; omega⟩
    dsimp only
    have e : l.take (k + 1) = l.take k ++ [l.getD k 0] := by rw [List.take_succ_eq_append_getElem hk2, List.getD_eq_getElem?_getD, List.getElem?_eq_getElem hk2, Option.getD_some]
    rw [e, wordBytes_app]; exact H.tail
  · refine vh fun hlt => ?_
    obtain rfl : k = l.length := by omega
    rw [List.take_length] at H
    exact ⟨_, H⟩
theorem specWordBytes_ok (w : World) (v : Value) (l : List Int) (h : ints.rd w w.heap.size [v] l) (hl : l.length ≤ 1073741824) :
    ACalls Tryz.prog 68 #[v, .bool true] w fun r w' => ∃ fp, Sep w.heap.size w w' [Ck.own (bytes 5) fp [r] (wordBytes l)] := by
  obtain ⟨A, c, rfl, hc1, hc2, ha⟩ := sl_open h
  have H := Sep.start w
  refine body_of follows Tryz.func68 rfl rfl _ rfl (by kernel_rfl) (vs ?_)
  refine x_emp H pl_u8 sl22 fun g w1 H => vs ?_
  refine loop_at (σ := Nat × Value × List Nat) (fun x => [(0, .slice A l.length c), (1, .bool true), (5, x.2.1), (6, .int .i64 (x.1 : Int))])
    (fun x w' => x.1 ≤ l.length ∧ Sep w.heap.size w w' [Ck.own (bytes 5) x.2.2 [x.2.1] (wordBytes (l.take x.1))]) (fun x => l.length - x.1) (0, _, _) (vs trivial) ⟨Nat.zero_le _, H⟩ ?_
  rintro ⟨k, v', fp⟩ s w2 ⟨hk, H⟩
  dsimp only at hk H
  refine vs (ways ?_ ?_)
  · refine vh fun hlt => ?_
    have hk2 : k < l.length := by omega
    refine x_elV pl_i64 sl52 k (ha.mono H.bel) (getD_at (z := 0) hk2) rfl rfl fun ad hb hc _ => vs ?_
    refine x_load sc3 hc (vs ?_)
    refine x_callw (specWord_ok w2 _) (vs ?_)
    have hw := word_range (l.getD k 0)
    refine x_callf H (specGreat_ok w2 _ 4 (by omega)) fun r3 f3 w3 H => vs ?_
    have hg := greatB_len (word (l.getD k 0)) 4
    have hwl := wordBytes_len (l.take k)
    rw [List.length_take] at hwl
    refine x_app (l := wordBytes (l.take k)) H pl_u8 sl22 (H.own (.head _)) ?_ ?_ fun fp5 v5 w5 H => vs ?_
    · omega
    · omega
    refine ⟨(k + 1, v5, fp5), ⟨rfl, i64_eq (by show w64 ((k : Int) + 1) = ((k + 1 : Nat) : Int); unfold w64; omega)⟩, ⟨hk2, ?_⟩, by show l.length - (k + 1) < l.length - k; omega⟩
    dsimp only
    have e : l.take (k + 1) = l.take k ++ [l.getD k 0] := by rw [List.take_succ_eq_append_getElem hk2, List.getD_eq_getElem?_getD, List.getElem?_eq_getElem hk2, Option.getD_some]
    rw [e, wordBytes_app]; exact H.tail
  · refine vh fun hlt => ?_
    obtain rfl : k = l.length := by omega
    rw [List.take_length] at H
    exact ⟨_, H⟩

/-! ### hashes -/
def hashN (p : List UInt8) : Nat → List Int
  | 0 => start8
  | k + 1 => hashBlock (hashN p k) ((p.drop (64 * k)).take 64)
theorem hashN_len (p : List UInt8) : ∀ k, (hashN p k).length = 8
  | 0 => rfl
  | k + 1 => hashBlock_len ..
def hash (b : List UInt8) : List UInt8 := if b.length ≤ 4000 then wordBytes (hashN (padB b) ((padB b).length / 64)) else []
theorem hash_len (b : List UInt8) : (hash b).length ≤ 32 := by
  unfold hash
  split
  · rw [wordBytes_len, hashN_len]; omega
  · simp

theorem implHash_ok (w : World) (v : Value) (b : List UInt8) (h : (bytes 5).rd w w.heap.size [v] b) :
    ACalls Tryz.prog 41 #[v] w fun r w' => ∃ fp, Sep w.heap.size w w' [Ck.own (bytes 5) fp [r] (hash b)] := by
  have h0 := h
  obtain ⟨A, c, rfl, hc1, hc2, ha⟩ := sl_open h
  have H := Sep.start w
  refine body_of follows Tryz.func41 rfl rfl _ rfl (by kernel_rfl) ?_
  by_cases hl : 4000 < b.length
  · have el : ((4000 : Int) < (b.length : Int)) := by omega
    refine ve el ?_
    have e : hash b = [] := by unfold hash; rw [if_neg (by omega)]
    rw [e]
    exact ⟨_, H.nothing (sl_zero w)⟩
  have el : ¬ ((4000 : Int) < (b.length : Int)) := by omega
  refine ve el ?_
  have e : hash b = wordBytes (hashN (padB b) ((padB b).length / 64)) := by unfold hash; rw [if_pos (by omega)]
  rw [e]
  refine x_callf H (implStart_ok w) fun r1 f1 w1 H => vs ?_
  refine x_callf H (implHashPad_ok w1 _ b (H.rd h0) (by omega)) fun r2 f2 w2 H => ?_
  obtain ⟨m, hm, hmb⟩ := padB_len b
  generalize padB b = p at *
  obtain ⟨A2, c2, rfl, _, _, _⟩ := sl_open (H.own (.head _))
  have hdm : p.length / 64 = m := by omega
  rw [hdm]
  refine vs ?_
  have H := H.front (c := Ck.own ints f1 [r1] start8)
  refine loop_at (σ := Nat × Value × List Nat) (fun x => [(3, x.2.1), (4, .slice A2 p.length c2), (5, .int .i64 ((64 * x.1 : Nat) : Int))])
    (fun x w' => x.1 ≤ m ∧ Sep w.heap.size w w' [Ck.own ints x.2.2 [x.2.1] (hashN p x.1), Ck.own (bytes 5) f2 [.slice A2 p.length c2] p]) (fun x => m - x.1) (0, _, _) (vs ?_) ⟨Nat.zero_le _, H⟩ ?_
  · rfl
  rintro ⟨k, v', fp⟩ s w3 ⟨hk, H⟩
  dsimp only at hk H
  by_cases hlt : k < m
  · have e0 : (((64 * k : Nat) : Int) < (p.length : Int)) := by omega
    have e1 : w64 (((64 * k : Nat) : Int) + 64) = ((64 * k + 64 : Nat) : Int) := by unfold w64; omega
    refine ve (And.intro e0 e1) ?_
    refine x_sub sl22 rfl (H.own (.tail _ (.head _))) (lo := 64 * k) (hi := 64 * k + 64) (by omega) (by omega) fun v4 hv4 => vs ?_
    rw [show 64 * k + 64 - 64 * k = 64 by omega] at hv4
    refine x_callf H (implHashBlock_ok w3 _ v4 _ _ (H.own (.head _)) hv4 (hashN_len p k) (by simp; omega)) fun r5 f5 w5 H => vs ?_
    refine ⟨(k + 1, r5, f5), ⟨rfl, i64_eq (by show w64 (((64 * k : Nat) : Int) + 64) = ((64 * (k + 1) : Nat) : Int); rw [e1]; rfl)⟩, ⟨hlt, H.drop2⟩, by show m - (k + 1) < m - k; omega⟩
  · have e0 : ¬ (((64 * k : Nat) : Int) < (p.length : Int)) := by omega
    obtain rfl : k = m := by omega
    refine ve e0 ?_
    refine x_callf H (implWordBytes_ok w3 _ _ (H.own (.head _)) (by rw [hashN_len]; omega)) fun r5 f5 w5 H => vs ?_
    exact ⟨_, H.head⟩

theorem specHash_ok (w : World) (v : Value) (b : List UInt8) (h : (bytes 5).rd w w.heap.size [v] b) :
    ACalls Tryz.prog 48 #[v] w fun r w' => ∃ fp, Sep w.heap.size w w' [Ck.own (bytes 5) fp [r] (hash b)] := by
  have h0 := h
  obtain ⟨A, c, rfl, hc1, hc2, ha⟩ := sl_open h
  have H := Sep.start w
  refine body_of follows Tryz.func48 rfl rfl _ rfl (by kernel_rfl) ?_
  by_cases hl : 4000 < b.length
  · have el : ((4000 : Int) < (b.length : Int)) := by omega
    refine ve el ?_
    have e : hash b = [] := by unfold hash; rw [if_neg (by omega)]
    rw [e]
    refine x_emp H pl_u8 sl22 fun g w1 H => vs ?_
    exact ⟨_, H⟩
  have el : ¬ ((4000 : Int) < (b.length : Int)) := by omega
  refine ve el ?_
  have e : hash b = wordBytes (hashN (padB b) ((padB b).length / 64)) := by unfold hash; rw [if_pos (by omega)]
  rw [e]
  refine x_callf H (specHashPad_ok w _ b h0 (by omega)) fun r2 f2 w2 H => ?_
  obtain ⟨m, hm, hmb⟩ := padB_len b
  generalize padB b = p at *
  obtain ⟨A2, c2, rfl, _, _, _⟩ := sl_open (H.own (.head _))
  have hdm : p.length / 64 = m := by omega
  rw [hdm]
  refine vs ?_
  refine x_callf H (specStart_ok w2) fun r1 f1 w1 H => vs ?_
  refine loop_at (σ := Nat × Value × List Nat) (fun x => [(3, .slice A2 p.length c2), (4, x.2.1), (5, .int .i64 ((64 * x.1 : Nat) : Int))])
    (fun x w' => x.1 ≤ m ∧ Sep w.heap.size w w' [Ck.own ints x.2.2 [x.2.1] (hashN p x.1), Ck.own (bytes 5) f2 [.slice A2 p.length c2] p]) (fun x => m - x.1) (0, _, _) (vs ?_) ⟨Nat.zero_le _, H⟩ ?_
  · rfl
  rintro ⟨k, v', fp⟩ s w3 ⟨hk, H⟩
  dsimp only at hk H
  have e2 : w64 (((64 * k : Nat) : Int) + 63) = ((64 * k + 63 : Nat) : Int) := by unfold w64; omega
  by_cases hlt : k < m
  · have e0 : (((64 * k + 63 : Nat) : Int) < (p.length : Int)) := by omega
    have e1 : w64 (((64 * k : Nat) : Int) + 64) = ((64 * k + 64 : Nat) : Int) := by unfold w64; omega
    refine ve (And.intro e2 (And.intro e0 e1)) ?_
    refine x_sub sl22 rfl (H.own (.tail _ (.head _))) (lo := 64 * k) (hi := 64 * k + 64) (by omega) (by omega) fun v4 hv4 => vs ?_
    rw [show 64 * k + 64 - 64 * k = 64 by omega] at hv4
    refine x_callf H (specHashBlock_ok w3 _ v4 _ _ (H.own (.head _)) hv4 (hashN_len p k) (by simp; omega)) fun r5 f5 w5 H => vs ?_
    refine ⟨(k + 1, r5, f5), ⟨rfl, i64_eq (by show w64 (((64 * k : Nat) : Int) + 64) = ((64 * (k + 1) : Nat) : Int); rw [e1]; rfl)⟩, ⟨hlt, H.drop2⟩, by show m - (k + 1) < m - k; omega⟩
  · have e0 : ¬ (((64 * k + 63 : Nat) : Int) < (p.length : Int)) := by omega
    obtain rfl : k = m := by omega
    refine ve (And.intro e2 e0) ?_
    refine x_callf H (specWordBytes_ok w3 _ _ (H.own (.head _)) (by rw [hashN_len]; omega)) fun r5 f5 w5 H => vs ?_
    exact ⟨_, H.head⟩
end Go.Proofs.YtcmckbgiiclomaaGreatDoor.V
