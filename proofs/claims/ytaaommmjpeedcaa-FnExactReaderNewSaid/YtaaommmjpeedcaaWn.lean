/- Lists and readers copied; a new reader, the next epoch: both sides. -/
import Derived.Test.YtaaommmjpeedcaaWf
import Derived.Test.YtaaommmjpeedcaaWx
import Derived.Test.YtaaommmjpeedcaaVt
namespace Go.Proofs.Ytaaommmjpeedcaa.V
open Go Go.RowKit
set_option maxRecDepth 100000
set_option maxHeartbeats 4000000
set_option linter.unusedSimpArgs false
set_option linter.unusedVariables false
set_option pp.deepTerms false
set_option pp.deepTerms.threshold 3

theorem cloneB_ok (w : World) (v : Value) (a : List UInt8) (h : (bytes 5).rd w w.heap.size [v] a) (hl : a.length ≤ 1099511627776) :
    ACalls Try.prog 82 #[v] w fun r w' => ∃ fp, Sep w.heap.size w w' [Ck.own (bytes 5) fp [r] a] := by
  have h0 := h
  obtain ⟨A, c, rfl, hc1, hc2, ha⟩ := sl_open h
  have H := Sep.start w
  refine body_of follows Try.func82 rfl rfl _ rfl (by kernel_rfl) (vs ?_)
  refine x_nil Try.underlying24 ?_
  cases A with
  | none =>
    obtain rfl := sl_none ha
    refine ve (show (none : Option Addr).isNone = true from rfl) ?_
    exact ⟨_, H.nothing (sl_zero w)⟩
  | some ad =>
    refine ve (show (some ad).isNone = false from rfl) ?_
    refine x_emp H pl_u8 sl24 fun g w1 H => vs ?_
    refine x_app H pl_u8 sl24 (H.rd h0) ?_ ?_ fun fp5 v5 w5 H => vs ?_
    · simp only [List.length_nil]; omega
    · simp only [List.length_nil]; omega
    exact ⟨_, H⟩

theorem cloneLists_ok (w : World) (v : Value) (l : List (List UInt8)) (h : (Kd.slice 24 (bytes 5)).rd w w.heap.size [v] l) (hs : smByteSS l) :
    ACalls Try.prog 104 #[v] w fun r w' => ∃ fp, Sep w.heap.size w w' [Ck.own (Kd.slice 24 (bytes 5)) fp [r] l] := by
  have hlm := sl_len h
  have hs0 := hs.1
  obtain ⟨A, c, rfl, hc1, hc2, ha⟩ := sl_open h
  have H := (Sep.start w).nothing (d := Kd.slice 24 (bytes 5)) (sl_zero w)
  refine body_of follows Try.func104 rfl rfl _ rfl (by kernel_rfl) (vs ?_)
  refine loop_at (σ := Nat × Value × List Nat) (fun x => [(3, x.2.1), (6, .slice A l.length c), (7, .int .i64 (l.length : Int)), (8, .int .i64 (x.1 : Int))])
    (fun x w' => x.1 ≤ l.length ∧ Sep w.heap.size w w' [Ck.own (Kd.slice 24 (bytes 5)) x.2.2 [x.2.1] (l.take x.1)]) (fun x => l.length - x.1) (0, _, _) (vs trivial) ⟨Nat.zero_le _, H⟩ ?_
  rintro ⟨k, v', fp⟩ s w2 ⟨hk, H⟩
  dsimp only at hk H
  refine vs (ways ?_ ?_)
  · refine vh fun hlt => ?_
    have hk2 : k < l.length := by omega
    have hsm := hs.2 l[k] (List.getElem_mem hk2)
    refine x_ele H sl37 rfl k hk2 ha rfl fun ad es hb hr hc => vs ?_
    obtain ⟨u, rfl⟩ := sl_one hr
    refine x_ld1 sc24 hc rfl (vs ?_)
    refine x_callf H (cloneB_ok w2 u _ (H.rd hr) (by omega)) fun r2 f2 w3 H => vs ?_
    refine x_lst1 sl37 H (cells_one (Kd.one _ (H.own (.head _)) _ (by simp))) rfl fun f3 v3 w4 H => vs ?_
    refine x_appO sl37 H rfl ?_ ?_ fun f5 v5 w5 H => vs ?_
    · simp only [List.length_take, List.length_cons, List.length_nil]; omega
    · simp only [List.length_take, List.length_cons, List.length_nil]; omega
    refine ⟨(k + 1, v5, f5), ⟨rfl, i64_eq (by show w64 ((k : Int) + 1) = ((k + 1 : Nat) : Int); unfold w64; omega)⟩, ⟨hk2, ?_⟩, by show l.length - (k + 1) < l.length - k; omega⟩
    show Sep _ _ _ [Ck.own _ f5 [v5] (l.take (k + 1))]
    rw [List.take_succ_eq_append_getElem hk2]
    exact H
  · refine vh fun hlt => ?_
    obtain rfl : k = l.length := by omega
    rw [List.take_length] at H
    exact ⟨_, H⟩

theorem l16Lists_ok (w : World) (v : Value) (l : List (List UInt8)) (h : (Kd.slice 24 (bytes 5)).rd w w.heap.size [v] l) (hs : smByteSS l) :
    ACalls Try.prog 103 #[v] w fun r w' => ∃ fp, Sep w.heap.size w w' [Ck.own (Kd.slice 24 (bytes 5)) fp [r] l] := by
  have hlm := sl_len h
  have hs0 := hs.1
  obtain ⟨A, c, rfl, hc1, hc2, ha⟩ := sl_open h
  refine body_of follows Try.func103 rfl rfl _ rfl (by kernel_rfl) (vs ?_)
  refine x_empO (d := bytes 5) (Sep.start w) sl37 fun g w1 H => vs ?_
  refine loop_at (σ := Nat × Value × List Nat) (fun x => [(0, .slice A l.length c), (3, x.2.1), (4, .int .i64 (x.1 : Int))])
    (fun x w' => x.1 ≤ l.length ∧ Sep w.heap.size w w' [Ck.own (Kd.slice 24 (bytes 5)) x.2.2 [x.2.1] (l.take x.1)]) (fun x => l.length - x.1) (0, _, _) (vs trivial) ⟨Nat.zero_le _, H⟩ ?_
  rintro ⟨k, v', fp⟩ s w2 ⟨hk, H⟩
  dsimp only at hk H
  refine vs (ways ?_ ?_)
  · refine vh fun hlt => ?_
    have hk2 : k < l.length := by omega
    have hsm := hs.2 l[k] (List.getElem_mem hk2)
    refine x_emp H pl_u8 sl24 fun g w1 H => vs ?_
    refine x_ele H sl37 rfl k hk2 ha rfl fun ad es hb hr hc => vs ?_
    obtain ⟨u, rfl⟩ := sl_one hr
    refine x_ld1 sc24 hc rfl (vs ?_)
    refine x_app H pl_u8 sl24 (H.rd hr) ?_ ?_ fun f2 v2 w3 H => vs ?_
    · simp only [List.length_nil]; omega
    · simp only [List.length_nil]; omega
    refine x_lst1 sl37 H (cells_one (Kd.one _ (H.own (.head _)) _ (by simp))) rfl fun f3 v3 w4 H => vs ?_
    refine x_appO sl37 H rfl ?_ ?_ fun f5 v5 w5 H => vs ?_
    · simp only [List.length_take, List.length_cons, List.length_nil]; omega
    · simp only [List.length_take, List.length_cons, List.length_nil]; omega
    refine ⟨(k + 1, v5, f5), ⟨rfl, i64_eq (by show w64 ((k : Int) + 1) = ((k + 1 : Nat) : Int); unfold w64; omega)⟩, ⟨hk2, ?_⟩, by show l.length - (k + 1) < l.length - k; omega⟩
    show Sep _ _ _ [Ck.own _ f5 [v5] (l.take (k + 1))]
    rw [List.take_succ_eq_append_getElem hk2]
    exact H
  · refine vh fun hlt => ?_
    obtain rfl : k = l.length := by omega
    rw [List.take_length] at H
    exact ⟨_, H⟩

theorem cloneReader_ok (w : World) (cs : List Value) (x : MReader) (h : kReader.rd w w.heap.size cs x) (hs : smReader x) :
    ACalls Try.prog 89 #[.agg cs.toArray] w fun r w' => ∃ cs' fp, r = .agg cs'.toArray ∧ Sep w.heap.size w w' [Ck.own kReader fp cs' x] := by
  unfold smReader at hs
  obtain ⟨v0, v2, v3, rfl, h0, h1, h2, h3⟩ := kReader_open h
  have H := Sep.start w
  refine body_of follows Try.func89 rfl rfl _ rfl (by kernel_rfl) (vs ?_)
  refine x_bx H [v0, .int .i64 x.f_Epoch, v2, v3] fun g1 w1 H => vs ?_
  have J := Sep.start w1
  refine x_al J st42 fun g2 w2 J => vs ?_
  refine draw_of [(0, true), (1, true), (3, true), (4, true), (5, true), (6, true), (8, true), (9, true), (2, false), (7, false), (10, false), (11, true), (12, false)] w1.heap.size [] fun w3 hh hb3 => vs ?_
  have J := J.go (hb3 _)
  have J3 := J
  refine q_ldB H J3 sc24 ?_
  refine vs ?_
  refine q_ldB H J3 sc3 ?_
  refine vs ?_
  refine q_ldB H J3 sc37 ?_
  refine vs ?_
  refine q_ldB H J3 sc37 ?_
  refine vs ?_
  refine x_callf J (cloneB_ok w3 v0 _ (J.rd (H.rd h0)) (by omega)) fun r0 f0 w4 J => vs ?_
  refine ⟨kept_base J3 J, ?_⟩
  refine x_callf J (cloneLists_ok w4 v2 _ (J.rd (H.rd h2)) hs.2.1) fun r2 f2 w5 J => vs ?_
  refine ⟨kept_base J3 J, ?_⟩
  refine x_callf J (cloneLists_ok w5 v3 _ (J.rd (H.rd h3)) hs.2.2) fun r3 f3 w6 J => vs ?_
  refine ⟨kept_base J3 J, ?_⟩
  obtain ⟨A0, c0, rfl, _⟩ := sl_open (J.own (.tail _ (.tail _ (.head _))))
  obtain ⟨A2, c2, rfl, _⟩ := sl_open (J.own (.tail _ (.head _)))
  obtain ⟨A3, c3, rfl, _⟩ := sl_open (J.own (.head _))
  refine q_bld bl42 [_, _, _, _] ?_
  refine vs ?_
  have J := (J.front (c := Ck.own (Kd.slice 24 (bytes 5)) f2 [.slice A2 x.f_Seen.length c2] x.f_Seen)).front (c := Ck.own (bytes 5) f0 [.slice A0 x.f_Seed.length c0] x.f_Seed)
  obtain ⟨fp, J⟩ := ownReader x J h1
  refine x_sta J st42 (h1 := Kd.one _ (J.own (.head _))) fun w7 J => vs ?_
  refine ⟨kept_base J3 J, ?_⟩
  have H := H.join J
  simp only [List.cons_append, List.nil_append] at H
  exact ⟨_, _, rfl, res_cell H st42, _, _, rfl, H.head⟩

theorem l16Copy_ok (w : World) (cs : List Value) (x : MReader) (h : kReader.rd w w.heap.size cs x) (hs : smReader x) :
    ACalls Try.prog 87 #[.agg cs.toArray] w fun r w' => ∃ cs' fp, r = .agg cs'.toArray ∧ Sep w.heap.size w w' [Ck.own kReader fp cs' x] := by
  unfold smReader at hs
  obtain ⟨v0, v2, v3, rfl, h0, h1, h2, h3⟩ := kReader_open h
  have H := Sep.start w
  refine body_of follows Try.func87 rfl rfl _ rfl (by kernel_rfl) (vs ?_)
  refine x_bx H [v0, .int .i64 x.f_Epoch, v2, v3] fun g1 w1 H => vs ?_
  have J := Sep.start w1
  refine x_al J st42 fun g2 w2 J => vs ?_
  refine draw_of [(1, true), (2, true), (4, true), (5, true), (6, true), (7, true), (9, true), (10, true), (0, false), (3, false), (8, false), (11, false), (12, true), (13, false)] w1.heap.size [] fun w3 hh hb3 => vs ?_
  have J := J.go (hb3 _)
  have J3 := J
  refine q_ldB H J3 sc24 ?_
  refine vs ?_
  refine q_ldB H J3 sc3 ?_
  refine vs ?_
  refine q_ldB H J3 sc37 ?_
  refine vs ?_
  refine q_ldB H J3 sc37 ?_
  refine vs ?_
  refine x_emp J pl_u8 sl24 fun g4 w4 J => vs ?_
  refine ⟨kept_base J3 J, ?_⟩
  refine x_app J pl_u8 sl24 (J.rd (H.rd h0)) ?_ ?_ fun f0 r0 w5 J => vs ?_
  · simp only [List.length_nil]; omega
  · simp only [List.length_nil]; omega
  refine ⟨kept_base J3 J, ?_⟩
  refine x_callf J (l16Lists_ok w5 v2 _ (J.rd (H.rd h2)) hs.2.1) fun r2 f2 w6 J => vs ?_
  refine ⟨kept_base J3 J, ?_⟩
  refine x_callf J (l16Lists_ok w6 v3 _ (J.rd (H.rd h3)) hs.2.2) fun r3 f3 w7 J => vs ?_
  refine ⟨kept_base J3 J, ?_⟩
  obtain ⟨A0, c0, rfl, _⟩ := sl_open (J.own (.tail _ (.tail _ (.head _))))
  obtain ⟨A2, c2, rfl, _⟩ := sl_open (J.own (.tail _ (.head _)))
  obtain ⟨A3, c3, rfl, _⟩ := sl_open (J.own (.head _))
  refine q_bld bl42 [_, _, _, _] ?_
  refine vs ?_
  have J := (J.front (c := Ck.own (Kd.slice 24 (bytes 5)) f2 [.slice A2 x.f_Seen.length c2] x.f_Seen)).front (h := .there (.there .here))
  obtain ⟨fp, J⟩ := ownReader x J h1
  refine x_sta J st42 (h1 := Kd.one _ (J.own (.head _))) fun w7 J => vs ?_
  refine ⟨kept_base J3 J, ?_⟩
  have H := H.join J
  simp only [List.cons_append, List.nil_append] at H
  exact ⟨_, _, rfl, res_cell H st42, _, _, rfl, H.head⟩

/-! ### a new reader -/
def readerZ (a : List UInt8) : MReader := ⟨a, 0, [], []⟩
noncomputable def readerNew (a : List UInt8) : MReader := if readerOk (readerZ a) = true then readerZ a else zReader

theorem implReaderNew_ok (w : World) (v : Value) (a : List UInt8) (h : (bytes 5).rd w w.heap.size [v] a) (hl : a.length ≤ 1099511627776) :
    ACalls Try.prog 48 #[v] w fun r w' => ∃ cs fp, r = .tuple #[.agg cs.toArray, .bool (readerOk (readerZ a))] ∧ Sep w.heap.size w w' [Ck.own kReader fp cs (readerNew a)] := by
  have H := Sep.start w
  refine body_of follows Try.func48 rfl rfl _ rfl (by kernel_rfl) (vs ?_)
  refine x_al H st42 fun g1 w1 H => vs ?_
  refine x_callf H (cloneB_ok w1 v a (H.rd h) hl) fun r0 f0 w2 H => vs ?_
  obtain ⟨A0, c0, rfl, _⟩ := sl_open (H.own (.head _))
  refine x_build bl42 [_, .int .i64 0, .slice none 0 0, .slice none 0 0] ?_
  refine vs ?_
  have H := ((H.nothing (d := Kd.slice 24 (bytes 5)) (sl_zero w2)).nothing (d := Kd.slice 24 (bytes 5)) (sl_zero w2)).front (h := .there (.there .here))
  obtain ⟨fp, H⟩ := ownReader (readerZ a) H (by show (-9223372036854775808 : Int) ≤ 0 ∧ (0 : Int) < 9223372036854775808; decide)
  refine x_al H st42 fun g3 w3 H => vs ?_
  refine x_sta H st42 (h1 := Kd.one _ (H.own (.tail _ (.head _)))) fun w4 H => vs ?_
  refine x_lda H st42 ?_
  refine vs ?_
  refine x_callb H (implReaderOk_ok w4 _ _ (H.own (.tail _ (.head _)))) fun w5 H => ?_
  cases hok : readerOk (readerZ a) with
  | true =>
    refine vs ?_
    refine x_lda H st42 ?_
    refine vs ?_
    refine x_sta H st42 (h1 := Kd.one _ (H.own (.tail _ (.head _)))) fun w6 H => vs ?_
    have e : readerNew a = readerZ a := by unfold readerNew; rw [if_pos hok]
    rw [e]
    exact ⟨_, _, rfl, res_cell H st42, _, _, rfl, H.only⟩
  | false =>
    refine vs ?_
    refine x_build bl42 [.slice none 0 0, .int .i64 0, .slice none 0 0, .slice none 0 0] ?_
    refine vs ?_
    have H := H.nothing (kReader_zero w5)
    refine x_sta H st42 (h1 := Kd.one _ (H.own (.head _))) fun w6 H => vs ?_
    have e : readerNew a = zReader := by unfold readerNew; rw [if_neg (by rw [hok]; decide)]
    rw [e]
    exact ⟨_, _, rfl, res_cell H st42, _, _, rfl, H.head⟩

theorem specReaderNew_ok (w : World) (v : Value) (a : List UInt8) (h : (bytes 5).rd w w.heap.size [v] a) (hl : a.length ≤ 1099511627776) :
    ACalls Try.prog 47 #[v] w fun r w' => ∃ cs fp, r = .tuple #[.agg cs.toArray, .bool (readerOk (readerZ a))] ∧ Sep w.heap.size w w' [Ck.own kReader fp cs (readerNew a)] := by
  have H := Sep.start w
  refine body_of follows Try.func47 rfl rfl _ rfl (by kernel_rfl) (vs ?_)
  refine x_al H st42 fun g1 w1 H => vs ?_
  refine x_emp H pl_u8 sl24 fun g2 w1 H => vs ?_
  refine x_app H pl_u8 sl24 (H.rd h) ?_ ?_ fun f0 r0 w2 H => vs ?_
  · simp only [List.length_nil]; omega
  · simp only [List.length_nil]; omega
  obtain ⟨A0, c0, rfl, _⟩ := sl_open (H.own (.head _))
  refine x_build bl42 [_, .int .i64 0, .slice none 0 0, .slice none 0 0] ?_
  refine vs ?_
  have H := ((H.nothing (d := Kd.slice 24 (bytes 5)) (sl_zero w2)).nothing (d := Kd.slice 24 (bytes 5)) (sl_zero w2)).front (h := .there (.there .here))
  obtain ⟨fp, H⟩ := ownReader (readerZ a) H (by show (-9223372036854775808 : Int) ≤ 0 ∧ (0 : Int) < 9223372036854775808; decide)
  refine x_al H st42 fun g3 w3 H => vs ?_
  refine x_sta H st42 (h1 := Kd.one _ (H.own (.tail _ (.head _)))) fun w4 H => vs ?_
  refine x_lda H st42 ?_
  refine vs ?_
  refine x_callb H (specReaderOk_ok w4 _ _ (H.own (.tail _ (.head _)))) fun w5 H => ?_
  cases hok : readerOk (readerZ a) with
  | true =>
    refine vs ?_
    refine x_lda H st42 ?_
    refine vs ?_
    refine x_sta H st42 (h1 := Kd.one _ (H.own (.tail _ (.head _)))) fun w6 H => vs ?_
    have e : readerNew a = readerZ a := by unfold readerNew; rw [if_pos hok]
    rw [e]
    exact ⟨_, _, rfl, res_cell H st42, _, _, rfl, H.only⟩
  | false =>
    refine vs ?_
    refine x_build bl42 [.slice none 0 0, .int .i64 0, .slice none 0 0, .slice none 0 0] ?_
    refine vs ?_
    have H := H.nothing (kReader_zero w5)
    refine x_sta H st42 (h1 := Kd.one _ (H.own (.head _))) fun w6 H => vs ?_
    have e : readerNew a = zReader := by unfold readerNew; rw [if_neg (by rw [hok]; decide)]
    rw [e]
    exact ⟨_, _, rfl, res_cell H st42, _, _, rfl, H.head⟩

/-! ### the next epoch -/
def nextE (x : MReader) : MReader := { x with f_Epoch := w64 (x.f_Epoch + 1) }
noncomputable def nextOk (x : MReader) : Bool := readerOk x && readerOk (nextE x)
noncomputable def nextX (x : MReader) : MReader := if nextOk x = true then nextE x else x
theorem readerOk_epoch {x : MReader} (h : readerOk x = true) : 0 ≤ x.f_Epoch ∧ x.f_Epoch ≤ 40 := by
  have h1 : readerP x := by
    by_cases hp : readerP x
    · exact hp
    · rw [readerOk_false hp] at h; cases h
  exact h1.2.1
theorem w64_range (n : Int) : -9223372036854775808 ≤ w64 n ∧ w64 n < 9223372036854775808 := by unfold w64; omega
theorem l1Min_ok (w : World) (a b : Int) : ACalls Try.prog 88 #[.int .i64 a, .int .i64 b] w fun r w' => r = .int .i64 (min a b) ∧ w' = w := by
  refine body_of follows Try.func88 rfl rfl _ rfl (by kernel_rfl) (vs (ways ?_ ?_))
  · refine vh fun h => ?_
    exact i64_eq (by omega)
  · refine vh fun h => ?_
    exact i64_eq (by omega)

theorem implNext_ok (w : World) (cs : List Value) (x : MReader) (h : kReader.rd w w.heap.size cs x) (hs : smReader x) :
    ACalls Try.prog 54 #[.agg cs.toArray] w fun r w' => ∃ cs' fp, r = .tuple #[.agg cs'.toArray, .bool (nextOk x)] ∧ Sep w.heap.size w w' [Ck.own kReader fp cs' (nextX x)] := by
  obtain ⟨v0, v2, v3, rfl, h0, h1, h2, h3⟩ := kReader_open h
  have H := Sep.start w
  refine body_of follows Try.func54 rfl rfl _ rfl (by kernel_rfl) (vs ?_)
  refine x_bx H [v0, .int .i64 x.f_Epoch, v2, v3] fun g1 w1 H => vs ?_
  refine x_al H st42 fun g2 w2 H => vs ?_
  refine x_lda H st42 ?_
  refine vs ?_
  refine x_call (cloneReader_ok w2 _ _ (H.rd h) hs) fun _ w3 ⟨cs2, fp2, e, S⟩ => ?_
  subst e
  have H := H.join S
  simp only [List.cons_append, List.nil_append] at H
  have hone := Kd.one _ (H.own (.head _))
  obtain ⟨u0, u2, u3, f0, f2, f3, rfl, r1, H⟩ := apartReader H
  refine vs ?_
  refine x_al H st42 fun g4 w3 H => vs ?_
  refine x_sta H st42 (h1 := hone) fun w3 H => vs ?_
  refine x_ld H sc3 ?_
  refine vs ?_
  refine x_st H sc3 fun w4 H => vs ?_
  have H := ((H.front (c := Ck.own (Kd.slice 24 (bytes 5)) f3 [u3] x.f_Got)).front (c := Ck.own (Kd.slice 24 (bytes 5)) f2 [u2] x.f_Seen)).front (c := Ck.own (bytes 5) f0 [u0] x.f_Seed)
  obtain ⟨fp3, H⟩ := ownReader (nextE x) H (w64_range _)
  refine x_lda H st42 ?_
  refine vs ?_
  refine x_callb H (implReaderOk_ok w4 _ _ (H.rd h)) fun w5 H => ?_
  cases hok : readerOk x with
  | false =>
    refine vs ?_
    refine x_lda H st42 ?_
    refine vs ?_
    refine x_call (cloneReader_ok w5 _ _ (H.rd h) hs) fun _ w6 ⟨cs6, fp6, e, S⟩ => ?_
    subst e
    have H := H.join S
    simp only [List.cons_append, List.nil_append] at H
    obtain ⟨t0, t2, t3, rfl, _⟩ := kReader_open (H.own (.head _))
    refine vs ?_
    refine x_sta H st42 (h1 := Kd.one _ (H.own (.head _))) fun w7 H => vs ?_
    have e1 : nextOk x = false := by unfold nextOk; rw [hok]; rfl
    have e2 : nextX x = x := by unfold nextX; rw [if_neg (by rw [e1]; decide)]
    rw [e1, e2]
    exact ⟨_, _, rfl, res_cell H st42, _, _, rfl, H.only⟩
  | true =>
    refine vs ?_
    refine x_lda H st42 ?_
    refine vs ?_
    refine x_callb H (implReaderOk_ok w5 _ (nextE x) (H.own (.head _))) fun w6 H => ?_
    cases hok2 : readerOk (nextE x) with
    | false =>
      refine vs ?_
      refine x_lda H st42 ?_
      refine vs ?_
      refine x_call (cloneReader_ok w6 _ _ (H.rd h) hs) fun _ w6 ⟨cs6, fp6, e, S⟩ => ?_
      subst e
      have H := H.join S
      simp only [List.cons_append, List.nil_append] at H
      obtain ⟨t0, t2, t3, rfl, _⟩ := kReader_open (H.own (.head _))
      refine vs ?_
      refine x_sta H st42 (h1 := Kd.one _ (H.own (.head _))) fun w7 H => vs ?_
      have e1 : nextOk x = false := by unfold nextOk; rw [hok, hok2]; rfl
      have e2 : nextX x = x := by unfold nextX; rw [if_neg (by rw [e1]; decide)]
      rw [e1, e2]
      exact ⟨_, _, rfl, res_cell H st42, _, _, rfl, H.only⟩
    | true =>
      refine vs ?_
      refine x_lda H st42 ?_
      refine vs ?_
      refine x_sta H st42 (h1 := Kd.one _ (H.own (.head _))) fun w7 H => vs ?_
      have e1 : nextOk x = true := by unfold nextOk; rw [hok, hok2]; rfl
      have e2 : nextX x = nextE x := by unfold nextX; rw [if_pos e1]
      rw [e1, e2]
      exact ⟨_, _, rfl, res_cell H st42, _, _, rfl, H.only⟩

theorem specNext_ok (w : World) (cs : List Value) (x : MReader) (h : kReader.rd w w.heap.size cs x) (hs : smReader x) :
    ACalls Try.prog 53 #[.agg cs.toArray] w fun r w' => ∃ cs' fp, r = .tuple #[.agg cs'.toArray, .bool (nextOk x)] ∧ Sep w.heap.size w w' [Ck.own kReader fp cs' (nextX x)] := by
  obtain ⟨v0, v2, v3, rfl, h0, h1, h2, h3⟩ := kReader_open h
  obtain ⟨m, hm, hm0, hm1, hm2⟩ : ∃ m : Int, m = min x.f_Epoch 40 ∧ -9223372036854775808 ≤ m ∧ m ≤ 40 ∧ (x.f_Epoch ≤ 40 → m = x.f_Epoch) := ⟨_, rfl, by omega, by omega, by omega⟩
  have H := Sep.start w
  refine body_of follows Try.func53 rfl rfl _ rfl (by kernel_rfl) (vs ?_)
  refine x_bx H [v0, .int .i64 x.f_Epoch, v2, v3] fun g1 w1 H => vs ?_
  refine x_al H st42 fun g2 w2 H => vs ?_
  refine x_lda H st42 ?_
  refine vs ?_
  refine x_call (l16Copy_ok w2 _ _ (H.rd h) hs) fun _ w3 ⟨cs2, fp2, e, S⟩ => ?_
  subst e
  have H := H.join S
  simp only [List.cons_append, List.nil_append] at H
  have hone := Kd.one _ (H.own (.head _))
  obtain ⟨u0, u2, u3, f0, f2, f3, rfl, r1, H⟩ := apartReader H
  refine vs ?_
  refine x_al H st42 fun g4 w3 H => vs ?_
  refine x_sta H st42 (h1 := hone) fun w3 H => vs ?_
  refine x_ld H sc3 ?_
  refine vs ?_
  refine x_callw (l1Min_ok w3 _ _) ?_
  rw [← hm]
  refine vs ?_
  refine x_st H sc3 fun w4 H => vs ?_
  have H := ((H.front (c := Ck.own (Kd.slice 24 (bytes 5)) f3 [u3] x.f_Got)).front (c := Ck.own (Kd.slice 24 (bytes 5)) f2 [u2] x.f_Seen)).front (c := Ck.own (bytes 5) f0 [u0] x.f_Seed)
  obtain ⟨fp3, H⟩ := ownReader ({ x with f_Epoch := w64 (m + 1) }) H (w64_range _)
  refine x_lda H st42 ?_
  refine vs ?_
  refine x_callb H (specReaderOk_ok w4 _ _ (H.rd h)) fun w5 H => ?_
  cases hok : readerOk x with
  | false =>
    refine vs ?_
    refine x_lda H st42 ?_
    refine vs ?_
    refine x_call (l16Copy_ok w5 _ _ (H.rd h) hs) fun _ w6 ⟨cs6, fp6, e, S⟩ => ?_
    subst e
    have H := H.join S
    simp only [List.cons_append, List.nil_append] at H
    obtain ⟨t0, t2, t3, rfl, _⟩ := kReader_open (H.own (.head _))
    refine vs ?_
    refine x_sta H st42 (h1 := Kd.one _ (H.own (.head _))) fun w7 H => vs ?_
    have e1 : nextOk x = false := by unfold nextOk; rw [hok]; rfl
    have e2 : nextX x = x := by unfold nextX; rw [if_neg (by rw [e1]; decide)]
    rw [e1, e2]
    exact ⟨_, _, rfl, res_cell H st42, _, _, rfl, H.only⟩
  | true =>
    have hme := hm2 (readerOk_epoch hok).2
    clear hm
    subst hme
    refine vs ?_
    refine x_lda H st42 ?_
    refine vs ?_
    refine x_callb H (specReaderOk_ok w5 _ (nextE x) (H.own (.head _))) fun w6 H => ?_
    cases hok2 : readerOk (nextE x) with
    | false =>
      refine vs ?_
      refine x_lda H st42 ?_
      refine vs ?_
      refine x_call (l16Copy_ok w6 _ _ (H.rd h) hs) fun _ w6 ⟨cs6, fp6, e, S⟩ => ?_
      subst e
      have H := H.join S
      simp only [List.cons_append, List.nil_append] at H
      obtain ⟨t0, t2, t3, rfl, _⟩ := kReader_open (H.own (.head _))
      refine vs ?_
      refine x_sta H st42 (h1 := Kd.one _ (H.own (.head _))) fun w7 H => vs ?_
      have e1 : nextOk x = false := by unfold nextOk; rw [hok, hok2]; rfl
      have e2 : nextX x = x := by unfold nextX; rw [if_neg (by rw [e1]; decide)]
      rw [e1, e2]
      exact ⟨_, _, rfl, res_cell H st42, _, _, rfl, H.only⟩
    | true =>
      refine vs ?_
      refine x_lda H st42 ?_
      refine vs ?_
      refine x_sta H st42 (h1 := Kd.one _ (H.own (.head _))) fun w7 H => vs ?_
      have e1 : nextOk x = true := by unfold nextOk; rw [hok, hok2]; rfl
      have e2 : nextX x = nextE x := by unfold nextX; rw [if_pos e1]
      rw [e1, e2]
      exact ⟨_, _, rfl, res_cell H st42, _, _, rfl, H.only⟩
theorem readerNew_tot (a : List UInt8) : totReader (readerNew a) ≤ a.length := by
  unfold readerNew
  split
  · simp [totReader, readerZ, totByteSS, totL]
  · simp [totReader, zReader, totByteSS, totL]
theorem nextX_tot (x : MReader) : totReader (nextX x) = totReader x := by
  unfold nextX
  split
  · rfl
  · rfl
end Go.Proofs.Ytaaommmjpeedcaa.V
