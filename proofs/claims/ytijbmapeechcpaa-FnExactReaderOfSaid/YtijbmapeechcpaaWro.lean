/- A reader read from bytes: the side of the program. -/
import Derived.Test.YtijbmapeechcpaaWra
import Derived.Test.YtijbmapeechcpaaWx
namespace Go.Proofs.Ytijbmapeechcpaa.V
open Go Go.RowKit
set_option maxRecDepth 100000
set_option maxHeartbeats 400000
set_option linter.unusedSimpArgs false
set_option linter.unusedVariables false
set_option pp.deepTerms false
set_option pp.deepTerms.threshold 3

theorem take_more {α : Type} {l : List α} {x : α} {m : Nat} (h : l.length < m) : (l ++ [x]).take m = l.take m ++ [x] ∧ (l ++ [x]).drop m = l.drop m := by
  constructor
  · rw [List.take_of_length_le (by simp; omega), List.take_of_length_le (by omega)]
  · rw [List.drop_of_length_le (by simp; omega), List.drop_of_length_le (by omega)]
theorem drop_more {α : Type} {l : List α} {x : α} {m : Nat} (h : m ≤ l.length) : (l ++ [x]).take m = l.take m ∧ (l ++ [x]).drop m = l.drop m ++ [x] := by
  constructor
  · rw [List.take_append_of_le_length h]
  · rw [List.drop_append_of_le_length h]
theorem two_many (x : UInt8) : w64 (2 * (x.toNat : Int)) = ((2 * x.toNat : Nat) : Int) := by
  have := x.toNat_lt
  unfold w64; omega
theorem takeN_le {k : Nat} {b : List UInt8} {ls : List (List UInt8)} {r : List UInt8} (h : takeN k b = some (ls, r)) : r.length ≤ b.length := by
  have := congrArg List.length (takeN_put h).1
  rw [List.length_append] at this; omega
theorem ep_range (x : UInt8) : (-9223372036854775808 : Int) ≤ (x.toNat : Int) ∧ (x.toNat : Int) < 9223372036854775808 := by
  have := x.toNat_lt
  omega

theorem implReaderOf_ok (w : World) (v : Value) (b : List UInt8) (h : (bytes 5).rd w w.heap.size [v] b) (hl : b.length ≤ 1099511627776) :
    ACalls Try.prog 6 #[v] w fun r w' => ∃ cs fp, r = .tuple #[.agg cs.toArray, .bool (readerOf b).2] ∧ Sep w.heap.size w w' [Ck.own kReader fp cs (readerOf b).1] := by
  have hv := h
  obtain ⟨A, c, rfl, hc1, hc2, ha⟩ := sl_open h
  have H := Sep.start w
  refine body_of follows Try.func6 rfl rfl _ rfl (by kernel_rfl) (vs ?_)
  refine x_al H st25 fun g1 w1 H => vs (ways ?_ ?_)
  · refine vh fun hlt => ?_
    refine x_build bl25 [.slice none 0 0, .int .i64 0, .slice none 0 0, .slice none 0 0] ?_
    refine vs ?_
    have H := H.nothing (kReader_zero w1)
    refine x_sta H st25 (h1 := Kd.one _ (H.own (.head _))) fun w6 H => vs ?_
    rw [readerOf_short (by omega)]
    exact ⟨_, _, rfl, res_cell H st25, _, _, rfl, H.head⟩
  refine vh fun hge => ?_
  have hge2 : 34 ≤ b.length := by omega
  refine cut_at (σ := Nat × Value × List Nat) (fun x => [(0, .slice A b.length c), (2, .pointer (some ⟨g1, 0, none⟩)), (4, .pointer (some ⟨x.1, 0, none⟩))])
    (fun x w' => Sep w.heap.size w w' [Ck.box x.1 [x.2.1, .int .i64 ((b.getD 32 0).toNat : Int), .slice none 0 0, .slice none 0 0] 25, Ck.own (bytes 5) x.2.2 [x.2.1] (b.take 32), Ck.box g1 [.slice none 0 0, .int .i64 0, .slice none 0 0, .slice none 0 0] 25]) ?_ ?_
  · have J := Sep.start w1
    refine fork_draw w1.heap.size [] fun w4 hh hb4 => ?_
    have J := J.go (hb4 _)
    have J3 := J
    refine rest_pre [(0, true), (1, true), (3, true), (4, true), (5, true), (6, true)] 4 ?_
    refine vs ?_
    refine q_toE sl22 rfl 32 hv rfl (by omega) fun v1 hr1 => vs ?_
    refine q_elV pl_u8 sl22 32 (ha.mono (H.join J).bel) (getD_at (z := 0) (by omega)) rfl rfl fun ad hb hc _ => vs ?_
    refine qx_load sc5 hc (Nat.lt_of_lt_of_le hb H.bel.size) (by simp) (vs ?_)
    refine rest_fork 2 8 3 ?_ ?_
    · refine vs ?_
      refine x_callf J (takenClone_ok w4 v1 _ (J.rd (H.rd hr1)) (by rw [List.length_take]; omega)) fun r5 f5 w5 J => vs ?_
      refine ⟨kept_base J3 J, ?_⟩
      obtain ⟨A5, c5, rfl, _⟩ := sl_open (J.own (.head _))
      refine rest_end [(7, true), (8, false), (9, false)] ?_
      refine vs ?_
      refine q_bld bl25 [.slice A5 (b.take 32).length c5, .int .i64 ((b.getD 32 0).toNat : Int), .slice none 0 0, .slice none 0 0] ?_
      refine vs ?_
      refine x_al J st25 fun g6 w6 J => vs ?_
      refine ⟨kept_base J3 J, ?_⟩
      refine x_sta J st25 (h1 := by simp [Value.oneCell']) fun w7 J => vs ?_
      refine ⟨kept_base J3 J, ?_⟩

      exact ⟨(g6, _, _), vs trivial, H.join J⟩
    · refine vs ?_
      refine x_al J st25 fun g6 w6 J => vs ?_
      refine ⟨kept_base J3 J, ?_⟩
      refine rest_end [(2, false), (7, true), (9, false)] ?_
      refine vs ?_
      refine x_callf J (takenClone_ok w6 v1 _ (J.rd (H.rd hr1)) (by rw [List.length_take]; omega)) fun r5 f5 w5 J => vs ?_
      refine ⟨kept_base J3 J, ?_⟩
      obtain ⟨A5, c5, rfl, _⟩ := sl_open (J.own (.head _))
      refine q_bld bl25 [.slice A5 (b.take 32).length c5, .int .i64 ((b.getD 32 0).toNat : Int), .slice none 0 0, .slice none 0 0] ?_
      refine vs ?_
      refine x_sta J st25 (h1 := by simp [Value.oneCell']) fun w7 J => vs ?_
      refine ⟨kept_base J3 J, ?_⟩
      exact ⟨(g6, _, _), vs trivial, (H.join J).front (h := .there .here)⟩
  rintro ⟨g4, v4, f4⟩ s w4 H
  dsimp only at H
  have hm := (b.getD 33 0).toNat_lt
  refine vs ?_
  refine x_elV pl_u8 sl22 33 (ha.mono H.bel) (getD_at (z := 0) (by omega)) rfl rfl fun ad hb hc _ => vs ?_
  refine x_load sc5 hc (vs ?_)
  refine x_fromE sl22 rfl 34 hv rfl (by omega) fun v5 hr5 => vs ?_
  have H := (H.nothing (d := Kd.slice 22 (bytes 5)) (sl_zero w4)).nothing (d := Kd.slice 22 (bytes 5)) (sl_zero w4)
  refine loop_at (σ := Nat × Value × Value × Value × List Nat × List Nat × List (List UInt8) × List UInt8) (fun x => [(2, .pointer (some ⟨g1, 0, none⟩)), (4, .pointer (some ⟨g4, 0, none⟩)), (5, .int .i64 ((b.getD 33 0).toNat : Int)), (6, x.2.1), (30, .int .i64 ((2 * (b.getD 33 0).toNat : Nat) : Int)), (31, .int .i64 (x.1 : Int))])
    (fun x w' => x.1 ≤ 2 * (b.getD 33 0).toNat ∧ x.2.2.2.2.2.2.1.length = x.1 ∧ takeN x.1 (b.drop 34) = some (x.2.2.2.2.2.2.1, x.2.2.2.2.2.2.2) ∧ (bytes 5).rd w w.heap.size [x.2.1] x.2.2.2.2.2.2.2 ∧ Sep w.heap.size w w' [Ck.own (Kd.slice 22 (bytes 5)) x.2.2.2.2.1 [x.2.2.1] (x.2.2.2.2.2.2.1.take (b.getD 33 0).toNat), Ck.own (Kd.slice 22 (bytes 5)) x.2.2.2.2.2.1 [x.2.2.2.1] (x.2.2.2.2.2.2.1.drop (b.getD 33 0).toNat), Ck.box g4 [v4, .int .i64 ((b.getD 32 0).toNat : Int), x.2.2.1, x.2.2.2.1] 25, Ck.own (bytes 5) f4 [v4] (b.take 32), Ck.box g1 [.slice none 0 0, .int .i64 0, .slice none 0 0, .slice none 0 0] 25])
    (fun x => 2 * (b.getD 33 0).toNat - x.1) (0, v5, .slice none 0 0, .slice none 0 0, [], [], [], b.drop 34) (ve (two_many (b.getD 33 0)) trivial) ⟨Nat.zero_le _, rfl, rfl, hr5, by dsimp only; rw [List.take_nil, List.drop_nil]; exact H⟩ ?_
  rintro ⟨k, vr, vs1, vg, fs, fg, ls, rest⟩ s w5 ⟨hk, hlen, htk, hr, H⟩
  dsimp only at hk hlen htk hr H
  have hrl := takeN_le htk
  rw [List.length_drop] at hrl
  refine vs (ways ?_ ?_)
  · refine vh fun hlt => ?_
    refine x_call (taken_ok w5 w w.heap.size vr rest hr (H.rd hr) (by omega)) fun r w6 R => ?_
    unfold takenR at R
    cases hP : takeP rest with
    | none =>
      rw [hP] at R
      obtain ⟨rfl, hB⟩ := R
      have H := H.go hB
      refine vs ?_
      refine x_build bl25 [.slice none 0 0, .int .i64 0, .slice none 0 0, .slice none 0 0] ?_
      refine vs ?_
      have H := H.nothing (kReader_zero w6)
      refine x_sta H st25 (h1 := Kd.one _ (H.own (.head _))) fun w7 H => vs ?_
      have hN : takeN (2 * (b.getD 33 0).toNat) (b.drop 34) = none := by
        have := takeN_none (takeN_bad htk hP) (2 * (b.getD 33 0).toNat - (k + 1))
        rwa [show k + 1 + (2 * (b.getD 33 0).toNat - (k + 1)) = 2 * (b.getD 33 0).toNat by omega] at this
      rw [readerOf_none hge2 hN]
      exact ⟨_, _, rfl, res_cell H st25, _, _, rfl, H.head⟩
    | some p =>
      obtain ⟨x, rest'⟩ := p
      rw [hP] at R
      obtain ⟨v7, v8, f7, rfl, hr8, S⟩ := R
      have H := H.join S
      simp only [List.cons_append, List.nil_append] at H
      have hll : (ls.take (b.getD 33 0).toNat).length ≤ 600 := by rw [List.length_take]; omega
      have hld : (ls.drop (b.getD 33 0).toNat).length ≤ 600 := by rw [List.length_drop]; omega
      refine vs (ways ?_ ?_)
      · refine vh fun hlt2 => ?_
        obtain ⟨e1, e2⟩ := take_more (l := ls) (x := x) (m := (b.getD 33 0).toNat) (by omega)
        refine x_ld H sc23 (vs ?_)
        refine x_lst1 sl23 H (cells_one (Kd.one _ (H.own (.head _)) _ (by simp))) rfl fun f9 v9 w9 H => vs ?_
        refine x_appO sl23 H rfl ?_ ?_ fun f10 v10 w10 H => vs ?_
        · simp only [List.length_cons, List.length_nil]; omega
        · simp only [List.length_cons, List.length_nil]; omega
        refine x_st H sc23 (h1 := Kd.one _ (H.own (.head _)) _ (by simp)) (fun w11 H => vs ?_)
        refine ⟨(k + 1, v8, v10, vg, f10, fg, ls ++ [x], rest'), ?_, ⟨by dsimp only; omega, by dsimp only; rw [List.length_append, hlen]; rfl, takeN_ok htk hP, hr8, ?_⟩, by show 2 * (b.getD 33 0).toNat - (k + 1) < 2 * (b.getD 33 0).toNat - k; omega⟩
        · exact ⟨rfl, i64_eq (by show w64 ((k : Int) + 1) = ((k + 1 : Nat) : Int); exact w64_succ (b := 1048576) (by omega) (by omega))⟩
        · dsimp only; rw [e1, e2]; exact H
      · refine vh fun hlt2 => ?_
        obtain ⟨e1, e2⟩ := drop_more (l := ls) (x := x) (m := (b.getD 33 0).toNat) (by omega)
        have H := H.front (c := Ck.own (Kd.slice 22 (bytes 5)) fg [vg] (ls.drop (b.getD 33 0).toNat)) (h := .there (.there .here))
        have H := H.front (h := .there .here)
        refine x_ld H sc23 (vs ?_)
        refine x_lst1 sl23 H (cells_one (Kd.one _ (H.own (.head _)) _ (by simp))) rfl fun f9 v9 w9 H => vs ?_
        refine x_appO sl23 H rfl ?_ ?_ fun f10 v10 w10 H => vs ?_
        · simp only [List.length_cons, List.length_nil]; omega
        · simp only [List.length_cons, List.length_nil]; omega
        have H := H.front (h := .there .here)
        refine x_st H sc23 (h1 := Kd.one _ (H.own (.tail _ (.head _))) _ (by simp)) (fun w11 H => vs ?_)
        refine ⟨(k + 1, v8, vs1, v10, fs, f10, ls ++ [x], rest'), ?_, ⟨by dsimp only; omega, by dsimp only; rw [List.length_append, hlen]; rfl, takeN_ok htk hP, hr8, ?_⟩, by show 2 * (b.getD 33 0).toNat - (k + 1) < 2 * (b.getD 33 0).toNat - k; omega⟩
        · exact ⟨rfl, i64_eq (by show w64 ((k : Int) + 1) = ((k + 1 : Nat) : Int); exact w64_succ (b := 1048576) (by omega) (by omega))⟩
        · dsimp only; rw [e1, e2]; exact H
  · refine vh fun hlt => ?_
    obtain rfl : k = 2 * (b.getD 33 0).toNat := by omega
    have HR := readerOf_rest (b := b) (ls := ls) (r := rest) hge2 htk
    obtain ⟨Ar, cr, rfl, _⟩ := sl_open hr
    refine vs (ways ?_ ?_)
    · refine vh fun hz => ?_
      refine x_build bl25 [.slice none 0 0, .int .i64 0, .slice none 0 0, .slice none 0 0] ?_
      refine vs ?_
      have H := H.nothing (kReader_zero w5)
      refine x_sta H st25 (h1 := Kd.one _ (H.own (.head _))) fun w7 H => vs ?_
      rw [HR (by omega)]
      exact ⟨_, _, rfl, res_cell H st25, _, _, rfl, H.head⟩
    · refine vh fun hz => ?_
      obtain rfl : rest = [] := List.eq_nil_of_length_eq_zero (by omega)
      have H := H.front (c := Ck.own (bytes 5) f4 [v4] (b.take 32)) (h := .there (.there (.there .here)))
      obtain ⟨fr, H⟩ := ownReader (readerR b ls) H (ep_range _)
      refine x_lda H st25 ?_
      refine ve hz ?_
      refine x_callb H (implReaderOk_ok w5 _ _ (H.own (.head _))) fun w6 H => ?_
      cases hok : readerOk (readerR b ls) with
      | true =>
        refine ve hz ?_
        refine x_lda H st25 ?_
        refine vs ?_
        refine x_sta H st25 (h1 := Kd.one _ (H.own (.head _))) fun w7 H => vs ?_
        rw [readerOf_good hge2 htk hok]
        exact ⟨_, _, rfl, res_cell H st25, _, _, rfl, H.head⟩
      | false =>
        refine ve hz ?_
        refine x_build bl25 [.slice none 0 0, .int .i64 0, .slice none 0 0, .slice none 0 0] ?_
        refine vs ?_
        have H := H.nothing (kReader_zero w6)
        refine x_sta H st25 (h1 := Kd.one _ (H.own (.head _))) fun w7 H => vs ?_
        rw [readerOf_bad hge2 htk hok]
        exact ⟨_, _, rfl, res_cell H st25, _, _, rfl, H.head⟩
end Go.Proofs.Ytijbmapeechcpaa.V
