/- Lines read from bytes: both sides. Laid by a program. -/
import Derived.Test.YtdljbekkckfmnaaGreatWql
import Derived.Test.YtdljbekkckfmnaaGreatWsa
import Derived.Test.YtdljbekkckfmnaaGreatWp
namespace Go.Proofs.YtdljbekkckfmnaaGreat.V
open Go Go.RowKit
set_option maxRecDepth 100000
set_option maxHeartbeats 4000000
set_option linter.unusedSimpArgs false
set_option linter.unusedVariables false
set_option pp.deepTerms false
set_option pp.deepTerms.threshold 3

theorem shl_or8 (a b : UInt8) : ior .i64 (ishl .i64 (a.toNat : Int) 8) (b.toNat : Int) = ((256 * a.toNat + b.toNat : Nat) : Int) := by
  have ha := a.toNat_lt
  have hb := b.toNat_lt
  rw [ishl_nat (by omega) (by omega), ior_nat (by rw [Nat.shiftLeft_eq]; omega) (by omega)]
  congr 1
  rw [show a.toNat <<< 8 = 2 ^ 8 * a.toNat by rw [Nat.shiftLeft_eq, Nat.mul_comm], ← Nat.two_pow_add_eq_or_of_lt (by omega)]
theorem mul_add8 (a b : UInt8) : w64 (w64 (256 * (a.toNat : Int)) + (b.toNat : Int)) = ((256 * a.toNat + b.toNat : Nat) : Int) := by
  have ha := a.toNat_lt
  have hb := b.toNat_lt
  unfold w64; omega
theorem lineSz_lt (x : List UInt8) : lineSz x < 65536 := by
  have h1 := (x.getD 14 0).toNat_lt
  have h2 := (x.getD 15 0).toNat_lt
  unfold lineSz be; omega
theorem be_lt (x : List UInt8) (i : Nat) : be x i < 256 := by
  have h1 := (x.getD i 0).toNat_lt
  unfold be; omega
theorem w64_be (x : List UInt8) (i : Nat) : w64 (be x i : Int) = (be x i : Int) := by have := be_lt x i; unfold w64; omega
theorem getD_one0 (a : Int) : [a].getD 0 0 = a := rfl
theorem getD_drop0 (b : List UInt8) (o i : Nat) : (b.drop o).getD i 0 = b.getD (o + i) 0 := by
  simp [List.getD_eq_getElem?_getD, List.getElem?_drop]
theorem rawLine_kind (x : List UInt8) : (rawLine x).f_Kind = (be x 0 : Int) := rfl
theorem rawLine_route3 {x : List UInt8} (h : be x 0 = 3) : (rawLine x).f_Route = [] := if_pos h
theorem rawLine_route {x : List UInt8} (h : ¬ be x 0 = 3) : (rawLine x).f_Route = hexB ((x.drop 1).take 8) := if_neg h
theorem rawLine_small (x : List UInt8) : (rawLine x).f_Route.length ≤ 16 ∧ (rawLine x).f_Bytes.length ≤ x.length := by
  constructor
  · by_cases h : be x 0 = 3
    · rw [rawLine_route3 h]; simp
    · rw [rawLine_route h, hexB_len, List.length_take]; omega
  · show ((x.drop 16).take (lineSz x)).length ≤ _
    rw [List.length_take, List.length_drop]; omega
theorem rawLine_rng (x : List UInt8) : (-9223372036854775808 ≤ (rawLine x).f_Kind ∧ (rawLine x).f_Kind < 9223372036854775808) ∧ (rawLine x).f_Route.length ≤ 9223372036854775807 ∧ (-9223372036854775808 ≤ (rawLine x).f_Topic ∧ (rawLine x).f_Topic < 9223372036854775808) ∧ (-9223372036854775808 ≤ (rawLine x).f_Due ∧ (rawLine x).f_Due < 9223372036854775808) := by
  have h0 := be_lt x 0
  have h9 := be_lt x 9
  have hs := rawLine_small x
  refine ⟨?_, by omega, ?_, w4_i64 ..⟩
  · rw [rawLine_kind]; omega
  · show (-9223372036854775808 : Int) ≤ (be x 9 : Int) ∧ (be x 9 : Int) < 9223372036854775808
    omega
theorem zLine_cells (w : World) : kLine.ow w [] [.int .i64 0, .string ⟨#[]⟩, .int .i64 0, .int .i64 0, .slice none 0 0] zLine := kLine_zero w
theorem lo_18 {n : Nat} (h : n ≤ 1073741824) : w64 (w64 ((n : Int) - 16) - 2) = (n : Int) - 18 := by unfold w64; omega
theorem lo_18s {n : Nat} (h : n ≤ 1073741824) : w64 ((n : Int) - 18) = (n : Int) - 18 := by unfold w64; omega
theorem lo_16 {z : Nat} (h : z < 65536) : w64 (16 + (z : Int)) = ((16 + z : Nat) : Int) := by unfold w64; omega
theorem lo_162 {z : Nat} (h : z < 65536) : w64 (((16 + z : Nat) : Int) + 2) = ((18 + z : Nat) : Int) := by unfold w64; omega
theorem lo_k {k n m : Nat} (h : k ≤ 1073741824) (h2 : n ≤ 1000000) (e : m = k + n) : w64 ((k : Int) + (n : Int)) = (m : Int) := by unfold w64; omega
theorem lo_kl {k m : Nat} (n : Nat) (h : k ≤ 1073741824) (h2 : n ≤ 1000000) (e : m = k + n) {i : Int} (hi : i = (n : Int)) : w64 ((k : Int) + i) = (m : Int) := by subst hi; exact lo_k h h2 e
theorem lo_bk {b k : Nat} (hb : b ≤ 1073741824) (hk : k ≤ b) : w64 (w64 ((b : Int) - (k : Int)) - 18) = (b : Int) - k - 18 := by unfold w64; omega
def LineR (w : World) (b : List UInt8) (k : Nat) (r : Value) (w' : World) : Prop := ∃ cs fp, r = .tuple #[.agg cs.toArray, .int .i64 (lineOf b k).2.1, .bool (lineOf b k).2.2] ∧ Sep w.heap.size w w' [Ck.own kLine fp cs (lineOf b k).1]
theorem implLineOf_ok (w : World) (v : Value) (b : List UInt8) (k : Nat) (h : (bytes 5).rd w w.heap.size [v] b) (hk : k ≤ b.length) (hl : b.length ≤ 1073741824) :
    ACalls Tryz.prog 65 #[v, .int .i64 (k : Int)] w fun r w' => LineR w b k r w' := by
  have hv := h
  obtain ⟨A, c, rfl, hc1, hc2, ha⟩ := sl_open h
  have H := Sep.start w
  refine body_of follows Tryz.func65 rfl rfl _ rfl (by kernel_rfl) (vs ?_)
  refine x_al H st73 fun g4 w1 H => ?_
  refine ve (lo_18 hl) ?_
  refine x_callw (in_ok w1 _ _ _) ?_
  by_cases hin : 0 ≤ (k : Int) ∧ (k : Int) ≤ (b.length : Int) - 18
  rotate_left
  · refine ve hin ?_
    refine x_build bl73 [.int .i64 0, .string ⟨#[]⟩, .int .i64 0, .int .i64 0, .slice none 0 0] ?_
    refine vs ?_
    have H := H.nothing (zLine_cells w1)
    refine x_sta H st73 (h1 := Kd.one _ (H.own (.head _))) fun w6 H => vs ?_
    unfold LineR
    rw [lineOf_out hin]
    exact ⟨_, _, rfl, res_cell H st73, _, _, rfl, H.head⟩
  refine ve hin ?_
  have hk18 : 18 ≤ (b.drop k).length := by rw [List.length_drop]; omega
  refine x_fromN sl22 rfl k hv rfl hk fun v7 hv7 => ?_
  have hxl : (b.drop k).length ≤ 1073741824 := by rw [List.length_drop]; omega
  generalize hX : b.drop k = x at *
  have hv7' := hv7
  obtain ⟨A7, c7, rfl, _, _, ha7⟩ := sl_open hv7
  refine vs ?_
  have hN := lineSz_lt x
  refine cut_to (σ := Unit) (fun _ => [(1, .int .i64 (k : Int)), (4, .pointer (some ⟨g4, 0, none⟩)), (7, .slice A7 x.length c7), (8, .int .i64 (lineSz x : Int))])
    (fun _ w' => Sep w.heap.size w w' [Ck.box g4 [.int .i64 0, .string ⟨#[]⟩, .int .i64 0, .int .i64 0, .slice none 0 0] 73]) ?_ ?_
  · refine draw_of [(0, true), (1, true), (2, true), (3, true), (4, true), (5, true), (6, true), (7, true), (8, true), (9, true), (10, true)] w.heap.size [] fun w2 hh2 hb2 => vs ?_
    have H := H.go (hb2 _)
    refine q_elV pl_u8 sl22 14 (ha7.mono H.bel) (getD_at (z := 0) (by omega)) rfl rfl fun ad hb hc _ => vs ?_
    refine qx_load sc5 hc hb (by simp) (vs ?_)
    refine q_elV pl_u8 sl22 15 (ha7.mono H.bel) (getD_at (z := 0) (by omega)) rfl rfl fun ad hb hc _ => vs ?_
    refine qx_load sc5 hc hb (by simp) (vs ?_)
    exact ⟨(), i64_eq (shl_or8 (x.getD 14 0) (x.getD 15 0)), H⟩
  rintro _ s2 w2 H
  refine ve (lo_18 hxl) ?_
  by_cases hsz : (x.length : Int) - 18 < (lineSz x : Int)
  · refine ve hsz ?_
    refine x_build bl73 [.int .i64 0, .string ⟨#[]⟩, .int .i64 0, .int .i64 0, .slice none 0 0] ?_
    refine vs ?_
    have H := H.nothing (zLine_cells w2)
    refine x_sta H st73 (h1 := Kd.one _ (H.own (.head _))) fun w6 H => vs ?_
    unfold LineR
    rw [lineOf_none (by rw [hX]; exact lineAt_no (by omega))]
    exact ⟨_, _, rfl, res_cell H st73, _, _, rfl, H.head⟩
  refine ve hsz ?_
  have hz := be_lt x 0
  have hz9 := be_lt x 9
  have hr4 := w4_range (x.getD 10 0) (x.getD 11 0) (x.getD 12 0) (x.getD 13 0)
  have hbl : ((x.drop 16).take (lineSz x)).length = lineSz x := by rw [List.length_take, List.length_drop]; omega
  refine cut_to (σ := Nat × Value × List Nat) (fun y => [(1, .int .i64 (k : Int)), (4, .pointer (some ⟨g4, 0, none⟩)), (7, .slice A7 x.length c7), (8, .int .i64 (lineSz x : Int)), (9, .pointer (some ⟨y.1, 0, none⟩))])
    (fun y w' => Sep w.heap.size w w' [Ck.box y.1 [.int .i64 (be x 0 : Int), .string ⟨(hexB ((x.drop 1).take 8)).toArray⟩, .int .i64 (be x 9 : Int), .int .i64 (w4 (x.getD 10 0) (x.getD 11 0) (x.getD 12 0) (x.getD 13 0)), y.2.1] 73, Ck.own (bytes 5) y.2.2 [y.2.1] ((x.drop 16).take (lineSz x)), Ck.box g4 [.int .i64 0, .string ⟨#[]⟩, .int .i64 0, .int .i64 0, .slice none 0 0] 73]) ?_ ?_
  · have J := Sep.start w2
    refine fork_draw w2.heap.size [] fun w3 hh hb3 => ?_
    have J := J.go (hb3 _)
    have J3 := J
    have HJ := H.join J
    refine rest_pre [(0, true), (1, true), (2, true), (3, true), (4, true), (5, true), (7, true), (8, true), (9, true), (10, true), (11, true), (12, true), (14, true), (15, true), (16, true), (17, true)] 6 ?_
    refine vs ?_
    refine q_elV pl_u8 sl22 0 (ha7.mono HJ.bel) (getD_at (z := 0) (by omega)) rfl rfl fun ad hb hc _ => vs ?_
    refine qx_load sc5 hc (Nat.lt_of_lt_of_le hb H.ns) (by simp) (vs ?_)
    refine q_subN sl22 rfl 1 9 hv7' rfl rfl (by omega) (by omega) fun v6 hv6 => vs ?_
    refine q_elV pl_u8 sl22 9 (ha7.mono HJ.bel) (getD_at (z := 0) (by omega)) rfl rfl fun ad hb hc _ => vs ?_
    refine qx_load sc5 hc (Nat.lt_of_lt_of_le hb H.ns) (by simp) (vs ?_)
    refine q_subN sl22 rfl 10 14 hv7' rfl rfl (by omega) (by omega) fun v12 hv12 => ve (lo_16 hN) ?_
    refine q_subN sl22 rfl 16 (16 + lineSz x) hv7' rfl rfl (by omega) (by omega) fun v17 hv17 => vs ?_
    rw [show 9 - 1 = 8 from rfl] at hv6
    rw [show 14 - 10 = 4 from rfl] at hv12
    rw [show 16 + lineSz x - 16 = lineSz x by omega] at hv17
    refine rest_fork 6 20 5 ?_ ?_
    · refine vs ?_
      refine x_callb J (implHex_ok _ v6 _ (J.rd (H.rd hv6)) (by rw [List.length_take]; omega)) fun wa J => vs ?_
      refine ⟨kept_base J3 J, ?_⟩
      refine rest_fork 13 20 4 ?_ ?_
      · refine vs ?_
        refine x_callb J (wordOf_ok _ v12 _ (J.rd (H.rd hv12)) (by rw [List.length_take, List.length_drop]; omega)) fun wb J => vs ?_
        refine ⟨kept_base J3 J, ?_⟩
        rw [getD_drop _ _ _ _ (by omega), getD_drop _ _ _ _ (by omega), getD_drop _ _ _ _ (by omega), getD_drop _ _ _ _ (by omega)]
        refine rest_fork 18 20 3 ?_ ?_
        · refine vs ?_
          refine x_callf J (cloneBy_ok _ v17 _ (J.rd (H.rd hv17)) (by omega)) fun rc fc wc J => vs ?_
          refine ⟨kept_base J3 J, ?_⟩
          refine rest_end [(19, true), (20, false), (21, false)] ?_
          refine vs ?_
          obtain ⟨Ac, cc, rfl, _⟩ := sl_open (J.own (fp := fc) (x := (x.drop 16).take (lineSz x)) (by repeat (first | exact List.mem_cons_self | apply List.mem_cons_of_mem)))
          refine q_bld bl73 [.int .i64 (be x 0 : Int), .string ⟨(hexB ((x.drop 1).take 8)).toArray⟩, .int .i64 (be x 9 : Int), .int .i64 (w4 (x.getD 10 0) (x.getD 11 0) (x.getD 12 0) (x.getD 13 0)), .slice Ac ((x.drop 16).take (lineSz x)).length cc] ?_
          refine vs ?_
          refine x_al J st73 fun gd wd J => vs ?_
          refine ⟨kept_base J3 J, ?_⟩
          refine x_sta J st73 (h1 := by simp [Value.oneCell']) fun we J => vs ?_
          refine ⟨kept_base J3 J, ?_⟩
          have H := H.join J
          simp only [List.cons_append, List.nil_append] at H
          exact ⟨(gd, _, _), vs trivial, H.three (by repeat (first | exact Out.here | apply Out.there)) (by repeat (first | exact Out.here | apply Out.there)) (by repeat (first | exact Out.here | apply Out.there))⟩
        · refine vs ?_
          refine x_al J st73 fun gd wd J => vs ?_
          refine ⟨kept_base J3 J, ?_⟩
          refine rest_end [(18, false), (19, true), (21, false)] ?_
          refine vs ?_
          refine x_callf J (cloneBy_ok _ v17 _ (J.rd (H.rd hv17)) (by omega)) fun rc fc wc J => vs ?_
          refine ⟨kept_base J3 J, ?_⟩
          obtain ⟨Ac, cc, rfl, _⟩ := sl_open (J.own (fp := fc) (x := (x.drop 16).take (lineSz x)) (by repeat (first | exact List.mem_cons_self | apply List.mem_cons_of_mem)))
          refine q_bld bl73 [.int .i64 (be x 0 : Int), .string ⟨(hexB ((x.drop 1).take 8)).toArray⟩, .int .i64 (be x 9 : Int), .int .i64 (w4 (x.getD 10 0) (x.getD 11 0) (x.getD 12 0) (x.getD 13 0)), .slice Ac ((x.drop 16).take (lineSz x)).length cc] ?_
          refine vs ?_
          refine x_sta J st73 (h1 := by simp [Value.oneCell']) fun we J => vs ?_
          refine ⟨kept_base J3 J, ?_⟩
          have H := H.join J
          simp only [List.cons_append, List.nil_append] at H
          exact ⟨(gd, _, _), vs trivial, H.three (by repeat (first | exact Out.here | apply Out.there)) (by repeat (first | exact Out.here | apply Out.there)) (by repeat (first | exact Out.here | apply Out.there))⟩
      · refine vs ?_
        refine x_al J st73 fun gd wd J => vs ?_
        refine ⟨kept_base J3 J, ?_⟩
        refine rest_end [(13, false), (18, false), (19, true), (21, false)] ?_
        refine vs ?_
        refine x_callb J (wordOf_ok _ v12 _ (J.rd (H.rd hv12)) (by rw [List.length_take, List.length_drop]; omega)) fun wb J => vs ?_
        refine ⟨kept_base J3 J, ?_⟩
        rw [getD_drop _ _ _ _ (by omega), getD_drop _ _ _ _ (by omega), getD_drop _ _ _ _ (by omega), getD_drop _ _ _ _ (by omega)]
        refine x_callf J (cloneBy_ok _ v17 _ (J.rd (H.rd hv17)) (by omega)) fun rc fc wc J => vs ?_
        refine ⟨kept_base J3 J, ?_⟩
        obtain ⟨Ac, cc, rfl, _⟩ := sl_open (J.own (fp := fc) (x := (x.drop 16).take (lineSz x)) (by repeat (first | exact List.mem_cons_self | apply List.mem_cons_of_mem)))
        refine q_bld bl73 [.int .i64 (be x 0 : Int), .string ⟨(hexB ((x.drop 1).take 8)).toArray⟩, .int .i64 (be x 9 : Int), .int .i64 (w4 (x.getD 10 0) (x.getD 11 0) (x.getD 12 0) (x.getD 13 0)), .slice Ac ((x.drop 16).take (lineSz x)).length cc] ?_
        refine vs ?_
        refine x_sta J st73 (h1 := by simp [Value.oneCell']) fun we J => vs ?_
        refine ⟨kept_base J3 J, ?_⟩
        have H := H.join J
        simp only [List.cons_append, List.nil_append] at H
        exact ⟨(gd, _, _), vs trivial, H.three (by repeat (first | exact Out.here | apply Out.there)) (by repeat (first | exact Out.here | apply Out.there)) (by repeat (first | exact Out.here | apply Out.there))⟩
    · refine vs ?_
      refine x_al J st73 fun gd wd J => vs ?_
      refine ⟨kept_base J3 J, ?_⟩
      refine rest_end [(6, false), (13, false), (18, false), (19, true), (21, false)] ?_
      refine vs ?_
      refine x_callb J (implHex_ok _ v6 _ (J.rd (H.rd hv6)) (by rw [List.length_take]; omega)) fun wa J => vs ?_
      refine ⟨kept_base J3 J, ?_⟩
      refine x_callb J (wordOf_ok _ v12 _ (J.rd (H.rd hv12)) (by rw [List.length_take, List.length_drop]; omega)) fun wb J => vs ?_
      refine ⟨kept_base J3 J, ?_⟩
      rw [getD_drop _ _ _ _ (by omega), getD_drop _ _ _ _ (by omega), getD_drop _ _ _ _ (by omega), getD_drop _ _ _ _ (by omega)]
      refine x_callf J (cloneBy_ok _ v17 _ (J.rd (H.rd hv17)) (by omega)) fun rc fc wc J => vs ?_
      refine ⟨kept_base J3 J, ?_⟩
      obtain ⟨Ac, cc, rfl, _⟩ := sl_open (J.own (fp := fc) (x := (x.drop 16).take (lineSz x)) (by repeat (first | exact List.mem_cons_self | apply List.mem_cons_of_mem)))
      refine q_bld bl73 [.int .i64 (be x 0 : Int), .string ⟨(hexB ((x.drop 1).take 8)).toArray⟩, .int .i64 (be x 9 : Int), .int .i64 (w4 (x.getD 10 0) (x.getD 11 0) (x.getD 12 0) (x.getD 13 0)), .slice Ac ((x.drop 16).take (lineSz x)).length cc] ?_
      refine vs ?_
      refine x_sta J st73 (h1 := by simp [Value.oneCell']) fun we J => vs ?_
      refine ⟨kept_base J3 J, ?_⟩
      have H := H.join J
      simp only [List.cons_append, List.nil_append] at H
      exact ⟨(gd, _, _), vs trivial, H.three (by repeat (first | exact Out.here | apply Out.there)) (by repeat (first | exact Out.here | apply Out.there)) (by repeat (first | exact Out.here | apply Out.there))⟩
  rintro ⟨g9, u9, f9⟩ s w5 H
  dsimp only at H
  refine vs ?_
  refine x_ld H sc3 ?_
  by_cases hK : be x 0 = 3
  · refine ve (show ((be x 0 : Int) = 3) = True from eq_true (by omega)) ?_
    refine x_st H sc9 fun w6 H => ?_
    have er := rawLine_route3 hK
    have H := H.front (c := Ck.own (bytes 5) f9 [u9] ((x.drop 16).take (lineSz x)))
    obtain ⟨fl, H⟩ := ownLine (rawLine x) H (rawLine_rng x).1 (rawLine_rng x).2.1 (rawLine_rng x).2.2.1 (rawLine_rng x).2.2.2
    rw [er] at H
    have hsml := rawLine_small x
    have ho := H.own (.head _)
    have hone := Kd.one _ ho
    have J := Sep.start w6
    refine ve (And.intro (lo_16 hN) (lo_162 hN)) ?_
    refine draw_of [(0, true), (2, true), (3, true), (4, true), (1, false), (5, false), (6, true)] w6.heap.size [] fun w7 hh hb7 => vs ?_
    have J := J.go (hb7 _)
    have J3 := J
    refine q_ldaB H J3 st73 ?_
    refine vs ?_
    refine q_toN sl22 rfl (18 + lineSz x) hv7' rfl (by omega) fun vend hve => vs ?_
    refine x_callf J (implLineBytes_ok w7 _ (rawLine x) (J.rd ho) (by omega) (by omega)) fun rb fb w8 J => vs ?_
    refine ⟨kept_base J3 J, ?_⟩
    refine x_callw (implSame_ok w8 _ _ _ _ (J.own (.head _)) (J.rd (H.rd hve))) ?_
    refine ⟨kept_base J3 J, ?_⟩
    have H := H.join J
    simp only [List.cons_append, List.nil_append] at H
    by_cases hsame : lineBytes (rawLine x) = x.take (18 + lineSz x)
    · refine ve (show (lineBytes (rawLine x) = x.take (18 + lineSz x)) = True from eq_true hsame) ?_
      refine x_lda H st73 ?_
      refine ve (And.intro (lo_16 hN) (And.intro (lo_162 hN) (lo_k (k := k) (n := 18 + lineSz x) (by omega) (by omega) rfl))) ?_
      refine x_sta H st73 (vs := [.int .i64 (be x 0 : Int), .string _, .int .i64 (be x 9 : Int), .int .i64 (w4 (x.getD 10 0) (x.getD 11 0) (x.getD 12 0) (x.getD 13 0)), u9]) (h1 := hone) fun w10 H => vs ?_
      unfold LineR
      rw [lineOf_some hk (by rw [hX]; exact lineAt_yes (by omega) (by omega) hsame)]
      exact ⟨_, _, rfl, res_cell H st73, _, _, rfl, H.only⟩
    · refine ve hsame ?_
      refine x_build bl73 [.int .i64 0, .string ⟨#[]⟩, .int .i64 0, .int .i64 0, .slice none 0 0] ?_
      refine vs ?_
      have H := H.nothing (zLine_cells w8)
      refine x_sta H st73 (vs := [.int .i64 0, .string ⟨#[]⟩, .int .i64 0, .int .i64 0, .slice none 0 0]) (h1 := Kd.one _ (H.own (.head _))) fun w10 H => vs ?_
      unfold LineR
      rw [lineOf_none (by rw [hX]; exact lineAt_no fun hh => hsame hh.2.2)]
      exact ⟨_, _, rfl, res_cell H st73, _, _, rfl, H.head⟩
  · refine ve (show ¬ (be x 0 : Int) = 3 by omega) ?_
    have er := rawLine_route hK
    have H := H.front (c := Ck.own (bytes 5) f9 [u9] ((x.drop 16).take (lineSz x)))
    obtain ⟨fl, H⟩ := ownLine (rawLine x) H (rawLine_rng x).1 (rawLine_rng x).2.1 (rawLine_rng x).2.2.1 (rawLine_rng x).2.2.2
    rw [er] at H
    have hsml := rawLine_small x
    have ho := H.own (.head _)
    have hone := Kd.one _ ho
    have J := Sep.start w5
    refine ve (And.intro (lo_16 hN) (lo_162 hN)) ?_
    refine draw_of [(0, true), (2, true), (3, true), (4, true), (1, false), (5, false), (6, true)] w5.heap.size [] fun w7 hh hb7 => vs ?_
    have J := J.go (hb7 _)
    have J3 := J
    refine q_ldaB H J3 st73 ?_
    refine vs ?_
    refine q_toN sl22 rfl (18 + lineSz x) hv7' rfl (by omega) fun vend hve => vs ?_
    refine x_callf J (implLineBytes_ok w7 _ (rawLine x) (J.rd ho) (by omega) (by omega)) fun rb fb w8 J => vs ?_
    refine ⟨kept_base J3 J, ?_⟩
    refine x_callw (implSame_ok w8 _ _ _ _ (J.own (.head _)) (J.rd (H.rd hve))) ?_
    refine ⟨kept_base J3 J, ?_⟩
    have H := H.join J
    simp only [List.cons_append, List.nil_append] at H
    by_cases hsame : lineBytes (rawLine x) = x.take (18 + lineSz x)
    · refine ve (show (lineBytes (rawLine x) = x.take (18 + lineSz x)) = True from eq_true hsame) ?_
      refine x_lda H st73 ?_
      refine ve (And.intro (lo_16 hN) (And.intro (lo_162 hN) (lo_k (k := k) (n := 18 + lineSz x) (by omega) (by omega) rfl))) ?_
      refine x_sta H st73 (vs := [.int .i64 (be x 0 : Int), .string _, .int .i64 (be x 9 : Int), .int .i64 (w4 (x.getD 10 0) (x.getD 11 0) (x.getD 12 0) (x.getD 13 0)), u9]) (h1 := hone) fun w10 H => vs ?_
      unfold LineR
      rw [lineOf_some hk (by rw [hX]; exact lineAt_yes (by omega) (by omega) hsame)]
      exact ⟨_, _, rfl, res_cell H st73, _, _, rfl, H.only⟩
    · refine ve hsame ?_
      refine x_build bl73 [.int .i64 0, .string ⟨#[]⟩, .int .i64 0, .int .i64 0, .slice none 0 0] ?_
      refine vs ?_
      have H := H.nothing (zLine_cells w8)
      refine x_sta H st73 (vs := [.int .i64 0, .string ⟨#[]⟩, .int .i64 0, .int .i64 0, .slice none 0 0]) (h1 := Kd.one _ (H.own (.head _))) fun w10 H => vs ?_
      unfold LineR
      rw [lineOf_none (by rw [hX]; exact lineAt_no fun hh => hsame hh.2.2)]
      exact ⟨_, _, rfl, res_cell H st73, _, _, rfl, H.head⟩
theorem specLineOf_ok (w : World) (v : Value) (b : List UInt8) (k : Nat) (h : (bytes 5).rd w w.heap.size [v] b) (hk : k ≤ b.length) (hl : b.length ≤ 1073741824) :
    ACalls Tryz.prog 107 #[v, .int .i64 (k : Int)] w fun r w' => LineR w b k r w' := by
  have hv := h
  obtain ⟨A, c, rfl, hc1, hc2, ha⟩ := sl_open h
  have H := Sep.start w
  refine body_of follows Tryz.func107 rfl rfl _ rfl (by kernel_rfl) (vs ?_)
  refine x_al H st73 fun g4 w1 H => ?_
  refine ve (And.intro (lo_18s hl) (show ¬ (k : Int) < 0 by omega)) ?_
  by_cases hin : (b.length : Int) - 18 < (k : Int)
  · refine ve (And.intro hin (show ¬ (k : Int) < 0 by omega)) ?_
    refine x_build bl73 [.int .i64 0, .string ⟨#[]⟩, .int .i64 0, .int .i64 0, .slice none 0 0] ?_
    refine vs ?_
    have H := H.nothing (zLine_cells w1)
    refine x_sta H st73 (h1 := Kd.one _ (H.own (.head _))) fun w6 H => vs ?_
    unfold LineR
    rw [lineOf_out (by omega)]
    exact ⟨_, _, rfl, res_cell H st73, _, _, rfl, H.head⟩
  refine ve (And.intro hin (show ¬ (k : Int) < 0 by omega)) ?_
  have hkl : k ≤ 1073741824 := by omega
  have eN : 256 * (b.getD (k + 14) 0).toNat + (b.getD (k + 15) 0).toNat = lineSz (b.drop k) := by unfold lineSz be; rw [getD_drop0, getD_drop0]
  have hxl : (b.drop k).length = b.length - k := List.length_drop
  have d0 : ((b.getD k 0).toNat : Int) = (be (b.drop k) 0 : Int) := by unfold be; rw [getD_drop0]; rfl
  have d9 : ((b.getD (k + 9) 0).toNat : Int) = (be (b.drop k) 9 : Int) := by unfold be; rw [getD_drop0]
  have d4 : wordsN ((b.drop (k + 10)).take 4) 1 = [w4 ((b.drop k).getD 10 0) ((b.drop k).getD 11 0) ((b.drop k).getD 12 0) ((b.drop k).getD 13 0)] := by
    show [w4 _ _ _ _] = _
    simp only [List.getD_eq_getElem?_getD, List.getElem?_take, List.getElem?_drop]
    rfl
  have dx1 : (b.drop (k + 1)).take 8 = ((b.drop k).drop 1).take 8 := by rw [List.drop_drop]
  have dx16 : (b.drop (k + 16)).take (lineSz (b.drop k)) = ((b.drop k).drop 16).take (lineSz (b.drop k)) := by rw [List.drop_drop]
  have dxk : ∀ n, (b.drop k).take n = (b.drop k).take n := fun _ => rfl
  generalize hX : b.drop k = x at *
  have hN := lineSz_lt x
  refine cut_to (σ := Unit) (fun _ => [(0, .slice A b.length c), (1, .int .i64 (k : Int)), (4, .pointer (some ⟨g4, 0, none⟩)), (7, .int .i64 (lineSz x : Int))])
    (fun _ w' => Sep w.heap.size w w' [Ck.box g4 [.int .i64 0, .string ⟨#[]⟩, .int .i64 0, .int .i64 0, .slice none 0 0] 73]) ?_ ?_
  · refine draw_of [(0, true), (1, true), (2, true), (3, true), (4, true), (5, true), (6, true), (7, true), (8, true), (9, true), (10, true), (11, true), (12, true), (13, true), (14, true)] w.heap.size [] fun w2 hh2 hb2 => ve (lo_kl (i := 14) 14 hkl (by decide) rfl rfl) ?_
    have H := H.go (hb2 _)
    refine q_elV pl_u8 sl22 (k + 14) (ha.mono H.bel) (getD_at (z := 0) (by omega)) rfl rfl fun ad hb hc _ => vs ?_
    refine qx_load sc5 hc hb (by simp) (ve (lo_kl (i := 15) 15 hkl (by decide) rfl rfl) ?_)
    refine q_elV pl_u8 sl22 (k + 15) (ha.mono H.bel) (getD_at (z := 0) (by omega)) rfl rfl fun ad hb hc _ => vs ?_
    refine qx_load sc5 hc hb (by simp) (vs ?_)
    have := mul_add8 (b.getD (k + 14) 0) (b.getD (k + 15) 0)
    rw [eN] at this
    exact ⟨(), i64_eq this, H⟩
  clear eN
  rintro _ s2 w2 H
  refine ve (lo_bk hl hk) ?_
  by_cases hsz : (b.length : Int) - k - 18 < (lineSz x : Int)
  · refine ve hsz ?_
    refine x_build bl73 [.int .i64 0, .string ⟨#[]⟩, .int .i64 0, .int .i64 0, .slice none 0 0] ?_
    refine vs ?_
    have H := H.nothing (zLine_cells w2)
    refine x_sta H st73 (h1 := Kd.one _ (H.own (.head _))) fun w6 H => vs ?_
    unfold LineR
    rw [lineOf_none (by rw [hX]; exact lineAt_no (by omega))]
    exact ⟨_, _, rfl, res_cell H st73, _, _, rfl, H.head⟩
  refine ve (And.intro hsz (And.intro (lo_kl (i := 10) 10 hkl (by decide) rfl rfl) (lo_kl (i := 14) 14 hkl (by decide) rfl rfl))) ?_
  have hz := be_lt x 0
  have hz9 := be_lt x 9
  have hr4 := w4_range (x.getD 10 0) (x.getD 11 0) (x.getD 12 0) (x.getD 13 0)
  have hbl : ((x.drop 16).take (lineSz x)).length = lineSz x := by rw [List.length_take, List.length_drop]; omega
  refine x_subN sl22 rfl (k + 10) (k + 14) hv rfl rfl (by omega) (by omega) fun v8 hv8 => vs ?_
  rw [show k + 14 - (k + 10) = 4 by omega] at hv8
  refine x_callf H (specWords_ok w2 v8 _ 1 (H.rd hv8) (by rw [List.length_take, List.length_drop]; omega) (by decide)) fun r8 f8 w3 H => vs ?_
  rw [d4] at H
  have hr8 := H.own (.head _)
  obtain ⟨A8, c8, rfl, _, _, ha8⟩ := sl_open hr8
  refine cut_to (σ := Nat × Value × List Nat) (fun y => [(0, .slice A b.length c), (1, .int .i64 (k : Int)), (4, .pointer (some ⟨g4, 0, none⟩)), (7, .int .i64 (lineSz x : Int)), (9, .pointer (some ⟨y.1, 0, none⟩))])
    (fun y w' => Sep w.heap.size w w' [Ck.box y.1 [.int .i64 (be x 0 : Int), .string ⟨(hexB ((x.drop 1).take 8)).toArray⟩, .int .i64 (be x 9 : Int), .int .i64 (w4 (x.getD 10 0) (x.getD 11 0) (x.getD 12 0) (x.getD 13 0)), y.2.1] 73, Ck.own (bytes 5) y.2.2 [y.2.1] ((x.drop 16).take (lineSz x)), Ck.box g4 [.int .i64 0, .string ⟨#[]⟩, .int .i64 0, .int .i64 0, .slice none 0 0] 73]) ?_ ?_
  · have J := Sep.start w3
    refine fork_draw w3.heap.size [] fun wq hh hb3 => ?_
    have J := J.go (hb3 _)
    have J3 := J
    have HJ := H.join J
    refine rest_pre [(0, true), (1, true), (2, true), (3, true), (4, true), (5, true), (6, true), (7, true), (8, true), (9, true), (10, true), (12, true), (13, true), (14, true), (15, true), (16, true), (17, true), (18, true), (19, true), (20, true), (22, true), (23, true), (24, true), (25, true), (26, true), (27, true), (28, true), (29, true)] 6 ?_ (hs := by as_aux_lemma => kernel_rfl) (hp := by as_aux_lemma => kernel_rfl)
    refine vs ?_
    refine q_elV pl_u8 sl22 k (ha.mono HJ.bel) (getD_at (z := 0) (by omega)) rfl rfl fun ad hb hc _ => vs ?_
    refine qx_load sc5 hc (Nat.lt_of_lt_of_le hb H.ns) (by simp) (ve (And.intro (And.intro d0 (w64_be x 0)) (And.intro (lo_kl (i := 1) 1 hkl (by decide) rfl rfl) (lo_kl (i := 9) 9 hkl (by decide) rfl rfl))) ?_)
    refine q_subN sl22 rfl (k + 1) (k + 9) hv rfl rfl (by omega) (by omega) fun v6 hv6 => ve (lo_kl (i := 9) 9 hkl (by decide) rfl rfl) ?_
    refine q_elV pl_u8 sl22 (k + 9) (ha.mono HJ.bel) (getD_at (z := 0) (by omega)) rfl rfl fun ad hb hc _ => vs ?_
    refine qx_load sc5 hc (Nat.lt_of_lt_of_le hb H.ns) (by simp) (ve (And.intro d9 (w64_be x 9)) ?_)
    refine q_elV pl_i64 sl98 0 (ha8.mono J.bel) (getD_at (z := 0) (by simp)) rfl rfl fun ad hb hc _ => vs ?_
    refine qx_load sc3 hc hb (by simp) (ve (And.intro (And.intro (getD_one0 (w4 (x.getD 10 0) (x.getD 11 0) (x.getD 12 0) (x.getD 13 0))) (lo_kl (i := 16) 16 hkl (by decide) rfl rfl)) (lo_k (k := k + 16) (n := lineSz x) (by omega) (by omega) rfl)) ?_)
    refine q_subN sl22 rfl (k + 16) (k + 16 + lineSz x) hv rfl rfl (by omega) (by omega) fun v17 hv17 => vs ?_
    rw [show k + 9 - (k + 1) = 8 by omega, dx1] at hv6
    rw [show k + 16 + lineSz x - (k + 16) = lineSz x by omega, dx16] at hv17
    refine rest_fork3 11 21 32 5 ?_ ?_ ?_ (hr := by as_aux_lemma => kernel_rfl)
    · refine vs ?_
      refine x_callb J (specHex_ok _ v6 _ (J.rd (H.rd hv6)) (by rw [List.length_take]; omega)) fun wa J => vs ?_
      refine ⟨kept_base J3 J, ?_⟩
      refine rest_fork 21 32 4 ?_ ?_ (hr := by as_aux_lemma => kernel_rfl)
      · refine vs ?_
        refine x_emp J pl_u8 sl22 fun gc wb J => vs ?_
        refine ⟨kept_base J3 J, ?_⟩
        refine rest_fork 30 32 3 ?_ ?_ (hr := by as_aux_lemma => kernel_rfl)
        · refine vs ?_
          refine x_app J pl_u8 sl22 (J.rd (H.rd hv17)) ?_ ?_ fun fc rc wc J => vs ?_
          · simp only [List.length_nil]; omega
          · simp only [List.length_nil]; omega
          refine ⟨kept_base J3 J, ?_⟩
          rw [List.nil_append] at J
          refine rest_end [(31, true), (32, false), (33, false)] ?_ (hs := by as_aux_lemma => kernel_rfl) (hp := by as_aux_lemma => kernel_rfl)
          refine vs ?_
          obtain ⟨Ac, cc, rfl, _⟩ := sl_open (J.own (fp := fc) (x := (x.drop 16).take (lineSz x)) (by repeat (first | exact List.mem_cons_self | apply List.mem_cons_of_mem)))
          refine q_bld bl73 [.int .i64 (be x 0 : Int), .string ⟨(hexB ((x.drop 1).take 8)).toArray⟩, .int .i64 (be x 9 : Int), .int .i64 (w4 (x.getD 10 0) (x.getD 11 0) (x.getD 12 0) (x.getD 13 0)), .slice Ac ((x.drop 16).take (lineSz x)).length cc] ?_
          refine vs ?_
          refine x_al J st73 fun gd wd J => vs ?_
          refine ⟨kept_base J3 J, ?_⟩
          refine x_sta J st73 (h1 := by simp [Value.oneCell']) fun we J => vs ?_
          refine ⟨kept_base J3 J, ?_⟩
          have H := H.join J
          simp only [List.cons_append, List.nil_append] at H
          exact ⟨(gd, _, _), vs trivial, H.three (by repeat (first | exact Out.here | apply Out.there)) (by repeat (first | exact Out.here | apply Out.there)) (by repeat (first | exact Out.here | apply Out.there))⟩
        · refine vs ?_
          refine x_al J st73 fun gd wd J => vs ?_
          refine ⟨kept_base J3 J, ?_⟩
          refine rest_end [(30, false), (31, true), (33, false)] ?_ (hs := by as_aux_lemma => kernel_rfl) (hp := by as_aux_lemma => kernel_rfl)
          refine vs ?_
          refine x_app J pl_u8 sl22 (J.rd (H.rd hv17)) ?_ ?_ fun fc rc wc J => vs ?_
          · simp only [List.length_nil]; omega
          · simp only [List.length_nil]; omega
          refine ⟨kept_base J3 J, ?_⟩
          rw [List.nil_append] at J
          obtain ⟨Ac, cc, rfl, _⟩ := sl_open (J.own (fp := fc) (x := (x.drop 16).take (lineSz x)) (by repeat (first | exact List.mem_cons_self | apply List.mem_cons_of_mem)))
          refine q_bld bl73 [.int .i64 (be x 0 : Int), .string ⟨(hexB ((x.drop 1).take 8)).toArray⟩, .int .i64 (be x 9 : Int), .int .i64 (w4 (x.getD 10 0) (x.getD 11 0) (x.getD 12 0) (x.getD 13 0)), .slice Ac ((x.drop 16).take (lineSz x)).length cc] ?_
          refine vs ?_
          refine x_sta J st73 (h1 := by simp [Value.oneCell']) fun we J => vs ?_
          refine ⟨kept_base J3 J, ?_⟩
          have H := H.join J
          simp only [List.cons_append, List.nil_append] at H
          exact ⟨(gd, _, _), vs trivial, H.three (by repeat (first | exact Out.here | apply Out.there)) (by repeat (first | exact Out.here | apply Out.there)) (by repeat (first | exact Out.here | apply Out.there))⟩
      · refine vs ?_
        refine x_al J st73 fun gd wd J => vs ?_
        refine ⟨kept_base J3 J, ?_⟩
        refine rest_end [(21, false), (30, false), (31, true), (33, false)] ?_ (hs := by as_aux_lemma => kernel_rfl) (hp := by as_aux_lemma => kernel_rfl)
        refine vs ?_
        refine x_emp J pl_u8 sl22 fun gc wb J => vs ?_
        refine ⟨kept_base J3 J, ?_⟩
        refine x_app J pl_u8 sl22 (J.rd (H.rd hv17)) ?_ ?_ fun fc rc wc J => vs ?_
        · simp only [List.length_nil]; omega
        · simp only [List.length_nil]; omega
        refine ⟨kept_base J3 J, ?_⟩
        rw [List.nil_append] at J
        obtain ⟨Ac, cc, rfl, _⟩ := sl_open (J.own (fp := fc) (x := (x.drop 16).take (lineSz x)) (by repeat (first | exact List.mem_cons_self | apply List.mem_cons_of_mem)))
        refine q_bld bl73 [.int .i64 (be x 0 : Int), .string ⟨(hexB ((x.drop 1).take 8)).toArray⟩, .int .i64 (be x 9 : Int), .int .i64 (w4 (x.getD 10 0) (x.getD 11 0) (x.getD 12 0) (x.getD 13 0)), .slice Ac ((x.drop 16).take (lineSz x)).length cc] ?_
        refine vs ?_
        refine x_sta J st73 (h1 := by simp [Value.oneCell']) fun we J => vs ?_
        refine ⟨kept_base J3 J, ?_⟩
        have H := H.join J
        simp only [List.cons_append, List.nil_append] at H
        exact ⟨(gd, _, _), vs trivial, H.three (by repeat (first | exact Out.here | apply Out.there)) (by repeat (first | exact Out.here | apply Out.there)) (by repeat (first | exact Out.here | apply Out.there))⟩
    · refine vs ?_
      refine x_emp J pl_u8 sl22 fun gc wb J => vs ?_
      refine ⟨kept_base J3 J, ?_⟩
      refine rest_fork 11 32 4 ?_ ?_ (hr := by as_aux_lemma => kernel_rfl)
      · refine vs ?_
        refine x_callb J (specHex_ok _ v6 _ (J.rd (H.rd hv6)) (by rw [List.length_take]; omega)) fun wa J => vs ?_
        refine ⟨kept_base J3 J, ?_⟩
        refine rest_fork 30 32 3 ?_ ?_ (hr := by as_aux_lemma => kernel_rfl)
        · refine vs ?_
          refine x_app J pl_u8 sl22 (J.rd (H.rd hv17)) ?_ ?_ fun fc rc wc J => vs ?_
          · simp only [List.length_nil]; omega
          · simp only [List.length_nil]; omega
          refine ⟨kept_base J3 J, ?_⟩
          rw [List.nil_append] at J
          refine rest_end [(31, true), (32, false), (33, false)] ?_ (hs := by as_aux_lemma => kernel_rfl) (hp := by as_aux_lemma => kernel_rfl)
          refine vs ?_
          obtain ⟨Ac, cc, rfl, _⟩ := sl_open (J.own (fp := fc) (x := (x.drop 16).take (lineSz x)) (by repeat (first | exact List.mem_cons_self | apply List.mem_cons_of_mem)))
          refine q_bld bl73 [.int .i64 (be x 0 : Int), .string ⟨(hexB ((x.drop 1).take 8)).toArray⟩, .int .i64 (be x 9 : Int), .int .i64 (w4 (x.getD 10 0) (x.getD 11 0) (x.getD 12 0) (x.getD 13 0)), .slice Ac ((x.drop 16).take (lineSz x)).length cc] ?_
          refine vs ?_
          refine x_al J st73 fun gd wd J => vs ?_
          refine ⟨kept_base J3 J, ?_⟩
          refine x_sta J st73 (h1 := by simp [Value.oneCell']) fun we J => vs ?_
          refine ⟨kept_base J3 J, ?_⟩
          have H := H.join J
          simp only [List.cons_append, List.nil_append] at H
          exact ⟨(gd, _, _), vs trivial, H.three (by repeat (first | exact Out.here | apply Out.there)) (by repeat (first | exact Out.here | apply Out.there)) (by repeat (first | exact Out.here | apply Out.there))⟩
        · refine vs ?_
          refine x_al J st73 fun gd wd J => vs ?_
          refine ⟨kept_base J3 J, ?_⟩
          refine rest_end [(30, false), (31, true), (33, false)] ?_ (hs := by as_aux_lemma => kernel_rfl) (hp := by as_aux_lemma => kernel_rfl)
          refine vs ?_
          refine x_app J pl_u8 sl22 (J.rd (H.rd hv17)) ?_ ?_ fun fc rc wc J => vs ?_
          · simp only [List.length_nil]; omega
          · simp only [List.length_nil]; omega
          refine ⟨kept_base J3 J, ?_⟩
          rw [List.nil_append] at J
          obtain ⟨Ac, cc, rfl, _⟩ := sl_open (J.own (fp := fc) (x := (x.drop 16).take (lineSz x)) (by repeat (first | exact List.mem_cons_self | apply List.mem_cons_of_mem)))
          refine q_bld bl73 [.int .i64 (be x 0 : Int), .string ⟨(hexB ((x.drop 1).take 8)).toArray⟩, .int .i64 (be x 9 : Int), .int .i64 (w4 (x.getD 10 0) (x.getD 11 0) (x.getD 12 0) (x.getD 13 0)), .slice Ac ((x.drop 16).take (lineSz x)).length cc] ?_
          refine vs ?_
          refine x_sta J st73 (h1 := by simp [Value.oneCell']) fun we J => vs ?_
          refine ⟨kept_base J3 J, ?_⟩
          have H := H.join J
          simp only [List.cons_append, List.nil_append] at H
          exact ⟨(gd, _, _), vs trivial, H.three (by repeat (first | exact Out.here | apply Out.there)) (by repeat (first | exact Out.here | apply Out.there)) (by repeat (first | exact Out.here | apply Out.there))⟩
      · refine vs ?_
        refine x_al J st73 fun gd wd J => vs ?_
        refine ⟨kept_base J3 J, ?_⟩
        refine rest_end [(11, false), (30, false), (31, true), (33, false)] ?_ (hs := by as_aux_lemma => kernel_rfl) (hp := by as_aux_lemma => kernel_rfl)
        refine vs ?_
        refine x_callb J (specHex_ok _ v6 _ (J.rd (H.rd hv6)) (by rw [List.length_take]; omega)) fun wa J => vs ?_
        refine ⟨kept_base J3 J, ?_⟩
        refine x_app J pl_u8 sl22 (J.rd (H.rd hv17)) ?_ ?_ fun fc rc wc J => vs ?_
        · simp only [List.length_nil]; omega
        · simp only [List.length_nil]; omega
        refine ⟨kept_base J3 J, ?_⟩
        rw [List.nil_append] at J
        obtain ⟨Ac, cc, rfl, _⟩ := sl_open (J.own (fp := fc) (x := (x.drop 16).take (lineSz x)) (by repeat (first | exact List.mem_cons_self | apply List.mem_cons_of_mem)))
        refine q_bld bl73 [.int .i64 (be x 0 : Int), .string ⟨(hexB ((x.drop 1).take 8)).toArray⟩, .int .i64 (be x 9 : Int), .int .i64 (w4 (x.getD 10 0) (x.getD 11 0) (x.getD 12 0) (x.getD 13 0)), .slice Ac ((x.drop 16).take (lineSz x)).length cc] ?_
        refine vs ?_
        refine x_sta J st73 (h1 := by simp [Value.oneCell']) fun we J => vs ?_
        refine ⟨kept_base J3 J, ?_⟩
        have H := H.join J
        simp only [List.cons_append, List.nil_append] at H
        exact ⟨(gd, _, _), vs trivial, H.three (by repeat (first | exact Out.here | apply Out.there)) (by repeat (first | exact Out.here | apply Out.there)) (by repeat (first | exact Out.here | apply Out.there))⟩
    · refine vs ?_
      refine x_al J st73 fun gd wd J => vs ?_
      refine ⟨kept_base J3 J, ?_⟩
      refine rest_fork 11 21 4 ?_ ?_ (hr := by as_aux_lemma => kernel_rfl)
      · refine vs ?_
        refine x_callb J (specHex_ok _ v6 _ (J.rd (H.rd hv6)) (by rw [List.length_take]; omega)) fun wa J => vs ?_
        refine ⟨kept_base J3 J, ?_⟩
        refine rest_end [(21, false), (30, false), (31, true), (33, false)] ?_ (hs := by as_aux_lemma => kernel_rfl) (hp := by as_aux_lemma => kernel_rfl)
        refine vs ?_
        refine x_emp J pl_u8 sl22 fun gc wb J => vs ?_
        refine ⟨kept_base J3 J, ?_⟩
        refine x_app J pl_u8 sl22 (J.rd (H.rd hv17)) ?_ ?_ fun fc rc wc J => vs ?_
        · simp only [List.length_nil]; omega
        · simp only [List.length_nil]; omega
        refine ⟨kept_base J3 J, ?_⟩
        rw [List.nil_append] at J
        obtain ⟨Ac, cc, rfl, _⟩ := sl_open (J.own (fp := fc) (x := (x.drop 16).take (lineSz x)) (by repeat (first | exact List.mem_cons_self | apply List.mem_cons_of_mem)))
        refine q_bld bl73 [.int .i64 (be x 0 : Int), .string ⟨(hexB ((x.drop 1).take 8)).toArray⟩, .int .i64 (be x 9 : Int), .int .i64 (w4 (x.getD 10 0) (x.getD 11 0) (x.getD 12 0) (x.getD 13 0)), .slice Ac ((x.drop 16).take (lineSz x)).length cc] ?_
        refine vs ?_
        refine x_sta J st73 (h1 := by simp [Value.oneCell']) fun we J => vs ?_
        refine ⟨kept_base J3 J, ?_⟩
        have H := H.join J
        simp only [List.cons_append, List.nil_append] at H
        exact ⟨(gd, _, _), vs trivial, H.three (by repeat (first | exact Out.here | apply Out.there)) (by repeat (first | exact Out.here | apply Out.there)) (by repeat (first | exact Out.here | apply Out.there))⟩
      · refine vs ?_
        refine x_emp J pl_u8 sl22 fun gc wb J => vs ?_
        refine ⟨kept_base J3 J, ?_⟩
        refine rest_end [(11, false), (30, false), (31, true), (33, false)] ?_ (hs := by as_aux_lemma => kernel_rfl) (hp := by as_aux_lemma => kernel_rfl)
        refine vs ?_
        refine x_callb J (specHex_ok _ v6 _ (J.rd (H.rd hv6)) (by rw [List.length_take]; omega)) fun wa J => vs ?_
        refine ⟨kept_base J3 J, ?_⟩
        refine x_app J pl_u8 sl22 (J.rd (H.rd hv17)) ?_ ?_ fun fc rc wc J => vs ?_
        · simp only [List.length_nil]; omega
        · simp only [List.length_nil]; omega
        refine ⟨kept_base J3 J, ?_⟩
        rw [List.nil_append] at J
        obtain ⟨Ac, cc, rfl, _⟩ := sl_open (J.own (fp := fc) (x := (x.drop 16).take (lineSz x)) (by repeat (first | exact List.mem_cons_self | apply List.mem_cons_of_mem)))
        refine q_bld bl73 [.int .i64 (be x 0 : Int), .string ⟨(hexB ((x.drop 1).take 8)).toArray⟩, .int .i64 (be x 9 : Int), .int .i64 (w4 (x.getD 10 0) (x.getD 11 0) (x.getD 12 0) (x.getD 13 0)), .slice Ac ((x.drop 16).take (lineSz x)).length cc] ?_
        refine vs ?_
        refine x_sta J st73 (h1 := by simp [Value.oneCell']) fun we J => vs ?_
        refine ⟨kept_base J3 J, ?_⟩
        have H := H.join J
        simp only [List.cons_append, List.nil_append] at H
        exact ⟨(gd, _, _), vs trivial, H.three (by repeat (first | exact Out.here | apply Out.there)) (by repeat (first | exact Out.here | apply Out.there)) (by repeat (first | exact Out.here | apply Out.there))⟩
  clear d0 d9 d4 dx1 dx16 dxk hr8 ha8 hbl hz9 hr4
  rintro ⟨g9, u9, f9'⟩ s w5 H
  dsimp only at H
  refine vs ?_
  refine x_ld H sc3 ?_
  by_cases hK : be x 0 = 3
  · refine ve (show ((be x 0 : Int) = 3) = True from eq_true (by omega)) ?_
    refine x_st H sc9 fun w6 H => vs ?_
    have er := rawLine_route3 hK
    have H := H.front (c := Ck.own (bytes 5) f9' [u9] ((x.drop 16).take (lineSz x)))
    obtain ⟨fl, H⟩ := ownLine (rawLine x) H (rawLine_rng x).1 (rawLine_rng x).2.1 (rawLine_rng x).2.2.1 (rawLine_rng x).2.2.2
    rw [er] at H
    have hsml := rawLine_small x
    have ho := H.own (.head _)
    have hone := Kd.one _ ho
    have J := Sep.start w6
    refine draw_of [(0, true), (2, true), (3, true), (4, true), (5, true), (6, true), (7, true), (8, true), (1, false), (9, false), (10, true)] w6.heap.size [] fun w7 hh hb7 => vs ?_
    have J := J.go (hb7 _)
    have J3 := J
    refine q_ldaB H J3 st73 ?_
    refine vs ?_
    refine ve (And.intro (lo_kl (i := 18) 18 hkl (by decide) rfl rfl) (lo_k (k := k + 18) (n := lineSz x) (m := k + (18 + lineSz x)) (by omega) (by omega) (by omega))) ?_
    refine q_subN sl22 rfl k (k + (18 + lineSz x)) hv rfl rfl (by omega) (by omega) fun vend hve => vs ?_
    rw [show k + (18 + lineSz x) - k = 18 + lineSz x by omega, hX] at hve
    refine x_callf J (specLineBytes_ok w7 _ (rawLine x) (J.rd ho) (by omega) (by omega)) fun rb fb w8 J => vs ?_
    refine ⟨kept_base J3 J, ?_⟩
    refine x_callw (specSame_ok w8 _ _ _ _ (J.own (.head _)) (J.rd (H.rd hve))) ?_
    refine ⟨kept_base J3 J, ?_⟩
    have H := H.join J
    simp only [List.cons_append, List.nil_append] at H
    by_cases hsame : lineBytes (rawLine x) = x.take (18 + lineSz x)
    · refine ve (show (lineBytes (rawLine x) = x.take (18 + lineSz x)) = True from eq_true hsame) ?_
      refine x_lda H st73 ?_
      refine ve (And.intro (lo_kl (i := 18) 18 hkl (by decide) rfl rfl) (lo_k (k := k + 18) (n := lineSz x) (m := k + (18 + lineSz x)) (by omega) (by omega) (by omega))) ?_
      refine x_sta H st73 (vs := [.int .i64 (be x 0 : Int), .string _, .int .i64 (be x 9 : Int), .int .i64 (w4 (x.getD 10 0) (x.getD 11 0) (x.getD 12 0) (x.getD 13 0)), u9]) (h1 := hone) fun w10 H => vs ?_
      unfold LineR
      rw [lineOf_some hk (by rw [hX]; exact lineAt_yes (by omega) (by omega) hsame)]
      exact ⟨_, _, rfl, res_cell H st73, _, _, rfl, H.only⟩
    · refine ve hsame ?_
      refine x_build bl73 [.int .i64 0, .string ⟨#[]⟩, .int .i64 0, .int .i64 0, .slice none 0 0] ?_
      refine vs ?_
      have H := H.nothing (zLine_cells w8)
      refine x_sta H st73 (vs := [.int .i64 0, .string ⟨#[]⟩, .int .i64 0, .int .i64 0, .slice none 0 0]) (h1 := Kd.one _ (H.own (.head _))) fun w10 H => vs ?_
      unfold LineR
      rw [lineOf_none (by rw [hX]; exact lineAt_no fun hh => hsame hh.2.2)]
      exact ⟨_, _, rfl, res_cell H st73, _, _, rfl, H.head⟩
  · refine ve (show ¬ (be x 0 : Int) = 3 by omega) ?_
    have er := rawLine_route hK
    have H := H.front (c := Ck.own (bytes 5) f9' [u9] ((x.drop 16).take (lineSz x)))
    obtain ⟨fl, H⟩ := ownLine (rawLine x) H (rawLine_rng x).1 (rawLine_rng x).2.1 (rawLine_rng x).2.2.1 (rawLine_rng x).2.2.2
    rw [er] at H
    have hsml := rawLine_small x
    have ho := H.own (.head _)
    have hone := Kd.one _ ho
    have J := Sep.start w5
    refine draw_of [(0, true), (2, true), (3, true), (4, true), (5, true), (6, true), (7, true), (8, true), (1, false), (9, false), (10, true)] w5.heap.size [] fun w7 hh hb7 => vs ?_
    have J := J.go (hb7 _)
    have J3 := J
    refine q_ldaB H J3 st73 ?_
    refine vs ?_
    refine ve (And.intro (lo_kl (i := 18) 18 hkl (by decide) rfl rfl) (lo_k (k := k + 18) (n := lineSz x) (m := k + (18 + lineSz x)) (by omega) (by omega) (by omega))) ?_
    refine q_subN sl22 rfl k (k + (18 + lineSz x)) hv rfl rfl (by omega) (by omega) fun vend hve => vs ?_
    rw [show k + (18 + lineSz x) - k = 18 + lineSz x by omega, hX] at hve
    refine x_callf J (specLineBytes_ok w7 _ (rawLine x) (J.rd ho) (by omega) (by omega)) fun rb fb w8 J => vs ?_
    refine ⟨kept_base J3 J, ?_⟩
    refine x_callw (specSame_ok w8 _ _ _ _ (J.own (.head _)) (J.rd (H.rd hve))) ?_
    refine ⟨kept_base J3 J, ?_⟩
    have H := H.join J
    simp only [List.cons_append, List.nil_append] at H
    by_cases hsame : lineBytes (rawLine x) = x.take (18 + lineSz x)
    · refine ve (show (lineBytes (rawLine x) = x.take (18 + lineSz x)) = True from eq_true hsame) ?_
      refine x_lda H st73 ?_
      refine ve (And.intro (lo_kl (i := 18) 18 hkl (by decide) rfl rfl) (lo_k (k := k + 18) (n := lineSz x) (m := k + (18 + lineSz x)) (by omega) (by omega) (by omega))) ?_
      refine x_sta H st73 (vs := [.int .i64 (be x 0 : Int), .string _, .int .i64 (be x 9 : Int), .int .i64 (w4 (x.getD 10 0) (x.getD 11 0) (x.getD 12 0) (x.getD 13 0)), u9]) (h1 := hone) fun w10 H => vs ?_
      unfold LineR
      rw [lineOf_some hk (by rw [hX]; exact lineAt_yes (by omega) (by omega) hsame)]
      exact ⟨_, _, rfl, res_cell H st73, _, _, rfl, H.only⟩
    · refine ve hsame ?_
      refine x_build bl73 [.int .i64 0, .string ⟨#[]⟩, .int .i64 0, .int .i64 0, .slice none 0 0] ?_
      refine vs ?_
      have H := H.nothing (zLine_cells w8)
      refine x_sta H st73 (vs := [.int .i64 0, .string ⟨#[]⟩, .int .i64 0, .int .i64 0, .slice none 0 0]) (h1 := Kd.one _ (H.own (.head _))) fun w10 H => vs ?_
      unfold LineR
      rw [lineOf_none (by rw [hX]; exact lineAt_no fun hh => hsame hh.2.2)]
      exact ⟨_, _, rfl, res_cell H st73, _, _, rfl, H.head⟩
end Go.Proofs.YtdljbekkckfmnaaGreat.V
