/- Texts laid by programs, part 10. -/
import Derived.Test.YtcmckbgiiclomacGreatU09
import Derived.Test.YtcmckbgiiclomacGreatU07
namespace Go.Proofs.YtcmckbgiiclomacGreat.V
open Go Go.RowKit
set_option maxRecDepth 100000
set_option maxHeartbeats 4000000
set_option linter.unusedSimpArgs false
set_option linter.unusedVariables false
set_option pp.deepTerms false
set_option pp.deepTerms.threshold 3
theorem shl_or8 (a b : UInt8) : ior .i64 (ishl .i64 (a.toNat : Int) 8) (b.toNat : Int) = ((256 * a.toNat + b.toNat : Nat) : Int) := by
  have ha := a.toNat_lt; have hb := b.toNat_lt; rw [ishl_nat (by omega) (by omega), ior_nat (by rw [Nat.shiftLeft_eq]; omega) (by omega)]
  congr 1
  rw [show a.toNat <<< 8 = 2 ^ 8 * a.toNat by rw [Nat.shiftLeft_eq, Nat.mul_comm], ← Nat.two_pow_add_eq_or_of_lt (by omega)]
theorem mul_add8 (a b : UInt8) : w64 (w64 (256 * (a.toNat : Int)) + (b.toNat : Int)) = ((256 * a.toNat + b.toNat : Nat) : Int) := by
  have ha := a.toNat_lt; have hb := b.toNat_lt; unfold w64; omega
theorem lineSz_lt (x : List UInt8) : lineSz x < 65536 := by
  have h1 := (x.getD 14 0).toNat_lt; have h2 := (x.getD 15 0).toNat_lt; unfold lineSz be; omega
theorem be_lt (x : List UInt8) (i : Nat) : be x i < 256 := by
  have h1 := (x.getD i 0).toNat_lt; unfold be; omega
theorem w64_be (x : List UInt8) (i : Nat) : w64 (be x i : Int) = (be x i : Int) := by have := be_lt x i; unfold w64; omega
theorem getD_one0 (a : Int) : [a].getD 0 0 = a := rfl
theorem getD_drop0 (b : List UInt8) (o i : Nat) : (b.drop o).getD i 0 = b.getD (o + i) 0 := by
  simp [List.getD_eq_getElem?_getD, List.getElem?_drop]
theorem rawLine_kind (x : List UInt8) : (rawLine x).f_Kind = (be x 0 : Int) := rfl
theorem rawLine_route3 {x : List UInt8} (h : be x 0 = 3) : (rawLine x).f_Route = [] := if_pos h
theorem rawLine_route {x : List UInt8} (h : ¬ be x 0 = 3) : (rawLine x).f_Route = hexB ((x.drop 1).take 8) := if_neg h
theorem rawLine_small (x : List UInt8) : (rawLine x).f_Route.length ≤ 16 ∧ (rawLine x).f_Bytes.length ≤ x.length := by
  constructor
  · by_cases h : be x 0 = 3
    · rw [rawLine_route3 h]; simp
    · rw [rawLine_route h, hexB_len, List.length_take]; omega
  · show ((x.drop 16).take (lineSz x)).length ≤ _
    rw [List.length_take, List.length_drop]; omega
theorem rawLine_rng (x : List UInt8) : (-9223372036854775808 ≤ (rawLine x).f_Kind ∧ (rawLine x).f_Kind < 9223372036854775808) ∧ (rawLine x).f_Route.length ≤ 9223372036854775807 ∧ (-9223372036854775808 ≤ (rawLine x).f_Topic ∧ (rawLine x).f_Topic < 9223372036854775808) ∧ (-9223372036854775808 ≤ (rawLine x).f_Due ∧ (rawLine x).f_Due < 9223372036854775808) := by
  have h0 := be_lt x 0; have h9 := be_lt x 9; have hs := rawLine_small x; refine ⟨?_, by omega, ?_, w4_i64 ..⟩
  · rw [rawLine_kind]; omega
  · show (-9223372036854775808 : Int) ≤ (be x 9 : Int) ∧ (be x 9 : Int) < 9223372036854775808
    omega
theorem zLine_cells (w : World) : kLine.ow w [] [.int .i64 0, .string ⟨#[]⟩, .int .i64 0, .int .i64 0, .slice none 0 0] zLine := kLine_zero w
theorem lo_18 {n : Nat} (h : n ≤ 1073741824) : w64 (w64 ((n : Int) - 16) - 2) = (n : Int) - 18 := by unfold w64; omega
theorem lo_18s {n : Nat} (h : n ≤ 1073741824) : w64 ((n : Int) - 18) = (n : Int) - 18 := by unfold w64; omega
theorem lo_16 {z : Nat} (h : z < 65536) : w64 (16 + (z : Int)) = ((16 + z : Nat) : Int) := by unfold w64; omega
theorem lo_162 {z : Nat} (h : z < 65536) : w64 (((16 + z : Nat) : Int) + 2) = ((18 + z : Nat) : Int) := by unfold w64; omega
theorem lo_k {k n m : Nat} (h : k ≤ 1073741824) (h2 : n ≤ 1000000) (e : m = k + n) : w64 ((k : Int) + (n : Int)) = (m : Int) := by unfold w64; omega
theorem lo_kl {k m : Nat} (n : Nat) (h : k ≤ 1073741824) (h2 : n ≤ 1000000) (e : m = k + n) {i : Int} (hi : i = (n : Int)) : w64 ((k : Int) + i) = (m : Int) := by subst hi; exact lo_k h h2 e
theorem lo_bk {b k : Nat} (hb : b ≤ 1073741824) (hk : k ≤ b) : w64 (w64 ((b : Int) - (k : Int)) - 18) = (b : Int) - k - 18 := by unfold w64; omega
def LineR (w : World) (b : List UInt8) (k : Nat) (r : Value) (w' : World) : Prop := ∃ cs fp, r = .tuple #[.agg cs.toArray, .int .i64 (lineOf b k).2.1, .bool (lineOf b k).2.2] ∧ Sep w.heap.size w w' [Ck.own kLine fp cs (lineOf b k).1]
theorem implLineOf_ok (w : World) (v : Value) (b : List UInt8) (k : Nat) (h : (bytes 5).rd w w.heap.size [v] b) (hk : k ≤ b.length) (hl : b.length ≤ 1073741824) :
    ACalls Tryz.prog 78 #[v, .int .i64 (k : Int)] w fun r w' => LineR w b k r w' := by
  have hv := h; obtain ⟨A, c, rfl, hc1, hc2, ha⟩ := sl_open h; have H := Sep.start w; refine body_of follows Tryz.func78 rfl rfl _ rfl (by kernel_rfl) (vs ?_); refine x_al H st90 fun g4 w1 H => ?_; refine ve (lo_18 hl) ?_; refine x_callw (in_ok w1 _ _ _) ?_
  by_cases hin : 0 ≤ (k : Int) ∧ (k : Int) ≤ (b.length : Int) - 18
  rotate_left
  · refine ve hin ?_
    refine x_build bl90 [.int .i64 0, .string ⟨#[]⟩, .int .i64 0, .int .i64 0, .slice none 0 0] ?_; refine vs ?_; have H := H.nothing (zLine_cells w1); refine x_sta H st90 (h1 := Kd.one _ (H.own (.head _))) fun w6 H => vs ?_; unfold LineR; rw [lineOf_out hin]; exact ⟨_, _, rfl, res_cell H st90, _, _, rfl, H.head⟩
  refine ve hin ?_; have hk18 : 18 ≤ (b.drop k).length := by rw [List.length_drop]; omega
  refine x_fromN sl22 rfl k hv rfl hk fun v7 hv7 => ?_; have hxl : (b.drop k).length ≤ 1073741824 := by rw [List.length_drop]; omega
  generalize hX : b.drop k = x at *; have hv7' := hv7; obtain ⟨A7, c7, rfl, _, _, ha7⟩ := sl_open hv7; refine vs ?_; have hN := lineSz_lt x
  refine cut_to (σ := Unit) (fun _ => [(1, .int .i64 (k : Int)), (4, .pointer (some ⟨g4, 0, none⟩)), (7, .slice A7 x.length c7), (8, .int .i64 (lineSz x : Int))])
    (fun _ w' => Sep w.heap.size w w' [Ck.box g4 [.int .i64 0, .string ⟨#[]⟩, .int .i64 0, .int .i64 0, .slice none 0 0] 90]) ?_ ?_
  · refine draw_of [(0, true), (1, true), (2, true), (3, true), (4, true), (5, true), (6, true), (7, true), (8, true), (9, true), (10, true)] w.heap.size [] fun w2 hh2 hb2 => vs ?_
    have H := H.go (hb2 _); refine q_elV pl_u8 sl22 14 (ha7.mono H.bel) (getD_at (z := 0) (by omega)) rfl rfl fun ad hb hc _ => vs ?_; refine qx_load sc5 hc hb (by simp) (vs ?_); refine q_elV pl_u8 sl22 15 (ha7.mono H.bel) (getD_at (z := 0) (by omega)) rfl rfl fun ad hb hc _ => vs ?_; refine qx_load sc5 hc hb (by simp) (vs ?_); exact ⟨(), i64_eq (shl_or8 (x.getD 14 0) (x.getD 15 0)), H⟩
  rintro _ s2 w2 H; refine ve (lo_18 hxl) ?_
  by_cases hsz : (x.length : Int) - 18 < (lineSz x : Int)
  · refine ve hsz ?_
    refine x_build bl90 [.int .i64 0, .string ⟨#[]⟩, .int .i64 0, .int .i64 0, .slice none 0 0] ?_; refine vs ?_; have H := H.nothing (zLine_cells w2); refine x_sta H st90 (h1 := Kd.one _ (H.own (.head _))) fun w6 H => vs ?_; unfold LineR; rw [lineOf_none (by rw [hX]; exact lineAt_no (by omega))]; exact ⟨_, _, rfl, res_cell H st90, _, _, rfl, H.head⟩
  refine ve hsz ?_; have hz := be_lt x 0; have hz9 := be_lt x 9; have hr4 := w4_range (x.getD 10 0) (x.getD 11 0) (x.getD 12 0) (x.getD 13 0); have hbl : ((x.drop 16).take (lineSz x)).length = lineSz x := by rw [List.length_take, List.length_drop]; omega
  refine cut_to (σ := Nat × Value × List Nat) (fun y => [(1, .int .i64 (k : Int)), (4, .pointer (some ⟨g4, 0, none⟩)), (7, .slice A7 x.length c7), (8, .int .i64 (lineSz x : Int)), (9, .pointer (some ⟨y.1, 0, none⟩))])
    (fun y w' => Sep w.heap.size w w' [Ck.box y.1 [.int .i64 (be x 0 : Int), .string ⟨(hexB ((x.drop 1).take 8)).toArray⟩, .int .i64 (be x 9 : Int), .int .i64 (w4 (x.getD 10 0) (x.getD 11 0) (x.getD 12 0) (x.getD 13 0)), y.2.1] 90, Ck.own (bytes 5) y.2.2 [y.2.1] ((x.drop 16).take (lineSz x)), Ck.box g4 [.int .i64 0, .string ⟨#[]⟩, .int .i64 0, .int .i64 0, .slice none 0 0] 90]) ?_ ?_
  · have J := Sep.start w2
    refine fork_draw w2.heap.size [] fun w3 hh hb3 => ?_; have J := J.go (hb3 _); have J3 := J; have HJ := H.join J; refine rest_pre [(0, true), (1, true), (2, true), (3, true), (4, true), (5, true), (7, true), (8, true), (9, true), (10, true), (11, true), (12, true), (14, true), (15, true), (16, true), (17, true)] 6 ?_; refine vs ?_; refine q_elV pl_u8 sl22 0 (ha7.mono HJ.bel) (getD_at (z := 0) (by omega)) rfl rfl fun ad hb hc _ => vs ?_; refine qx_load sc5 hc (Nat.lt_of_lt_of_le hb H.ns) (by simp) (vs ?_); refine q_subN sl22 rfl 1 9 hv7' rfl rfl (by omega) (by omega) fun v6 hv6 => vs ?_; refine q_elV pl_u8 sl22 9 (ha7.mono HJ.bel) (getD_at (z := 0) (by omega)) rfl rfl fun ad hb hc _ => vs ?_; refine qx_load sc5 hc (Nat.lt_of_lt_of_le hb H.ns) (by simp) (vs ?_); refine q_subN sl22 rfl 10 14 hv7' rfl rfl (by omega) (by omega) fun v12 hv12 => ve (lo_16 hN) ?_; refine q_subN sl22 rfl 16 (16 + lineSz x) hv7' rfl rfl (by omega) (by omega) fun v17 hv17 => vs ?_; rw [show 9 - 1 = 8 from rfl] at hv6; rw [show 14 - 10 = 4 from rfl] at hv12; rw [show 16 + lineSz x - 16 = lineSz x by omega] at hv17; refine rest_fork 6 20 5 ?_ ?_
    · refine vs ?_
      refine x_callb J (implHex_ok _ v6 _ (J.rd (H.rd hv6)) (by rw [List.length_take]; omega)) fun wa J => vs ?_; refine ⟨kept_base J3 J, ?_⟩; refine rest_fork 13 20 4 ?_ ?_
      · refine vs ?_
        refine x_callb J (wordOf_ok _ v12 _ (J.rd (H.rd hv12)) (by rw [List.length_take, List.length_drop]; omega)) fun wb J => vs ?_; refine ⟨kept_base J3 J, ?_⟩; rw [getD_drop _ _ _ _ (by omega), getD_drop _ _ _ _ (by omega), getD_drop _ _ _ _ (by omega), getD_drop _ _ _ _ (by omega)]; refine rest_fork 18 20 3 ?_ ?_
        · refine vs ?_
          refine x_callf J (cloneBy_ok _ v17 _ (J.rd (H.rd hv17)) (by omega)) fun rc fc wc J => vs ?_; refine ⟨kept_base J3 J, ?_⟩; refine rest_end [(19, true), (20, false), (21, false)] ?_; refine vs ?_; obtain ⟨Ac, cc, rfl, _⟩ := sl_open (J.om (fp := fc) (x := (x.drop 16).take (lineSz x))); refine q_bld bl90 [.int .i64 (be x 0 : Int), .string ⟨(hexB ((x.drop 1).take 8)).toArray⟩, .int .i64 (be x 9 : Int), .int .i64 (w4 (x.getD 10 0) (x.getD 11 0) (x.getD 12 0) (x.getD 13 0)), .slice Ac ((x.drop 16).take (lineSz x)).length cc] ?_; refine vs ?_; refine x_al J st90 fun gd wd J => vs ?_; refine ⟨kept_base J3 J, ?_⟩; refine x_sta J st90 (h1 := by simp [Value.oneCell']) fun we J => vs ?_; refine ⟨kept_base J3 J, ?_⟩; have H := H.join J; simp only [List.cons_append, List.nil_append] at H; exact ⟨(gd, _, _), vs trivial, H.three (by repeat (first | exact Out.here | apply Out.there)) (by repeat (first | exact Out.here | apply Out.there)) (by repeat (first | exact Out.here | apply Out.there))⟩
        · refine vs ?_
          refine x_al J st90 fun gd wd J => vs ?_; refine ⟨kept_base J3 J, ?_⟩; refine rest_end [(18, false), (19, true), (21, false)] ?_; refine vs ?_; refine x_callf J (cloneBy_ok _ v17 _ (J.rd (H.rd hv17)) (by omega)) fun rc fc wc J => vs ?_; refine ⟨kept_base J3 J, ?_⟩; obtain ⟨Ac, cc, rfl, _⟩ := sl_open (J.om (fp := fc) (x := (x.drop 16).take (lineSz x))); refine q_bld bl90 [.int .i64 (be x 0 : Int), .string ⟨(hexB ((x.drop 1).take 8)).toArray⟩, .int .i64 (be x 9 : Int), .int .i64 (w4 (x.getD 10 0) (x.getD 11 0) (x.getD 12 0) (x.getD 13 0)), .slice Ac ((x.drop 16).take (lineSz x)).length cc] ?_; refine vs ?_; refine x_sta J st90 (h1 := by simp [Value.oneCell']) fun we J => vs ?_; refine ⟨kept_base J3 J, ?_⟩; have H := H.join J; simp only [List.cons_append, List.nil_append] at H; exact ⟨(gd, _, _), vs trivial, H.three (by repeat (first | exact Out.here | apply Out.there)) (by repeat (first | exact Out.here | apply Out.there)) (by repeat (first | exact Out.here | apply Out.there))⟩
      · refine vs ?_
        refine x_al J st90 fun gd wd J => vs ?_; refine ⟨kept_base J3 J, ?_⟩; refine rest_end [(13, false), (18, false), (19, true), (21, false)] ?_; refine vs ?_; refine x_callb J (wordOf_ok _ v12 _ (J.rd (H.rd hv12)) (by rw [List.length_take, List.length_drop]; omega)) fun wb J => vs ?_; refine ⟨kept_base J3 J, ?_⟩; rw [getD_drop _ _ _ _ (by omega), getD_drop _ _ _ _ (by omega), getD_drop _ _ _ _ (by omega), getD_drop _ _ _ _ (by omega)]; refine x_callf J (cloneBy_ok _ v17 _ (J.rd (H.rd hv17)) (by omega)) fun rc fc wc J => vs ?_; refine ⟨kept_base J3 J, ?_⟩; obtain ⟨Ac, cc, rfl, _⟩ := sl_open (J.om (fp := fc) (x := (x.drop 16).take (lineSz x))); refine q_bld bl90 [.int .i64 (be x 0 : Int), .string ⟨(hexB ((x.drop 1).take 8)).toArray⟩, .int .i64 (be x 9 : Int), .int .i64 (w4 (x.getD 10 0) (x.getD 11 0) (x.getD 12 0) (x.getD 13 0)), .slice Ac ((x.drop 16).take (lineSz x)).length cc] ?_; refine vs ?_; refine x_sta J st90 (h1 := by simp [Value.oneCell']) fun we J => vs ?_; refine ⟨kept_base J3 J, ?_⟩; have H := H.join J; simp only [List.cons_append, List.nil_append] at H; exact ⟨(gd, _, _), vs trivial, H.three (by repeat (first | exact Out.here | apply Out.there)) (by repeat (first | exact Out.here | apply Out.there)) (by repeat (first | exact Out.here | apply Out.there))⟩
    · refine vs ?_
      refine x_al J st90 fun gd wd J => vs ?_; refine ⟨kept_base J3 J, ?_⟩; refine rest_end [(6, false), (13, false), (18, false), (19, true), (21, false)] ?_; refine vs ?_; refine x_callb J (implHex_ok _ v6 _ (J.rd (H.rd hv6)) (by rw [List.length_take]; omega)) fun wa J => vs ?_; refine ⟨kept_base J3 J, ?_⟩; refine x_callb J (wordOf_ok _ v12 _ (J.rd (H.rd hv12)) (by rw [List.length_take, List.length_drop]; omega)) fun wb J => vs ?_; refine ⟨kept_base J3 J, ?_⟩; rw [getD_drop _ _ _ _ (by omega), getD_drop _ _ _ _ (by omega), getD_drop _ _ _ _ (by omega), getD_drop _ _ _ _ (by omega)]; refine x_callf J (cloneBy_ok _ v17 _ (J.rd (H.rd hv17)) (by omega)) fun rc fc wc J => vs ?_; refine ⟨kept_base J3 J, ?_⟩; obtain ⟨Ac, cc, rfl, _⟩ := sl_open (J.om (fp := fc) (x := (x.drop 16).take (lineSz x))); refine q_bld bl90 [.int .i64 (be x 0 : Int), .string ⟨(hexB ((x.drop 1).take 8)).toArray⟩, .int .i64 (be x 9 : Int), .int .i64 (w4 (x.getD 10 0) (x.getD 11 0) (x.getD 12 0) (x.getD 13 0)), .slice Ac ((x.drop 16).take (lineSz x)).length cc] ?_; refine vs ?_; refine x_sta J st90 (h1 := by simp [Value.oneCell']) fun we J => vs ?_; refine ⟨kept_base J3 J, ?_⟩; have H := H.join J; simp only [List.cons_append, List.nil_append] at H; exact ⟨(gd, _, _), vs trivial, H.three (by repeat (first | exact Out.here | apply Out.there)) (by repeat (first | exact Out.here | apply Out.there)) (by repeat (first | exact Out.here | apply Out.there))⟩
  rintro ⟨g9, u9, f9⟩ s w5 H; dsimp only at H; refine vs ?_; refine x_ld H sc3 ?_
  by_cases hK : be x 0 = 3
  · refine ve (show ((be x 0 : Int) = 3) = True from eq_true (by omega)) ?_
    refine x_st H sc9 fun w6 H => ?_; have er := rawLine_route3 hK; have H := H.front (c := Ck.own (bytes 5) f9 [u9] ((x.drop 16).take (lineSz x))); obtain ⟨fl, H⟩ := ownLine (rawLine x) H (rawLine_rng x).1 (rawLine_rng x).2.1 (rawLine_rng x).2.2.1 (rawLine_rng x).2.2.2; rw [er] at H; have hsml := rawLine_small x; have ho := H.own (.head _); have hone := Kd.one _ ho; have J := Sep.start w6; refine ve (And.intro (lo_16 hN) (lo_162 hN)) ?_; refine draw_of [(0, true), (2, true), (3, true), (4, true), (1, false), (5, false), (6, true)] w6.heap.size [] fun w7 hh hb7 => vs ?_; have J := J.go (hb7 _); have J3 := J; refine q_ldaB H J3 st90 ?_; refine vs ?_; refine q_toN sl22 rfl (18 + lineSz x) hv7' rfl (by omega) fun vend hve => vs ?_; refine x_callf J (implLineBytes_ok w7 _ (rawLine x) (J.rd ho) (by omega) (by omega)) fun rb fb w8 J => vs ?_; refine ⟨kept_base J3 J, ?_⟩; refine x_callw (implSame_ok w8 _ _ _ _ (J.own (.head _)) (J.rd (H.rd hve))) ?_; refine ⟨kept_base J3 J, ?_⟩; have H := H.join J; simp only [List.cons_append, List.nil_append] at H
    by_cases hsame : lineBytes (rawLine x) = x.take (18 + lineSz x)
    · refine ve (show (lineBytes (rawLine x) = x.take (18 + lineSz x)) = True from eq_true hsame) ?_
      refine x_lda H st90 ?_; refine ve (And.intro (lo_16 hN) (And.intro (lo_162 hN) (lo_k (k := k) (n := 18 + lineSz x) (by omega) (by omega) rfl))) ?_; refine x_sta H st90 (vs := [.int .i64 (be x 0 : Int), .string _, .int .i64 (be x 9 : Int), .int .i64 (w4 (x.getD 10 0) (x.getD 11 0) (x.getD 12 0) (x.getD 13 0)), u9]) (h1 := hone) fun w10 H => vs ?_; unfold LineR; rw [lineOf_some hk (by rw [hX]; exact lineAt_yes (by omega) (by omega) hsame)]; exact ⟨_, _, rfl, res_cell H st90, _, _, rfl, H.only⟩
    · refine ve hsame ?_
      refine x_build bl90 [.int .i64 0, .string ⟨#[]⟩, .int .i64 0, .int .i64 0, .slice none 0 0] ?_; refine vs ?_; have H := H.nothing (zLine_cells w8); refine x_sta H st90 (vs := [.int .i64 0, .string ⟨#[]⟩, .int .i64 0, .int .i64 0, .slice none 0 0]) (h1 := Kd.one _ (H.own (.head _))) fun w10 H => vs ?_; unfold LineR; rw [lineOf_none (by rw [hX]; exact lineAt_no fun hh => hsame hh.2.2)]; exact ⟨_, _, rfl, res_cell H st90, _, _, rfl, H.head⟩
  · refine ve (show ¬ (be x 0 : Int) = 3 by omega) ?_
    have er := rawLine_route hK; have H := H.front (c := Ck.own (bytes 5) f9 [u9] ((x.drop 16).take (lineSz x))); obtain ⟨fl, H⟩ := ownLine (rawLine x) H (rawLine_rng x).1 (rawLine_rng x).2.1 (rawLine_rng x).2.2.1 (rawLine_rng x).2.2.2; rw [er] at H; have hsml := rawLine_small x; have ho := H.own (.head _); have hone := Kd.one _ ho; have J := Sep.start w5; refine ve (And.intro (lo_16 hN) (lo_162 hN)) ?_; refine draw_of [(0, true), (2, true), (3, true), (4, true), (1, false), (5, false), (6, true)] w5.heap.size [] fun w7 hh hb7 => vs ?_; have J := J.go (hb7 _); have J3 := J; refine q_ldaB H J3 st90 ?_; refine vs ?_; refine q_toN sl22 rfl (18 + lineSz x) hv7' rfl (by omega) fun vend hve => vs ?_; refine x_callf J (implLineBytes_ok w7 _ (rawLine x) (J.rd ho) (by omega) (by omega)) fun rb fb w8 J => vs ?_; refine ⟨kept_base J3 J, ?_⟩; refine x_callw (implSame_ok w8 _ _ _ _ (J.own (.head _)) (J.rd (H.rd hve))) ?_; refine ⟨kept_base J3 J, ?_⟩; have H := H.join J; simp only [List.cons_append, List.nil_append] at H
    by_cases hsame : lineBytes (rawLine x) = x.take (18 + lineSz x)
    · refine ve (show (lineBytes (rawLine x) = x.take (18 + lineSz x)) = True from eq_true hsame) ?_
      refine x_lda H st90 ?_; refine ve (And.intro (lo_16 hN) (And.intro (lo_162 hN) (lo_k (k := k) (n := 18 + lineSz x) (by omega) (by omega) rfl))) ?_; refine x_sta H st90 (vs := [.int .i64 (be x 0 : Int), .string _, .int .i64 (be x 9 : Int), .int .i64 (w4 (x.getD 10 0) (x.getD 11 0) (x.getD 12 0) (x.getD 13 0)), u9]) (h1 := hone) fun w10 H => vs ?_; unfold LineR; rw [lineOf_some hk (by rw [hX]; exact lineAt_yes (by omega) (by omega) hsame)]; exact ⟨_, _, rfl, res_cell H st90, _, _, rfl, H.only⟩
    · refine ve hsame ?_
      refine x_build bl90 [.int .i64 0, .string ⟨#[]⟩, .int .i64 0, .int .i64 0, .slice none 0 0] ?_; refine vs ?_; have H := H.nothing (zLine_cells w8); refine x_sta H st90 (vs := [.int .i64 0, .string ⟨#[]⟩, .int .i64 0, .int .i64 0, .slice none 0 0]) (h1 := Kd.one _ (H.own (.head _))) fun w10 H => vs ?_; unfold LineR; rw [lineOf_none (by rw [hX]; exact lineAt_no fun hh => hsame hh.2.2)]; exact ⟨_, _, rfl, res_cell H st90, _, _, rfl, H.head⟩
theorem specLineOf_ok (w : World) (v : Value) (b : List UInt8) (k : Nat) (h : (bytes 5).rd w w.heap.size [v] b) (hk : k ≤ b.length) (hl : b.length ≤ 1073741824) :
    ACalls Tryz.prog 101 #[v, .int .i64 (k : Int)] w fun r w' => LineR w b k r w' := by
  have hv := h; obtain ⟨A, c, rfl, hc1, hc2, ha⟩ := sl_open h; have H := Sep.start w; refine body_of follows Tryz.func101 rfl rfl _ rfl (by kernel_rfl) (vs ?_); refine x_al H st90 fun g4 w1 H => ?_; refine ve (And.intro (lo_18s hl) (show ¬ (k : Int) < 0 by omega)) ?_
  by_cases hin : (b.length : Int) - 18 < (k : Int)
  · refine ve (And.intro hin (show ¬ (k : Int) < 0 by omega)) ?_
    refine x_build bl90 [.int .i64 0, .string ⟨#[]⟩, .int .i64 0, .int .i64 0, .slice none 0 0] ?_; refine vs ?_; have H := H.nothing (zLine_cells w1); refine x_sta H st90 (h1 := Kd.one _ (H.own (.head _))) fun w6 H => vs ?_; unfold LineR; rw [lineOf_out (by omega)]; exact ⟨_, _, rfl, res_cell H st90, _, _, rfl, H.head⟩
  refine ve (And.intro hin (show ¬ (k : Int) < 0 by omega)) ?_; have hkl : k ≤ 1073741824 := by omega
  have eN : 256 * (b.getD (k + 14) 0).toNat + (b.getD (k + 15) 0).toNat = lineSz (b.drop k) := by unfold lineSz be; rw [getD_drop0, getD_drop0]
  have hxl : (b.drop k).length = b.length - k := List.length_drop; have d0 : ((b.getD k 0).toNat : Int) = (be (b.drop k) 0 : Int) := by unfold be; rw [getD_drop0]; rfl
  have d9 : ((b.getD (k + 9) 0).toNat : Int) = (be (b.drop k) 9 : Int) := by unfold be; rw [getD_drop0]
  have d4 : wordsN ((b.drop (k + 10)).take 4) 1 = [w4 ((b.drop k).getD 10 0) ((b.drop k).getD 11 0) ((b.drop k).getD 12 0) ((b.drop k).getD 13 0)] := by
    show [w4 _ _ _ _] = _
    simp only [List.getD_eq_getElem?_getD, List.getElem?_take, List.getElem?_drop]
    rfl
  have dx1 : (b.drop (k + 1)).take 8 = ((b.drop k).drop 1).take 8 := by rw [List.drop_drop]
  have dx16 : (b.drop (k + 16)).take (lineSz (b.drop k)) = ((b.drop k).drop 16).take (lineSz (b.drop k)) := by rw [List.drop_drop]
  have dxk : ∀ n, (b.drop k).take n = (b.drop k).take n := fun _ => rfl; generalize hX : b.drop k = x at *; have hN := lineSz_lt x
  refine cut_to (σ := Unit) (fun _ => [(0, .slice A b.length c), (1, .int .i64 (k : Int)), (4, .pointer (some ⟨g4, 0, none⟩)), (7, .int .i64 (lineSz x : Int))])
    (fun _ w' => Sep w.heap.size w w' [Ck.box g4 [.int .i64 0, .string ⟨#[]⟩, .int .i64 0, .int .i64 0, .slice none 0 0] 90]) ?_ ?_
  · refine draw_of [(0, true), (1, true), (2, true), (3, true), (4, true), (5, true), (6, true), (7, true), (8, true), (9, true), (10, true), (11, true), (12, true), (13, true), (14, true)] w.heap.size [] fun w2 hh2 hb2 => ve (lo_kl (i := 14) 14 hkl (by decide) rfl rfl) ?_
    have H := H.go (hb2 _); refine q_elV pl_u8 sl22 (k + 14) (ha.mono H.bel) (getD_at (z := 0) (by omega)) rfl rfl fun ad hb hc _ => vs ?_; refine qx_load sc5 hc hb (by simp) (ve (lo_kl (i := 15) 15 hkl (by decide) rfl rfl) ?_); refine q_elV pl_u8 sl22 (k + 15) (ha.mono H.bel) (getD_at (z := 0) (by omega)) rfl rfl fun ad hb hc _ => vs ?_; refine qx_load sc5 hc hb (by simp) (vs ?_); have := mul_add8 (b.getD (k + 14) 0) (b.getD (k + 15) 0); rw [eN] at this; exact ⟨(), i64_eq this, H⟩
  clear eN
  rintro _ s2 w2 H; refine ve (lo_bk hl hk) ?_
  by_cases hsz : (b.length : Int) - k - 18 < (lineSz x : Int)
  · refine ve hsz ?_
    refine x_build bl90 [.int .i64 0, .string ⟨#[]⟩, .int .i64 0, .int .i64 0, .slice none 0 0] ?_; refine vs ?_; have H := H.nothing (zLine_cells w2); refine x_sta H st90 (h1 := Kd.one _ (H.own (.head _))) fun w6 H => vs ?_; unfold LineR; rw [lineOf_none (by rw [hX]; exact lineAt_no (by omega))]; exact ⟨_, _, rfl, res_cell H st90, _, _, rfl, H.head⟩
  refine ve (And.intro hsz (And.intro (lo_kl (i := 10) 10 hkl (by decide) rfl rfl) (lo_kl (i := 14) 14 hkl (by decide) rfl rfl))) ?_; have hz := be_lt x 0; have hz9 := be_lt x 9; have hr4 := w4_range (x.getD 10 0) (x.getD 11 0) (x.getD 12 0) (x.getD 13 0); have hbl : ((x.drop 16).take (lineSz x)).length = lineSz x := by rw [List.length_take, List.length_drop]; omega
  refine x_subN sl22 rfl (k + 10) (k + 14) hv rfl rfl (by omega) (by omega) fun v8 hv8 => vs ?_; rw [show k + 14 - (k + 10) = 4 by omega] at hv8; refine x_callf H (specWords_ok w2 v8 _ 1 (H.rd hv8) (by rw [List.length_take, List.length_drop]; omega) (by decide)) fun r8 f8 w3 H => vs ?_; rw [d4] at H; have hr8 := H.own (.head _); obtain ⟨A8, c8, rfl, _, _, ha8⟩ := sl_open hr8
  refine cut_to (σ := Nat × Value × List Nat) (fun y => [(0, .slice A b.length c), (1, .int .i64 (k : Int)), (4, .pointer (some ⟨g4, 0, none⟩)), (7, .int .i64 (lineSz x : Int)), (9, .pointer (some ⟨y.1, 0, none⟩))])
    (fun y w' => Sep w.heap.size w w' [Ck.box y.1 [.int .i64 (be x 0 : Int), .string ⟨(hexB ((x.drop 1).take 8)).toArray⟩, .int .i64 (be x 9 : Int), .int .i64 (w4 (x.getD 10 0) (x.getD 11 0) (x.getD 12 0) (x.getD 13 0)), y.2.1] 90, Ck.own (bytes 5) y.2.2 [y.2.1] ((x.drop 16).take (lineSz x)), Ck.box g4 [.int .i64 0, .string ⟨#[]⟩, .int .i64 0, .int .i64 0, .slice none 0 0] 90]) ?_ ?_
  · have J := Sep.start w3
    refine fork_draw w3.heap.size [] fun wq hh hb3 => ?_; have J := J.go (hb3 _); have J3 := J; have HJ := H.join J; refine rest_pre [(0, true), (1, true), (2, true), (3, true), (4, true), (5, true), (6, true), (7, true), (8, true), (9, true), (10, true), (12, true), (13, true), (14, true), (15, true), (16, true), (17, true), (18, true), (19, true), (20, true), (22, true), (23, true), (24, true), (25, true), (26, true), (27, true), (28, true), (29, true)] 6 ?_ (hs := by as_aux_lemma => kernel_rfl) (hp := by as_aux_lemma => kernel_rfl); refine vs ?_; refine q_elV pl_u8 sl22 k (ha.mono HJ.bel) (getD_at (z := 0) (by omega)) rfl rfl fun ad hb hc _ => vs ?_; refine qx_load sc5 hc (Nat.lt_of_lt_of_le hb H.ns) (by simp) (ve (And.intro (And.intro d0 (w64_be x 0)) (And.intro (lo_kl (i := 1) 1 hkl (by decide) rfl rfl) (lo_kl (i := 9) 9 hkl (by decide) rfl rfl))) ?_); refine q_subN sl22 rfl (k + 1) (k + 9) hv rfl rfl (by omega) (by omega) fun v6 hv6 => ve (lo_kl (i := 9) 9 hkl (by decide) rfl rfl) ?_; refine q_elV pl_u8 sl22 (k + 9) (ha.mono HJ.bel) (getD_at (z := 0) (by omega)) rfl rfl fun ad hb hc _ => vs ?_; refine qx_load sc5 hc (Nat.lt_of_lt_of_le hb H.ns) (by simp) (ve (And.intro d9 (w64_be x 9)) ?_); refine q_elV pl_i64 sl60 0 (ha8.mono J.bel) (getD_at (z := 0) (by simp)) rfl rfl fun ad hb hc _ => vs ?_; refine qx_load sc3 hc hb (by simp) (ve (And.intro (And.intro (getD_one0 (w4 (x.getD 10 0) (x.getD 11 0) (x.getD 12 0) (x.getD 13 0))) (lo_kl (i := 16) 16 hkl (by decide) rfl rfl)) (lo_k (k := k + 16) (n := lineSz x) (by omega) (by omega) rfl)) ?_); refine q_subN sl22 rfl (k + 16) (k + 16 + lineSz x) hv rfl rfl (by omega) (by omega) fun v17 hv17 => vs ?_; rw [show k + 9 - (k + 1) = 8 by omega, dx1] at hv6
    rw [show k + 16 + lineSz x - (k + 16) = lineSz x by omega, dx16] at hv17; refine rest_fork3 11 21 32 5 ?_ ?_ ?_ (hr := by as_aux_lemma => kernel_rfl)
    · refine vs ?_
      refine x_callb J (specHex_ok _ v6 _ (J.rd (H.rd hv6)) (by rw [List.length_take]; omega)) fun wa J => vs ?_; refine ⟨kept_base J3 J, ?_⟩; refine rest_fork 21 32 4 ?_ ?_ (hr := by as_aux_lemma => kernel_rfl)
      · refine vs ?_
        refine x_emp J pl_u8 sl22 fun gc wb J => vs ?_; refine ⟨kept_base J3 J, ?_⟩; refine rest_fork 30 32 3 ?_ ?_ (hr := by as_aux_lemma => kernel_rfl)
        · refine vs ?_
          refine x_app J pl_u8 sl22 (J.rd (H.rd hv17)) ?_ ?_ fun fc rc wc J => vs ?_
          · simp only [List.length_nil]; omega
          · simp only [List.length_nil]; omega
          refine ⟨kept_base J3 J, ?_⟩; rw [List.nil_append] at J; refine rest_end [(31, true), (32, false), (33, false)] ?_ (hs := by as_aux_lemma => kernel_rfl) (hp := by as_aux_lemma => kernel_rfl); refine vs ?_; obtain ⟨Ac, cc, rfl, _⟩ := sl_open (J.om (fp := fc) (x := (x.drop 16).take (lineSz x))); refine q_bld bl90 [.int .i64 (be x 0 : Int), .string ⟨(hexB ((x.drop 1).take 8)).toArray⟩, .int .i64 (be x 9 : Int), .int .i64 (w4 (x.getD 10 0) (x.getD 11 0) (x.getD 12 0) (x.getD 13 0)), .slice Ac ((x.drop 16).take (lineSz x)).length cc] ?_; refine vs ?_; refine x_al J st90 fun gd wd J => vs ?_; refine ⟨kept_base J3 J, ?_⟩; refine x_sta J st90 (h1 := by simp [Value.oneCell']) fun we J => vs ?_; refine ⟨kept_base J3 J, ?_⟩; have H := H.join J; simp only [List.cons_append, List.nil_append] at H; exact ⟨(gd, _, _), vs trivial, H.three (by repeat (first | exact Out.here | apply Out.there)) (by repeat (first | exact Out.here | apply Out.there)) (by repeat (first | exact Out.here | apply Out.there))⟩
        · refine vs ?_
          refine x_al J st90 fun gd wd J => vs ?_; refine ⟨kept_base J3 J, ?_⟩; refine rest_end [(30, false), (31, true), (33, false)] ?_ (hs := by as_aux_lemma => kernel_rfl) (hp := by as_aux_lemma => kernel_rfl); refine vs ?_; refine x_app J pl_u8 sl22 (J.rd (H.rd hv17)) ?_ ?_ fun fc rc wc J => vs ?_
          · simp only [List.length_nil]; omega
          · simp only [List.length_nil]; omega
          refine ⟨kept_base J3 J, ?_⟩; rw [List.nil_append] at J; obtain ⟨Ac, cc, rfl, _⟩ := sl_open (J.om (fp := fc) (x := (x.drop 16).take (lineSz x))); refine q_bld bl90 [.int .i64 (be x 0 : Int), .string ⟨(hexB ((x.drop 1).take 8)).toArray⟩, .int .i64 (be x 9 : Int), .int .i64 (w4 (x.getD 10 0) (x.getD 11 0) (x.getD 12 0) (x.getD 13 0)), .slice Ac ((x.drop 16).take (lineSz x)).length cc] ?_; refine vs ?_; refine x_sta J st90 (h1 := by simp [Value.oneCell']) fun we J => vs ?_; refine ⟨kept_base J3 J, ?_⟩; have H := H.join J; simp only [List.cons_append, List.nil_append] at H; exact ⟨(gd, _, _), vs trivial, H.three (by repeat (first | exact Out.here | apply Out.there)) (by repeat (first | exact Out.here | apply Out.there)) (by repeat (first | exact Out.here | apply Out.there))⟩
      · refine vs ?_
        refine x_al J st90 fun gd wd J => vs ?_; refine ⟨kept_base J3 J, ?_⟩; refine rest_end [(21, false), (30, false), (31, true), (33, false)] ?_ (hs := by as_aux_lemma => kernel_rfl) (hp := by as_aux_lemma => kernel_rfl); refine vs ?_; refine x_emp J pl_u8 sl22 fun gc wb J => vs ?_; refine ⟨kept_base J3 J, ?_⟩; refine x_app J pl_u8 sl22 (J.rd (H.rd hv17)) ?_ ?_ fun fc rc wc J => vs ?_
        · simp only [List.length_nil]; omega
        · simp only [List.length_nil]; omega
        refine ⟨kept_base J3 J, ?_⟩; rw [List.nil_append] at J; obtain ⟨Ac, cc, rfl, _⟩ := sl_open (J.om (fp := fc) (x := (x.drop 16).take (lineSz x))); refine q_bld bl90 [.int .i64 (be x 0 : Int), .string ⟨(hexB ((x.drop 1).take 8)).toArray⟩, .int .i64 (be x 9 : Int), .int .i64 (w4 (x.getD 10 0) (x.getD 11 0) (x.getD 12 0) (x.getD 13 0)), .slice Ac ((x.drop 16).take (lineSz x)).length cc] ?_; refine vs ?_; refine x_sta J st90 (h1 := by simp [Value.oneCell']) fun we J => vs ?_; refine ⟨kept_base J3 J, ?_⟩; have H := H.join J; simp only [List.cons_append, List.nil_append] at H; exact ⟨(gd, _, _), vs trivial, H.three (by repeat (first | exact Out.here | apply Out.there)) (by repeat (first | exact Out.here | apply Out.there)) (by repeat (first | exact Out.here | apply Out.there))⟩
    · refine vs ?_
      refine x_emp J pl_u8 sl22 fun gc wb J => vs ?_; refine ⟨kept_base J3 J, ?_⟩; refine rest_fork 11 32 4 ?_ ?_ (hr := by as_aux_lemma => kernel_rfl)
      · refine vs ?_
        refine x_callb J (specHex_ok _ v6 _ (J.rd (H.rd hv6)) (by rw [List.length_take]; omega)) fun wa J => vs ?_; refine ⟨kept_base J3 J, ?_⟩; refine rest_fork 30 32 3 ?_ ?_ (hr := by as_aux_lemma => kernel_rfl)
        · refine vs ?_
          refine x_app J pl_u8 sl22 (J.rd (H.rd hv17)) ?_ ?_ fun fc rc wc J => vs ?_
          · simp only [List.length_nil]; omega
          · simp only [List.length_nil]; omega
          refine ⟨kept_base J3 J, ?_⟩; rw [List.nil_append] at J; refine rest_end [(31, true), (32, false), (33, false)] ?_ (hs := by as_aux_lemma => kernel_rfl) (hp := by as_aux_lemma => kernel_rfl); refine vs ?_; obtain ⟨Ac, cc, rfl, _⟩ := sl_open (J.om (fp := fc) (x := (x.drop 16).take (lineSz x))); refine q_bld bl90 [.int .i64 (be x 0 : Int), .string ⟨(hexB ((x.drop 1).take 8)).toArray⟩, .int .i64 (be x 9 : Int), .int .i64 (w4 (x.getD 10 0) (x.getD 11 0) (x.getD 12 0) (x.getD 13 0)), .slice Ac ((x.drop 16).take (lineSz x)).length cc] ?_; refine vs ?_; refine x_al J st90 fun gd wd J => vs ?_; refine ⟨kept_base J3 J, ?_⟩; refine x_sta J st90 (h1 := by simp [Value.oneCell']) fun we J => vs ?_; refine ⟨kept_base J3 J, ?_⟩; have H := H.join J; simp only [List.cons_append, List.nil_append] at H; exact ⟨(gd, _, _), vs trivial, H.three (by repeat (first | exact Out.here | apply Out.there)) (by repeat (first | exact Out.here | apply Out.there)) (by repeat (first | exact Out.here | apply Out.there))⟩
        · refine vs ?_
          refine x_al J st90 fun gd wd J => vs ?_; refine ⟨kept_base J3 J, ?_⟩; refine rest_end [(30, false), (31, true), (33, false)] ?_ (hs := by as_aux_lemma => kernel_rfl) (hp := by as_aux_lemma => kernel_rfl); refine vs ?_; refine x_app J pl_u8 sl22 (J.rd (H.rd hv17)) ?_ ?_ fun fc rc wc J => vs ?_
          · simp only [List.length_nil]; omega
          · simp only [List.length_nil]; omega
          refine ⟨kept_base J3 J, ?_⟩; rw [List.nil_append] at J; obtain ⟨Ac, cc, rfl, _⟩ := sl_open (J.om (fp := fc) (x := (x.drop 16).take (lineSz x))); refine q_bld bl90 [.int .i64 (be x 0 : Int), .string ⟨(hexB ((x.drop 1).take 8)).toArray⟩, .int .i64 (be x 9 : Int), .int .i64 (w4 (x.getD 10 0) (x.getD 11 0) (x.getD 12 0) (x.getD 13 0)), .slice Ac ((x.drop 16).take (lineSz x)).length cc] ?_; refine vs ?_; refine x_sta J st90 (h1 := by simp [Value.oneCell']) fun we J => vs ?_; refine ⟨kept_base J3 J, ?_⟩; have H := H.join J; simp only [List.cons_append, List.nil_append] at H; exact ⟨(gd, _, _), vs trivial, H.three (by repeat (first | exact Out.here | apply Out.there)) (by repeat (first | exact Out.here | apply Out.there)) (by repeat (first | exact Out.here | apply Out.there))⟩
      · refine vs ?_
        refine x_al J st90 fun gd wd J => vs ?_; refine ⟨kept_base J3 J, ?_⟩; refine rest_end [(11, false), (30, false), (31, true), (33, false)] ?_ (hs := by as_aux_lemma => kernel_rfl) (hp := by as_aux_lemma => kernel_rfl); refine vs ?_; refine x_callb J (specHex_ok _ v6 _ (J.rd (H.rd hv6)) (by rw [List.length_take]; omega)) fun wa J => vs ?_; refine ⟨kept_base J3 J, ?_⟩; refine x_app J pl_u8 sl22 (J.rd (H.rd hv17)) ?_ ?_ fun fc rc wc J => vs ?_
        · simp only [List.length_nil]; omega
        · simp only [List.length_nil]; omega
        refine ⟨kept_base J3 J, ?_⟩; rw [List.nil_append] at J; obtain ⟨Ac, cc, rfl, _⟩ := sl_open (J.om (fp := fc) (x := (x.drop 16).take (lineSz x))); refine q_bld bl90 [.int .i64 (be x 0 : Int), .string ⟨(hexB ((x.drop 1).take 8)).toArray⟩, .int .i64 (be x 9 : Int), .int .i64 (w4 (x.getD 10 0) (x.getD 11 0) (x.getD 12 0) (x.getD 13 0)), .slice Ac ((x.drop 16).take (lineSz x)).length cc] ?_; refine vs ?_; refine x_sta J st90 (h1 := by simp [Value.oneCell']) fun we J => vs ?_; refine ⟨kept_base J3 J, ?_⟩; have H := H.join J; simp only [List.cons_append, List.nil_append] at H; exact ⟨(gd, _, _), vs trivial, H.three (by repeat (first | exact Out.here | apply Out.there)) (by repeat (first | exact Out.here | apply Out.there)) (by repeat (first | exact Out.here | apply Out.there))⟩
    · refine vs ?_
      refine x_al J st90 fun gd wd J => vs ?_; refine ⟨kept_base J3 J, ?_⟩; refine rest_fork 11 21 4 ?_ ?_ (hr := by as_aux_lemma => kernel_rfl)
      · refine vs ?_
        refine x_callb J (specHex_ok _ v6 _ (J.rd (H.rd hv6)) (by rw [List.length_take]; omega)) fun wa J => vs ?_; refine ⟨kept_base J3 J, ?_⟩; refine rest_end [(21, false), (30, false), (31, true), (33, false)] ?_ (hs := by as_aux_lemma => kernel_rfl) (hp := by as_aux_lemma => kernel_rfl); refine vs ?_; refine x_emp J pl_u8 sl22 fun gc wb J => vs ?_; refine ⟨kept_base J3 J, ?_⟩; refine x_app J pl_u8 sl22 (J.rd (H.rd hv17)) ?_ ?_ fun fc rc wc J => vs ?_
        · simp only [List.length_nil]; omega
        · simp only [List.length_nil]; omega
        refine ⟨kept_base J3 J, ?_⟩; rw [List.nil_append] at J; obtain ⟨Ac, cc, rfl, _⟩ := sl_open (J.om (fp := fc) (x := (x.drop 16).take (lineSz x))); refine q_bld bl90 [.int .i64 (be x 0 : Int), .string ⟨(hexB ((x.drop 1).take 8)).toArray⟩, .int .i64 (be x 9 : Int), .int .i64 (w4 (x.getD 10 0) (x.getD 11 0) (x.getD 12 0) (x.getD 13 0)), .slice Ac ((x.drop 16).take (lineSz x)).length cc] ?_; refine vs ?_; refine x_sta J st90 (h1 := by simp [Value.oneCell']) fun we J => vs ?_; refine ⟨kept_base J3 J, ?_⟩; have H := H.join J; simp only [List.cons_append, List.nil_append] at H; exact ⟨(gd, _, _), vs trivial, H.three (by repeat (first | exact Out.here | apply Out.there)) (by repeat (first | exact Out.here | apply Out.there)) (by repeat (first | exact Out.here | apply Out.there))⟩
      · refine vs ?_
        refine x_emp J pl_u8 sl22 fun gc wb J => vs ?_; refine ⟨kept_base J3 J, ?_⟩; refine rest_end [(11, false), (30, false), (31, true), (33, false)] ?_ (hs := by as_aux_lemma => kernel_rfl) (hp := by as_aux_lemma => kernel_rfl); refine vs ?_; refine x_callb J (specHex_ok _ v6 _ (J.rd (H.rd hv6)) (by rw [List.length_take]; omega)) fun wa J => vs ?_; refine ⟨kept_base J3 J, ?_⟩; refine x_app J pl_u8 sl22 (J.rd (H.rd hv17)) ?_ ?_ fun fc rc wc J => vs ?_
        · simp only [List.length_nil]; omega
        · simp only [List.length_nil]; omega
        refine ⟨kept_base J3 J, ?_⟩; rw [List.nil_append] at J; obtain ⟨Ac, cc, rfl, _⟩ := sl_open (J.om (fp := fc) (x := (x.drop 16).take (lineSz x))); refine q_bld bl90 [.int .i64 (be x 0 : Int), .string ⟨(hexB ((x.drop 1).take 8)).toArray⟩, .int .i64 (be x 9 : Int), .int .i64 (w4 (x.getD 10 0) (x.getD 11 0) (x.getD 12 0) (x.getD 13 0)), .slice Ac ((x.drop 16).take (lineSz x)).length cc] ?_; refine vs ?_; refine x_sta J st90 (h1 := by simp [Value.oneCell']) fun we J => vs ?_; refine ⟨kept_base J3 J, ?_⟩; have H := H.join J; simp only [List.cons_append, List.nil_append] at H; exact ⟨(gd, _, _), vs trivial, H.three (by repeat (first | exact Out.here | apply Out.there)) (by repeat (first | exact Out.here | apply Out.there)) (by repeat (first | exact Out.here | apply Out.there))⟩
  clear d0 d9 d4 dx1 dx16 dxk hr8 ha8 hbl hz9 hr4
  rintro ⟨g9, u9, f9'⟩ s w5 H; dsimp only at H; refine vs ?_; refine x_ld H sc3 ?_
  by_cases hK : be x 0 = 3
  · refine ve (show ((be x 0 : Int) = 3) = True from eq_true (by omega)) ?_
    refine x_st H sc9 fun w6 H => vs ?_; have er := rawLine_route3 hK; have H := H.front (c := Ck.own (bytes 5) f9' [u9] ((x.drop 16).take (lineSz x))); obtain ⟨fl, H⟩ := ownLine (rawLine x) H (rawLine_rng x).1 (rawLine_rng x).2.1 (rawLine_rng x).2.2.1 (rawLine_rng x).2.2.2; rw [er] at H; have hsml := rawLine_small x; have ho := H.own (.head _); have hone := Kd.one _ ho; have J := Sep.start w6; refine draw_of [(0, true), (2, true), (3, true), (4, true), (5, true), (6, true), (7, true), (8, true), (1, false), (9, false), (10, true)] w6.heap.size [] fun w7 hh hb7 => vs ?_; have J := J.go (hb7 _); have J3 := J; refine q_ldaB H J3 st90 ?_; refine vs ?_; refine ve (And.intro (lo_kl (i := 18) 18 hkl (by decide) rfl rfl) (lo_k (k := k + 18) (n := lineSz x) (m := k + (18 + lineSz x)) (by omega) (by omega) (by omega))) ?_; refine q_subN sl22 rfl k (k + (18 + lineSz x)) hv rfl rfl (by omega) (by omega) fun vend hve => vs ?_; rw [show k + (18 + lineSz x) - k = 18 + lineSz x by omega, hX] at hve; refine x_callf J (specLineBytes_ok w7 _ (rawLine x) (J.rd ho) (by omega) (by omega)) fun rb fb w8 J => vs ?_; refine ⟨kept_base J3 J, ?_⟩; refine x_callw (specSame_ok w8 _ _ _ _ (J.own (.head _)) (J.rd (H.rd hve))) ?_; refine ⟨kept_base J3 J, ?_⟩; have H := H.join J; simp only [List.cons_append, List.nil_append] at H
    by_cases hsame : lineBytes (rawLine x) = x.take (18 + lineSz x)
    · refine ve (show (lineBytes (rawLine x) = x.take (18 + lineSz x)) = True from eq_true hsame) ?_
      refine x_lda H st90 ?_; refine ve (And.intro (lo_kl (i := 18) 18 hkl (by decide) rfl rfl) (lo_k (k := k + 18) (n := lineSz x) (m := k + (18 + lineSz x)) (by omega) (by omega) (by omega))) ?_; refine x_sta H st90 (vs := [.int .i64 (be x 0 : Int), .string _, .int .i64 (be x 9 : Int), .int .i64 (w4 (x.getD 10 0) (x.getD 11 0) (x.getD 12 0) (x.getD 13 0)), u9]) (h1 := hone) fun w10 H => vs ?_; unfold LineR; rw [lineOf_some hk (by rw [hX]; exact lineAt_yes (by omega) (by omega) hsame)]; exact ⟨_, _, rfl, res_cell H st90, _, _, rfl, H.only⟩
    · refine ve hsame ?_
      refine x_build bl90 [.int .i64 0, .string ⟨#[]⟩, .int .i64 0, .int .i64 0, .slice none 0 0] ?_; refine vs ?_; have H := H.nothing (zLine_cells w8); refine x_sta H st90 (vs := [.int .i64 0, .string ⟨#[]⟩, .int .i64 0, .int .i64 0, .slice none 0 0]) (h1 := Kd.one _ (H.own (.head _))) fun w10 H => vs ?_; unfold LineR; rw [lineOf_none (by rw [hX]; exact lineAt_no fun hh => hsame hh.2.2)]; exact ⟨_, _, rfl, res_cell H st90, _, _, rfl, H.head⟩
  · refine ve (show ¬ (be x 0 : Int) = 3 by omega) ?_
    have er := rawLine_route hK; have H := H.front (c := Ck.own (bytes 5) f9' [u9] ((x.drop 16).take (lineSz x))); obtain ⟨fl, H⟩ := ownLine (rawLine x) H (rawLine_rng x).1 (rawLine_rng x).2.1 (rawLine_rng x).2.2.1 (rawLine_rng x).2.2.2; rw [er] at H; have hsml := rawLine_small x; have ho := H.own (.head _); have hone := Kd.one _ ho; have J := Sep.start w5; refine draw_of [(0, true), (2, true), (3, true), (4, true), (5, true), (6, true), (7, true), (8, true), (1, false), (9, false), (10, true)] w5.heap.size [] fun w7 hh hb7 => vs ?_; have J := J.go (hb7 _); have J3 := J; refine q_ldaB H J3 st90 ?_; refine vs ?_; refine ve (And.intro (lo_kl (i := 18) 18 hkl (by decide) rfl rfl) (lo_k (k := k + 18) (n := lineSz x) (m := k + (18 + lineSz x)) (by omega) (by omega) (by omega))) ?_; refine q_subN sl22 rfl k (k + (18 + lineSz x)) hv rfl rfl (by omega) (by omega) fun vend hve => vs ?_; rw [show k + (18 + lineSz x) - k = 18 + lineSz x by omega, hX] at hve; refine x_callf J (specLineBytes_ok w7 _ (rawLine x) (J.rd ho) (by omega) (by omega)) fun rb fb w8 J => vs ?_; refine ⟨kept_base J3 J, ?_⟩; refine x_callw (specSame_ok w8 _ _ _ _ (J.own (.head _)) (J.rd (H.rd hve))) ?_; refine ⟨kept_base J3 J, ?_⟩; have H := H.join J; simp only [List.cons_append, List.nil_append] at H
    by_cases hsame : lineBytes (rawLine x) = x.take (18 + lineSz x)
    · refine ve (show (lineBytes (rawLine x) = x.take (18 + lineSz x)) = True from eq_true hsame) ?_
      refine x_lda H st90 ?_; refine ve (And.intro (lo_kl (i := 18) 18 hkl (by decide) rfl rfl) (lo_k (k := k + 18) (n := lineSz x) (m := k + (18 + lineSz x)) (by omega) (by omega) (by omega))) ?_; refine x_sta H st90 (vs := [.int .i64 (be x 0 : Int), .string _, .int .i64 (be x 9 : Int), .int .i64 (w4 (x.getD 10 0) (x.getD 11 0) (x.getD 12 0) (x.getD 13 0)), u9]) (h1 := hone) fun w10 H => vs ?_; unfold LineR; rw [lineOf_some hk (by rw [hX]; exact lineAt_yes (by omega) (by omega) hsame)]; exact ⟨_, _, rfl, res_cell H st90, _, _, rfl, H.only⟩
    · refine ve hsame ?_
      refine x_build bl90 [.int .i64 0, .string ⟨#[]⟩, .int .i64 0, .int .i64 0, .slice none 0 0] ?_; refine vs ?_; have H := H.nothing (zLine_cells w8); refine x_sta H st90 (vs := [.int .i64 0, .string ⟨#[]⟩, .int .i64 0, .int .i64 0, .slice none 0 0]) (h1 := Kd.one _ (H.own (.head _))) fun w10 H => vs ?_; unfold LineR; rw [lineOf_none (by rw [hX]; exact lineAt_no fun hh => hsame hh.2.2)]; exact ⟨_, _, rfl, res_cell H st90, _, _, rfl, H.head⟩
theorem indexFuncI_ok (w : World) (v : Value) (l : List MItem) (p : MItem → Bool) (f : FuncId) (fs cs : Array Value) (h : items.rd w w.heap.size [v] l) (hf : entersB Tryz.prog f = true)
    (hc : ∀ w' es x, Below w.heap.size w w' → kItem.rd w' w'.heap.size es x → ACalls Tryz.prog f (fs ++ #[.agg es.toArray] ++ cs) w' fun r w'' => r = .bool (p x) ∧ Below w'.heap.size w' w'') :
    ACalls Tryz.prog 44 #[v, .func (.func f) fs cs] w fun r w' => ((∃ k : Nat, ∃ hk : k < l.length, r = .int .i64 k ∧ p l[k] = true ∧ ∀ i (hi : i < l.length), i < k → p l[i] = false) ∨ (r = .int .i64 (-1) ∧ ∀ i (hi : i < l.length), p l[i] = false)) ∧ Below w.heap.size w w' := by
  have hlm := sl_len h; obtain ⟨A, c, rfl, hc1, hc2, ha⟩ := sl_open h; refine body_of follows Tryz.func44 rfl rfl _ rfl (by kernel_rfl) (vs ?_)
  refine loop_at (σ := Nat) (fun k => [(0, .slice A l.length c), (1, .func (.func f) fs cs), (7, .int .i64 (l.length : Int)), (8, .int .i64 (k : Int))])
    (fun k w' => k ≤ l.length ∧ (∀ i (hi : i < l.length), i < k → p l[i] = false) ∧ Sep w.heap.size w w' []) (fun k => l.length - k) 0 (vs trivial) ⟨Nat.zero_le _, fun i hi h => absurd h (Nat.not_lt_zero i), Sep.start w⟩ ?_
  rintro k s w2 ⟨hk, hall, H⟩; refine vs (ways ?_ ?_)
  · refine vh fun hlt => ?_
    have hk2 : k < l.length := by omega
    refine x_elg sl24 rfl (ha.mono H.bel) (by omega) hlt fun ad es hb hr hc' => vs ?_; have hr : kItem.rd w2 w.heap.size es l[k] := hr; refine x_lds st45 hc' (Kd.len _ hr) (vs ?_); refine x_callv hf (hc w2 es _ H.bel (Kd.le _ hr H.ns)) fun _ w3 ⟨e3, hb3⟩ => ?_; subst e3; have H := H.go hb3; refine vs (ways ?_ ?_)
    · refine vh fun hp => ?_
      exact ⟨.inl ⟨k, hk2, rfl, hp, hall⟩, H.bel⟩
    · refine vh fun hp => ?_
      refine ⟨k + 1, i64_eq (by unfold w64; omega), ⟨hk2, fun i hi h => ?_, H⟩, by omega⟩
      by_cases h2 : i = k
      · subst h2; simpa using hp
      · exact hall i hi (by omega)
  · refine vh fun hlt => ?_
    exact ⟨.inr fun i hi => hall i hi (by omega), H.bel⟩
theorem containsFuncI_ok (w : World) (v : Value) (l : List MItem) (p : MItem → Bool) (f : FuncId) (fs cs : Array Value) (h : items.rd w w.heap.size [v] l) (hf : entersB Tryz.prog f = true)
    (hc : ∀ w' es x, Below w.heap.size w w' → kItem.rd w' w'.heap.size es x → ACalls Tryz.prog f (fs ++ #[.agg es.toArray] ++ cs) w' fun r w'' => r = .bool (p x) ∧ Below w'.heap.size w' w'') :
    ACalls Tryz.prog 18 #[v, .func (.func f) fs cs] w fun r w' => r = .bool (l.any p) ∧ Below w.heap.size w w' := by
  refine body_of follows Tryz.func18 rfl rfl _ rfl (by kernel_rfl) (vs ?_); refine x_call (indexFuncI_ok w v l p f fs cs h hf hc) fun _ w2 ⟨hr, hb⟩ => ?_
  rcases hr with ⟨k, hk, rfl, hp, _⟩ | ⟨rfl, hno⟩
  · refine vs ?_
    have e : l.any p = true := List.any_eq_true.2 ⟨l[k], List.getElem_mem hk, hp⟩; rw [e]; exact ⟨by simp, hb⟩
  · refine vs ?_
    have e : l.any p = false := by
      rw [Bool.eq_false_iff]; intro ha; obtain ⟨y, hy, hp⟩ := List.any_eq_true.1 ha; obtain ⟨i, hi, rfl⟩ := List.getElem_of_mem hy; rw [hno i hi] at hp; cases hp
    rw [e]; exact ⟨by simp, hb⟩
theorem filter_take_all {α : Type} {l : List α} {q : α → Bool} {k : Nat} (h : ∀ i (hi : i < l.length), i < k → q l[i] = true) : (l.take k).filter q = l.take k := by
  rw [List.filter_eq_self]; intro y hy; obtain ⟨i, hi, rfl⟩ := List.getElem_of_mem hy; rw [List.length_take] at hi; rw [List.getElem_take]; exact h i (by omega) (by omega)
theorem own_atI {n : Nat} {w0 w : World} {L : List Ck} {α : Type} {d : Kd α} {e : TypeId} {fp : List Nat} {A : Option Addr} {m c : Nat} {l : List α} (H : Sep n w0 w (Ck.own (Kd.slice e d) fp [.slice A m c] l :: L)) (hl : 0 < l.length) : ∃ g, A = some ⟨g, 0, none⟩ := by
  obtain ⟨v', rows, fs, hv, hr⟩ := (show (Kd.slice e d).ow w fp [.slice A m c] l from H.ok _ (.head _)); simp only [List.cons.injEq, and_true] at hv; subst hv
  rcases hr.row.2 with ⟨h1, h2⟩ | ⟨g', cap, cur, h1, _⟩
  · omega
  · cases h1; exact ⟨g', rfl⟩
section
variable {P : Program} {w : World} {K : Value → World → Prop} {tg : Tg K} {t e sz by_ : Nat} {z : Value}
theorem sliced_hiI {A : Option Addr} {hi c sz : Nat} : sliced A 0 hi c sz = .slice A hi c := by
  unfold sliced; rw [Nat.zero_mul]
  cases A with
  | none => simp
  | some a => simp [Addr.add]
theorem x_hiR (HS : SlT P t e sz by_ z) {A : Option Addr} {m c hi : Nat} {k : IntKind} (hm : hi ≤ c) (h : K (.slice A hi c) w) : VS P K tg (Instr.sliceAt t (.slice A m c) none (some (.int k (hi : Int))) none) w :=
  vS_run (by have := (run_sub (w := w) HS (A := A) (n := m) (k := .i64) (k' := k) (lo := 0)).2.1 hm; rw [sliced_hiI] at this; exact this) h
theorem x_loR (HS : SlT P t e sz by_ z) {g m c lo : Nat} {k : IntKind} (hm : lo ≤ m) (hc : lo < c) (h : K (.slice (some ⟨g, lo * sz, none⟩) (m - lo) (c - lo)) w) : VS P K tg (Instr.sliceAt t (.slice (some ⟨g, 0, none⟩) m c) (some (.int k (lo : Int))) none none) w := by
  refine vS_run ((run_sub HS (k' := .i64) (hi := 0)).2.2 hm) ?_
  have e : sliced (some ⟨g, 0, none⟩) lo m c sz = .slice (some ⟨g, lo * sz, none⟩) (m - lo) (c - lo) := by
    unfold sliced; rw [if_neg (by omega), Option.map_some, Kd.add_plain]
  rw [e]; exact h
theorem x_ixR (HS : SlT P t e sz by_ z) {g m c i : Nat} {k : IntKind} (hi : i < m) (h : K (.pointer (some ⟨g, i * sz, none⟩)) w) : VS P K tg (Instr.indexAt t (.slice (some ⟨g, 0, none⟩) m c) (.int k (i : Int))) w := by
  refine x_index HS rfl (Int.natCast_nonneg _) (by omega) ?_; rw [Int.toNat_natCast, adA_some, Kd.add_plain]; exact h
end
theorem take_filter {α : Type} {l : List α} {q : α → Bool} {j : Nat} (hj : j < l.length) : (l.take (j + 1)).filter q = (l.take j).filter q ++ (if q l[j] = true then [l[j]] else []) := by
  rw [List.take_succ_eq_append_getElem hj, List.filter_append]
  congr 1
  by_cases h : q l[j] = true
  · simp [h]
  · simp [h]
theorem deleteFuncI_ok {n : Nat} {w0 w : World} {L : List Ck} {fp : List Nat} {v : Value} {l : List MItem} (p : MItem → Bool) (f : FuncId) (fs cs : Array Value) (H : Sep n w0 w (Ck.own items fp [v] l :: L)) (hl : l.length ≤ 1048576) (hf : entersB Tryz.prog f = true)
    (hc : ∀ w' es x, Sep n w0 w' L → kItem.rd w' w'.heap.size es x → ACalls Tryz.prog f (fs ++ #[.agg es.toArray] ++ cs) w' fun r w'' => r = .bool (p x) ∧ Below w'.heap.size w' w'') :
    ACalls Tryz.prog 110 #[v, .func (.func f) fs cs] w fun r w' => ∃ fp', Sep n w0 w' (Ck.own items fp' [r] (l.filter fun x => !p x) :: L) := by
  have hrd := H.own (.head _); obtain ⟨A, c, rfl, hc1, hc2, ha⟩ := sl_open hrd; refine body_of follows Tryz.func110 rfl rfl _ rfl (by kernel_rfl) (vs ?_); refine x_call (indexFuncI_ok w _ l p f fs cs hrd hf fun w' es x hb hr => hc w' es x (H.tail.go hb) hr) fun _ w2 ⟨hr, hb⟩ => ?_; have H := H.go hb
  rcases hr with ⟨i0, hi0, rfl, hp0, hn0⟩ | ⟨rfl, hno⟩
  · refine ve (show ¬ ((i0 : Int) = -1) by omega) ?_
    obtain ⟨g, rfl⟩ := own_atI H (by omega); obtain ⟨rs, hrs, _, H⟩ := H.siftStart i0 (i0 + 1) (by omega) (by omega); have hrl : rs.length = l.length := by rw [← hrs, List.length_map]
    have hget : ∀ i (h1 : i < rs.length) (h2 : i < l.length), rs[i].2.2 = l[i] := fun i h1 h2 => by subst hrs; simp
    have hk0 : rs.take i0 = (rs.take (i0 + 1)).filter fun r => !p r.2.2 := by
      rw [take_filter (by omega), hget i0 (by omega) hi0, hp0, filter_take_all fun i h1 h2 => by rw [hget i h1 (by omega), hn0 i (by omega) h2]; rfl]
      simp
    rw [hk0] at H; have ei : (i0 : Int) = (((rs.take (i0 + 1)).filter fun r => !p r.2.2).length : Int) := by rw [← hk0, List.length_take]; omega
    refine ve (show w64 ((i0 : Int) + 1) = ((i0 + 1 : Nat) : Int) by unfold w64; omega) ?_
    refine loop_at (σ := Nat) (fun j => [(0, .slice (some ⟨g, 0, none⟩) l.length c), (1, .func (.func f) fs cs), (5, .int .i64 (((rs.take j).filter fun r => !p r.2.2).length : Int)), (6, .int .i64 (j : Int))])
      (fun j w' => i0 + 1 ≤ j ∧ j ≤ l.length ∧ ((rs.take j).filter fun r => !p r.2.2).length < j ∧ Sep n w0 w' (Ck.sift 45 kItem g c rs ((rs.take j).filter fun r => !p r.2.2) j :: L)) (fun j => l.length - j) (i0 + 1) (vs ?_) ⟨Nat.le_refl _, hi0, by rw [← hk0, List.length_take]; omega, H⟩ ?_
    · exact i64_eq ei
    rintro j s w3 ⟨hj0, hj, hjl, H⟩; refine vs (ways ?_ ?_)
    · refine vh fun hlt => ?_
      have hj2 : j < rs.length := by omega
      have hel := H.siftEl (List.getElem_mem hj2); have hcell := fun q (hq : q < kItem.sz) => H.siftCell hj2 q hq; refine x_ixR sl24 (by omega) ?_; refine vs ?_; obtain ⟨u, eu, q0, q1, q2, q3⟩ := kItem_open hel; have hone := Kd.one _ hel; refine x_lds st45 (es := [.string ⟨(rs[j].2.2.f_Route).toArray⟩, .int .i64 rs[j].2.2.f_Topic, .int .i64 rs[j].2.2.f_Due, u]) (fun q hq => by rw [Kd.add_at, ← eu]; exact hcell q hq) rfl (vs ?_); refine x_al H st45 fun g5 w4 H => vs ?_; refine x_sta H st45 (vs := [.string ⟨(rs[j].2.2.f_Route).toArray⟩, .int .i64 rs[j].2.2.f_Topic, .int .i64 rs[j].2.2.f_Due, u]) (h1 := by rw [← eu]; exact hone) fun w5 H => vs ?_; have H : Sep n w0 w5 (Ck.box g5 [.string ⟨(rs[j].2.2.f_Route).toArray⟩, .int .i64 rs[j].2.2.f_Topic, .int .i64 rs[j].2.2.f_Due, u] 45 :: _) := H; refine x_lda H st45 ?_; refine vs ?_; have hel5 := H.tail.siftEl (List.getElem_mem hj2); rw [eu] at hel5; refine x_callv hf (hc w5 _ _ H.tail.tail hel5) fun _ w6 ⟨e6, hb6⟩ => ?_; subst e6; have H := H.go hb6; have htf := take_filter (q := fun r : List Value × List Nat × MItem => !p r.2.2) hj2; refine vs (ways ?_ ?_)
      · refine vh fun hp => ?_
        rw [if_pos (by rw [hp]; rfl)] at htf; refine x_lda H st45 ?_; refine vs ?_; refine x_ixR sl24 (by omega) ?_; refine vs ?_; rw [← eu]; refine x_siftPut st45 rfl H.tail hj2 (by omega) fun w7 H => vs ?_; refine ⟨j + 1, ⟨i64_eq ?_, i64_eq (by unfold w64; omega)⟩, ⟨by omega, by omega, ?_, ?_⟩, by omega⟩
        · rw [htf, List.length_append, List.length_cons, List.length_nil]; unfold w64; omega
        · rw [htf, List.length_append, List.length_cons, List.length_nil]; omega
        · rw [htf]; exact H
      · refine vh fun hp => ?_
        rw [if_neg (by simp only [Bool.not_eq_true'] at hp ⊢; exact hp), List.append_nil] at htf; refine ⟨j + 1, ⟨by rw [htf], i64_eq (by unfold w64; omega)⟩, ⟨by omega, by omega, by rw [htf]; omega, by rw [htf]; exact H.tail.siftSkip hj2⟩, by omega⟩
    · refine vh fun hlt => ?_
      have hsub : ((rs.take j).filter fun r => !p r.2.2).Sublist rs := List.filter_sublist.trans (List.take_sublist ..)
      have hmf : ((rs.take j).filter fun r => !p r.2.2).map (·.2.2) = l.filter fun x => !p x := by
        rw [List.take_of_length_le (by omega), ← hrs, List.filter_map]; rfl
      obtain ⟨fp', H⟩ := H.siftEnd hsub; rw [hmf] at H; generalize ((rs.take j).filter fun r => !p r.2.2).length = i at *; refine x_loR sl24 (lo := i) (by omega) (by omega) ?_; refine vs ?_; refine x_clrB sl24 rfl (by decide) H (by omega) (by omega) fun fp7 w7 H => vs ?_; refine x_hiR sl24 (hi := i) (by omega) ?_; refine vs ?_; exact ⟨_, H⟩
  · refine vs ?_
    have e : (l.filter fun x => !p x) = l := by
      rw [List.filter_eq_self]; intro y hy; obtain ⟨i, hi, rfl⟩ := List.getElem_of_mem hy; rw [hno i hi]; rfl
    rw [e]; exact ⟨_, H⟩
theorem x_lhmI {P : Program} {w : World} {K : Value → World → Prop} {tg : Tg K} {t e sz by_ : Nat} {z : Value} (HS : SlT P t e sz by_ z) {A : Option Addr} {m c : Nat} {k k' k'' : IntKind} {lo hi mx : Nat} (h1 : lo ≤ hi) (h2 : hi ≤ mx) (h3 : mx ≤ c) (h : ∀ v, K v w) :
    VS P K tg (Instr.sliceAt t (.slice A m c) (some (.int k (lo : Int))) (some (.int k' (hi : Int))) (some (.int k'' (mx : Int)))) w := by
  obtain ⟨i, hi', hs, _⟩ := HS.inf; have he := elem_of HS.un; have hu : P.underlying t = some (.slice (P.elem t)) := by rw [he]; exact HS.un
  have hsz : (sizeOf (P.elem t)).run P w = .ok sz w := by rw [he]; exact run_sizeOf' hi' hs
  refine vS_run (v := sliced A lo hi mx sz) ?_ (h _); rw [run_sliceAt_slice w t _ _ _ _ hu, run_slice_lhm w t A m c hu k k' k'' lo hi mx (by omega) (by omega) (by omega) (by omega), hsz]; rfl
section
variable {P : Program} {w : World} {K : Value → World → Prop} {KQ : Value → Prop} {tg : Tg K} {t e sz by_ : Nat} {z : Value}
theorem q_hiI {mm : Nat} {G : List (Nat × Nat)} {tq : Tg (mm, G, w, KQ)} (HS : SlT P t e sz by_ z) {A : Option Addr} {m c hi : Nat} {k : IntKind} (hm : hi ≤ c) (h : KQ (.slice A hi c)) : QS P mm G w KQ tq (Instr.sliceAt t (.slice A m c) none (some (.int k (hi : Int))) none) :=
  QS_of (v := .slice A hi c) (fun w _ => by have := (run_sub (w := w) HS (A := A) (n := m) (k := .i64) (k' := k) (lo := 0)).2.1 hm; rw [sliced_hiI] at this; exact this) h
theorem q_loI {mm : Nat} {G : List (Nat × Nat)} {tq : Tg (mm, G, w, KQ)} (HS : SlT P t e sz by_ z) {A : Option Addr} {m c lo : Nat} {k : IntKind} (hm : lo ≤ m) (h : KQ (sliced A lo m c sz)) : QS P mm G w KQ tq (Instr.sliceAt t (.slice A m c) (some (.int k (lo : Int))) none none) :=
  QS_of (fun w _ => (run_sub HS (k' := .i64) (hi := 0)).2.2 hm) h
theorem x_midI (HS : SlT P t e sz by_ z) {g m c lo hi : Nat} {k k' : IntKind} (h1 : lo ≤ hi) (h2 : hi ≤ c) (h3 : lo < c) (h : K (.slice (some ⟨g, lo * sz, none⟩) (hi - lo) (c - lo)) w) : VS P K tg (Instr.sliceAt t (.slice (some ⟨g, 0, none⟩) m c) (some (.int k (lo : Int))) (some (.int k' (hi : Int))) none) w := by
  refine vS_run ((run_sub HS).1 h1 h2) ?_
  have e : sliced (some ⟨g, 0, none⟩) lo hi c sz = .slice (some ⟨g, lo * sz, none⟩) (hi - lo) (c - lo) := by
    unfold sliced; rw [if_neg (by omega), Option.map_some, Kd.add_plain]
  rw [e]; exact h
end
theorem deleteI_ok {n : Nat} {w0 w : World} {L : List Ck} {fp : List Nat} {v : Value} {l : List MItem} (i : Nat) (H : Sep n w0 w (Ck.own items fp [v] l :: L)) (hi : i < l.length) (hl : l.length ≤ 1048576) :
    ACalls Tryz.prog 114 #[v, .int .i64 (i : Int), .int .i64 ((i + 1 : Nat) : Int)] w fun r w' => ∃ fp', Sep n w0 w' (Ck.own items fp' [r] (l.eraseIdx i) :: L) := by
  obtain ⟨A, c, rfl, hc1, hc2, ha⟩ := sl_open (H.own (.head _)); obtain ⟨g, rfl⟩ := own_atI H (by omega); refine body_of follows Tryz.func114 rfl rfl _ rfl (by kernel_rfl) (vs ?_); refine x_lhmI sl24 (lo := i) (hi := i + 1) (mx := l.length) (by omega) (by omega) (by omega) fun v => vs ?_; refine ve (show ¬ ((i : Int) = ((i + 1 : Nat) : Int)) by omega) ?_; refine draw_of [(0, true), (1, true), (2, true), (3, true), (4, true), (5, true), (6, false), (7, true)] n [] fun w5 hh hb5 => vs ?_; have H := H.go (hb5 _); have H5 := H; refine q_hiI sl24 (by omega) ?_; refine vs ?_; refine q_loI sl24 (lo := i + 1) (by omega) ?_; refine vs ?_; refine x_delA sl24 rfl i H hi fun fp6 w6 H => vs ?_; refine ⟨kept_base H5 H, ?_⟩; have hel : (l.eraseIdx i).length = l.length - 1 := by rw [List.length_eraseIdx, if_pos hi]
  refine x_midI sl24 (lo := l.length - 1) (hi := l.length) (by omega) (by omega) (by omega) ?_; refine vs ?_; refine x_clrB sl24 rfl (by decide) H (by omega) (by omega) fun fp7 w7 H => vs ?_; exact ⟨_, H⟩
theorem cell_ltI {w : World} {p : Addr} {v : Value} (h : w.cell? p = some v) : p.block < w.heap.size := by
  unfold World.cell? at h
  cases e : w.heap[p.block]? with
  | none => rw [e] at h; simp at h
  | some _ => exact (Array.getElem?_eq_some_iff.1 e).1
theorem implPut1_ok (w : World) (es : List Value) (g : Nat) (y x : MItem) (h : kItem.rd w w.heap.size es y) (hg0 : w.cell? ⟨g, 0, none⟩ = some (.string ⟨x.f_Route.toArray⟩)) (hg1 : w.cell? ⟨g, 1, none⟩ = some (.int .i64 x.f_Topic)) :
    ACalls Tryz.prog 111 (#[] ++ #[.agg es.toArray] ++ #[.pointer (some ⟨g, 0, none⟩)]) w fun r w' => r = .bool (twin x y) ∧ Below w.heap.size w w' := by
  obtain ⟨u, rfl, q0, q1, q2, q3⟩ := kItem_open h; have H := Sep.start w; refine body_of (args := [.agg #[.string ⟨(y.f_Route).toArray⟩, .int .i64 y.f_Topic, .int .i64 y.f_Due, u], .pointer (some ⟨g, 0, none⟩)]) follows Tryz.func111 rfl rfl _ rfl (by kernel_rfl) (vs ?_); refine x_bx H [.string ⟨(y.f_Route).toArray⟩, .int .i64 y.f_Topic, .int .i64 y.f_Due, u] fun g1 w1 H => vs ?_; refine x_ld H sc9 ?_; refine vs ?_; refine x_load sc9 ((H.bel.cell (cell_ltI hg0)).trans hg0) (vs ?_)
  by_cases hr : y.f_Route = x.f_Route
  · refine ve (show (y.f_Route = x.f_Route) = True from eq_true hr) ?_
    refine x_ld H sc3 ?_; refine ve (show (y.f_Route = x.f_Route) = True from eq_true hr) ?_; refine x_load sc3 ((H.bel.cell (cell_ltI hg1)).trans hg1) ?_; refine ve (show (y.f_Route = x.f_Route) = True from eq_true hr) ?_; have : twin x y = decide (y.f_Topic = x.f_Topic) := by unfold twin; rw [decide_eq_true hr, Bool.true_and]
    rw [this]; exact ⟨rfl, H.bel⟩
  · refine ve hr ?_
    have : twin x y = false := by unfold twin; rw [decide_eq_false hr]; rfl
    rw [this]; exact ⟨rfl, H.bel⟩
theorem implQueueOk1_ok (w : World) (es : List Value) (g : Nat) (y x : MItem) (h : kItem.rd w w.heap.size es y) (hg0 : w.cell? ⟨g, 0, none⟩ = some (.string ⟨x.f_Route.toArray⟩)) (hg1 : w.cell? ⟨g, 1, none⟩ = some (.int .i64 x.f_Topic)) :
    ACalls Tryz.prog 77 (#[] ++ #[.agg es.toArray] ++ #[.pointer (some ⟨g, 0, none⟩)]) w fun r w' => r = .bool (twin x y) ∧ Below w.heap.size w w' := by
  obtain ⟨u, rfl, q0, q1, q2, q3⟩ := kItem_open h; have H := Sep.start w; refine body_of (args := [.agg #[.string ⟨(y.f_Route).toArray⟩, .int .i64 y.f_Topic, .int .i64 y.f_Due, u], .pointer (some ⟨g, 0, none⟩)]) follows Tryz.func77 rfl rfl _ rfl (by kernel_rfl) (vs ?_); refine x_bx H [.string ⟨(y.f_Route).toArray⟩, .int .i64 y.f_Topic, .int .i64 y.f_Due, u] fun g1 w1 H => vs ?_; refine x_ld H sc9 ?_; refine vs ?_; refine x_load sc9 ((H.bel.cell (cell_ltI hg0)).trans hg0) (vs ?_)
  by_cases hr : y.f_Route = x.f_Route
  · refine ve (show (y.f_Route = x.f_Route) = True from eq_true hr) ?_
    refine x_ld H sc3 ?_; refine ve (show (y.f_Route = x.f_Route) = True from eq_true hr) ?_; refine x_load sc3 ((H.bel.cell (cell_ltI hg1)).trans hg1) ?_; refine ve (show (y.f_Route = x.f_Route) = True from eq_true hr) ?_; have : twin x y = decide (y.f_Topic = x.f_Topic) := by unfold twin; rw [decide_eq_true hr, Bool.true_and]
    rw [this]; exact ⟨rfl, H.bel⟩
  · refine ve hr ?_
    have : twin x y = false := by unfold twin; rw [decide_eq_false hr]; rfl
    rw [this]; exact ⟨rfl, H.bel⟩
theorem implDue1_ok (w : World) (es : List Value) (g : Nat) (y : MItem) (now : Int) (h : kItem.rd w w.heap.size es y) (hg0 : w.cell? ⟨g, 0, none⟩ = some (.int .i64 now)) :
    ACalls Tryz.prog 115 (#[] ++ #[.agg es.toArray] ++ #[.pointer (some ⟨g, 0, none⟩)]) w fun r w' => r = .bool (decide (y.f_Due < now)) ∧ Below w.heap.size w w' := by
  obtain ⟨u, rfl, q0, q1, q2, q3⟩ := kItem_open h; have H := Sep.start w; refine body_of (args := [.agg #[.string ⟨(y.f_Route).toArray⟩, .int .i64 y.f_Topic, .int .i64 y.f_Due, u], .pointer (some ⟨g, 0, none⟩)]) follows Tryz.func115 rfl rfl _ rfl (by kernel_rfl) (vs ?_); refine x_bx H [.string ⟨(y.f_Route).toArray⟩, .int .i64 y.f_Topic, .int .i64 y.f_Due, u] fun g1 w1 H => vs ?_; refine x_ld H sc3 ?_; refine vs ?_; refine x_load sc3 ((H.bel.cell (cell_ltI hg0)).trans hg0) (vs ?_); exact H.bel
theorem implTake1_ok (w : World) (es : List Value) (g : Nat) (y : MItem) (r : List UInt8) (h : kItem.rd w w.heap.size es y) (hg0 : w.cell? ⟨g, 0, none⟩ = some (.string ⟨r.toArray⟩)) :
    ACalls Tryz.prog 113 (#[] ++ #[.agg es.toArray] ++ #[.pointer (some ⟨g, 0, none⟩)]) w fun q w' => q = .bool (hasR r y) ∧ Below w.heap.size w w' := by
  obtain ⟨u, rfl, q0, q1, q2, q3⟩ := kItem_open h; have H := Sep.start w; refine body_of (args := [.agg #[.string ⟨(y.f_Route).toArray⟩, .int .i64 y.f_Topic, .int .i64 y.f_Due, u], .pointer (some ⟨g, 0, none⟩)]) follows Tryz.func113 rfl rfl _ rfl (by kernel_rfl) (vs ?_); refine x_bx H [.string ⟨(y.f_Route).toArray⟩, .int .i64 y.f_Topic, .int .i64 y.f_Due, u] fun g1 w1 H => vs ?_; refine x_ld H sc9 ?_; refine vs ?_; refine x_load sc9 ((H.bel.cell (cell_ltI hg0)).trans hg0) (vs ?_); exact ⟨rfl, H.bel⟩
end Go.Proofs.YtcmckbgiiclomacGreat.V
