/- Texts laid by programs, part 8. -/
import Derived.Test.YtcmckbgiiclomabGreatDoorU07
namespace Go.Proofs.YtcmckbgiiclomabGreatDoor.V
open Go Go.RowKit
set_option maxRecDepth 100000
set_option maxHeartbeats 4000000
set_option linter.unusedSimpArgs false
set_option linter.unusedVariables false
set_option pp.deepTerms false
set_option pp.deepTerms.threshold 3
theorem mul_add8 (a b : UInt8) : w64 (w64 (256 * (a.toNat : Int)) + (b.toNat : Int)) = ((256 * a.toNat + b.toNat : Nat) : Int) := by
  have ha := a.toNat_lt; have hb := b.toNat_lt; unfold w64; omega
theorem lineSz_lt (x : List UInt8) : lineSz x < 65536 := by
  have h1 := (x.getD 14 0).toNat_lt; have h2 := (x.getD 15 0).toNat_lt; unfold lineSz be; omega
theorem be_lt (x : List UInt8) (i : Nat) : be x i < 256 := by
  have h1 := (x.getD i 0).toNat_lt; unfold be; omega
theorem w64_be (x : List UInt8) (i : Nat) : w64 (be x i : Int) = (be x i : Int) := by have := be_lt x i; unfold w64; omega
theorem getD_one0 (a : Int) : [a].getD 0 0 = a := rfl
theorem getD_drop0 (b : List UInt8) (o i : Nat) : (b.drop o).getD i 0 = b.getD (o + i) 0 := by
  simp [List.getD_eq_getElem?_getD, List.getElem?_drop]
theorem rawLine_kind (x : List UInt8) : (rawLine x).f_Kind = (be x 0 : Int) := rfl
theorem rawLine_route3 {x : List UInt8} (h : be x 0 = 3) : (rawLine x).f_Route = [] := if_pos h
theorem rawLine_route {x : List UInt8} (h : ¬ be x 0 = 3) : (rawLine x).f_Route = hexB ((x.drop 1).take 8) := if_neg h
theorem rawLine_small (x : List UInt8) : (rawLine x).f_Route.length ≤ 16 ∧ (rawLine x).f_Bytes.length ≤ x.length := by
  constructor
  · by_cases h : be x 0 = 3
    · rw [rawLine_route3 h]; simp
    · rw [rawLine_route h, hexB_len, List.length_take]; omega
  · show ((x.drop 16).take (lineSz x)).length ≤ _
    rw [List.length_take, List.length_drop]; omega
theorem rawLine_rng (x : List UInt8) : (-9223372036854775808 ≤ (rawLine x).f_Kind ∧ (rawLine x).f_Kind < 9223372036854775808) ∧ (rawLine x).f_Route.length ≤ 9223372036854775807 ∧ (-9223372036854775808 ≤ (rawLine x).f_Topic ∧ (rawLine x).f_Topic < 9223372036854775808) ∧ (-9223372036854775808 ≤ (rawLine x).f_Due ∧ (rawLine x).f_Due < 9223372036854775808) := by
  have h0 := be_lt x 0; have h9 := be_lt x 9; have hs := rawLine_small x; refine ⟨?_, by omega, ?_, w4_i64 ..⟩
  · rw [rawLine_kind]; omega
  · show (-9223372036854775808 : Int) ≤ (be x 9 : Int) ∧ (be x 9 : Int) < 9223372036854775808
    omega
theorem zLine_cells (w : World) : kLine.ow w [] [.int .i64 0, .string ⟨#[]⟩, .int .i64 0, .int .i64 0, .slice none 0 0] zLine := kLine_zero w
theorem lo_18s {n : Nat} (h : n ≤ 1073741824) : w64 ((n : Int) - 18) = (n : Int) - 18 := by unfold w64; omega
theorem lo_k {k n m : Nat} (h : k ≤ 1073741824) (h2 : n ≤ 1000000) (e : m = k + n) : w64 ((k : Int) + (n : Int)) = (m : Int) := by unfold w64; omega
theorem lo_kl {k m : Nat} (n : Nat) (h : k ≤ 1073741824) (h2 : n ≤ 1000000) (e : m = k + n) {i : Int} (hi : i = (n : Int)) : w64 ((k : Int) + i) = (m : Int) := by subst hi; exact lo_k h h2 e
theorem lo_bk {b k : Nat} (hb : b ≤ 1073741824) (hk : k ≤ b) : w64 (w64 ((b : Int) - (k : Int)) - 18) = (b : Int) - k - 18 := by unfold w64; omega
def LineR (w : World) (b : List UInt8) (k : Nat) (r : Value) (w' : World) : Prop := ∃ cs fp, r = .tuple #[.agg cs.toArray, .int .i64 (lineOf b k).2.1, .bool (lineOf b k).2.2] ∧ Sep w.heap.size w w' [Ck.own kLine fp cs (lineOf b k).1]
theorem specLineOf_ok (w : World) (v : Value) (b : List UInt8) (k : Nat) (h : (bytes 5).rd w w.heap.size [v] b) (hk : k ≤ b.length) (hl : b.length ≤ 1073741824) :
    ACalls Tryz.prog 111 #[v, .int .i64 (k : Int)] w fun r w' => LineR w b k r w' := by
  have hv := h; obtain ⟨A, c, rfl, hc1, hc2, ha⟩ := sl_open h; have H := Sep.start w; refine body_of follows Tryz.func111 rfl rfl _ rfl (by kernel_rfl) (vs ?_); refine x_al H st103 fun g4 w1 H => ?_; refine ve (And.intro (lo_18s hl) (show ¬ (k : Int) < 0 by omega)) ?_
  by_cases hin : (b.length : Int) - 18 < (k : Int)
  · refine ve (And.intro hin (show ¬ (k : Int) < 0 by omega)) ?_
    refine x_build bl103 [.int .i64 0, .string ⟨#[]⟩, .int .i64 0, .int .i64 0, .slice none 0 0] ?_; refine vs ?_; have H := H.nothing (zLine_cells w1); refine x_sta H st103 (h1 := Kd.one _ (H.own (.head _))) fun w6 H => vs ?_; unfold LineR; rw [lineOf_out (by omega)]; exact ⟨_, _, rfl, res_cell H st103, _, _, rfl, H.head⟩
  refine ve (And.intro hin (show ¬ (k : Int) < 0 by omega)) ?_; have hkl : k ≤ 1073741824 := by omega
  have eN : 256 * (b.getD (k + 14) 0).toNat + (b.getD (k + 15) 0).toNat = lineSz (b.drop k) := by unfold lineSz be; rw [getD_drop0, getD_drop0]
  have hxl : (b.drop k).length = b.length - k := List.length_drop; have d0 : ((b.getD k 0).toNat : Int) = (be (b.drop k) 0 : Int) := by unfold be; rw [getD_drop0]; rfl
  have d9 : ((b.getD (k + 9) 0).toNat : Int) = (be (b.drop k) 9 : Int) := by unfold be; rw [getD_drop0]
  have d4 : wordsN ((b.drop (k + 10)).take 4) 1 = [w4 ((b.drop k).getD 10 0) ((b.drop k).getD 11 0) ((b.drop k).getD 12 0) ((b.drop k).getD 13 0)] := by
    show [w4 _ _ _ _] = _
    simp only [List.getD_eq_getElem?_getD, List.getElem?_take, List.getElem?_drop]
    rfl
  have dx1 : (b.drop (k + 1)).take 8 = ((b.drop k).drop 1).take 8 := by rw [List.drop_drop]
  have dx16 : (b.drop (k + 16)).take (lineSz (b.drop k)) = ((b.drop k).drop 16).take (lineSz (b.drop k)) := by rw [List.drop_drop]
  have dxk : ∀ n, (b.drop k).take n = (b.drop k).take n := fun _ => rfl; generalize hX : b.drop k = x at *; have hN := lineSz_lt x
  refine cut_to (σ := Unit) (fun _ => [(0, .slice A b.length c), (1, .int .i64 (k : Int)), (4, .pointer (some ⟨g4, 0, none⟩)), (7, .int .i64 (lineSz x : Int))])
    (fun _ w' => Sep w.heap.size w w' [Ck.box g4 [.int .i64 0, .string ⟨#[]⟩, .int .i64 0, .int .i64 0, .slice none 0 0] 103]) ?_ ?_
  · refine draw_of [(0, true), (1, true), (2, true), (3, true), (4, true), (5, true), (6, true), (7, true), (8, true), (9, true), (10, true), (11, true), (12, true), (13, true), (14, true)] w.heap.size [] fun w2 hh2 hb2 => ve (lo_kl (i := 14) 14 hkl (by decide) rfl rfl) ?_
    have H := H.go (hb2 _); refine q_elV pl_u8 sl22 (k + 14) (ha.mono H.bel) (getD_at (z := 0) (by omega)) rfl rfl fun ad hb hc _ => vs ?_; refine qx_load sc5 hc hb (by simp) (ve (lo_kl (i := 15) 15 hkl (by decide) rfl rfl) ?_); refine q_elV pl_u8 sl22 (k + 15) (ha.mono H.bel) (getD_at (z := 0) (by omega)) rfl rfl fun ad hb hc _ => vs ?_; refine qx_load sc5 hc hb (by simp) (vs ?_); have := mul_add8 (b.getD (k + 14) 0) (b.getD (k + 15) 0); rw [eN] at this; exact ⟨(), i64_eq this, H⟩
  clear eN
  rintro _ s2 w2 H; refine ve (lo_bk hl hk) ?_
  by_cases hsz : (b.length : Int) - k - 18 < (lineSz x : Int)
  · refine ve hsz ?_
    refine x_build bl103 [.int .i64 0, .string ⟨#[]⟩, .int .i64 0, .int .i64 0, .slice none 0 0] ?_; refine vs ?_; have H := H.nothing (zLine_cells w2); refine x_sta H st103 (h1 := Kd.one _ (H.own (.head _))) fun w6 H => vs ?_; unfold LineR; rw [lineOf_none (by rw [hX]; exact lineAt_no (by omega))]; exact ⟨_, _, rfl, res_cell H st103, _, _, rfl, H.head⟩
  refine ve (And.intro hsz (And.intro (lo_kl (i := 10) 10 hkl (by decide) rfl rfl) (lo_kl (i := 14) 14 hkl (by decide) rfl rfl))) ?_; have hz := be_lt x 0; have hz9 := be_lt x 9; have hr4 := w4_range (x.getD 10 0) (x.getD 11 0) (x.getD 12 0) (x.getD 13 0); have hbl : ((x.drop 16).take (lineSz x)).length = lineSz x := by rw [List.length_take, List.length_drop]; omega
  refine x_subN sl22 rfl (k + 10) (k + 14) hv rfl rfl (by omega) (by omega) fun v8 hv8 => vs ?_; rw [show k + 14 - (k + 10) = 4 by omega] at hv8; refine x_callf H (specWords_ok w2 v8 _ 1 (H.rd hv8) (by rw [List.length_take, List.length_drop]; omega) (by decide)) fun r8 f8 w3 H => vs ?_; rw [d4] at H; have hr8 := H.own (.head _); obtain ⟨A8, c8, rfl, _, _, ha8⟩ := sl_open hr8
  refine cut_to (σ := Nat × Value × List Nat) (fun y => [(0, .slice A b.length c), (1, .int .i64 (k : Int)), (4, .pointer (some ⟨g4, 0, none⟩)), (7, .int .i64 (lineSz x : Int)), (9, .pointer (some ⟨y.1, 0, none⟩))])
    (fun y w' => Sep w.heap.size w w' [Ck.box y.1 [.int .i64 (be x 0 : Int), .string ⟨(hexB ((x.drop 1).take 8)).toArray⟩, .int .i64 (be x 9 : Int), .int .i64 (w4 (x.getD 10 0) (x.getD 11 0) (x.getD 12 0) (x.getD 13 0)), y.2.1] 103, Ck.own (bytes 5) y.2.2 [y.2.1] ((x.drop 16).take (lineSz x)), Ck.box g4 [.int .i64 0, .string ⟨#[]⟩, .int .i64 0, .int .i64 0, .slice none 0 0] 103]) ?_ ?_
  · have J := Sep.start w3
    refine fork_draw w3.heap.size [] fun wq hh hb3 => ?_; have J := J.go (hb3 _); have J3 := J; have HJ := H.join J; refine rest_pre [(0, true), (1, true), (2, true), (3, true), (4, true), (5, true), (6, true), (7, true), (8, true), (9, true), (10, true), (12, true), (13, true), (14, true), (15, true), (16, true), (17, true), (18, true), (19, true), (20, true), (22, true), (23, true), (24, true), (25, true), (26, true), (27, true), (28, true), (29, true)] 6 ?_ (hs := by as_aux_lemma => kernel_rfl) (hp := by as_aux_lemma => kernel_rfl); refine vs ?_; refine q_elV pl_u8 sl22 k (ha.mono HJ.bel) (getD_at (z := 0) (by omega)) rfl rfl fun ad hb hc _ => vs ?_; refine qx_load sc5 hc (Nat.lt_of_lt_of_le hb H.ns) (by simp) (ve (And.intro (And.intro d0 (w64_be x 0)) (And.intro (lo_kl (i := 1) 1 hkl (by decide) rfl rfl) (lo_kl (i := 9) 9 hkl (by decide) rfl rfl))) ?_); refine q_subN sl22 rfl (k + 1) (k + 9) hv rfl rfl (by omega) (by omega) fun v6 hv6 => ve (lo_kl (i := 9) 9 hkl (by decide) rfl rfl) ?_; refine q_elV pl_u8 sl22 (k + 9) (ha.mono HJ.bel) (getD_at (z := 0) (by omega)) rfl rfl fun ad hb hc _ => vs ?_; refine qx_load sc5 hc (Nat.lt_of_lt_of_le hb H.ns) (by simp) (ve (And.intro d9 (w64_be x 9)) ?_); refine q_elV pl_i64 sl55 0 (ha8.mono J.bel) (getD_at (z := 0) (by simp)) rfl rfl fun ad hb hc _ => vs ?_; refine qx_load sc3 hc hb (by simp) (ve (And.intro (And.intro (getD_one0 (w4 (x.getD 10 0) (x.getD 11 0) (x.getD 12 0) (x.getD 13 0))) (lo_kl (i := 16) 16 hkl (by decide) rfl rfl)) (lo_k (k := k + 16) (n := lineSz x) (by omega) (by omega) rfl)) ?_); refine q_subN sl22 rfl (k + 16) (k + 16 + lineSz x) hv rfl rfl (by omega) (by omega) fun v17 hv17 => vs ?_; rw [show k + 9 - (k + 1) = 8 by omega, dx1] at hv6
    rw [show k + 16 + lineSz x - (k + 16) = lineSz x by omega, dx16] at hv17; refine rest_fork3 11 21 32 5 ?_ ?_ ?_ (hr := by as_aux_lemma => kernel_rfl)
    · refine vs ?_
      refine x_callb J (specHex_ok _ v6 _ (J.rd (H.rd hv6)) (by rw [List.length_take]; omega)) fun wa J => vs ?_; refine ⟨kept_base J3 J, ?_⟩; refine rest_fork 21 32 4 ?_ ?_ (hr := by as_aux_lemma => kernel_rfl)
      · refine vs ?_
        refine x_emp J pl_u8 sl22 fun gc wb J => vs ?_; refine ⟨kept_base J3 J, ?_⟩; refine rest_fork 30 32 3 ?_ ?_ (hr := by as_aux_lemma => kernel_rfl)
        · refine vs ?_
          refine x_app J pl_u8 sl22 (J.rd (H.rd hv17)) ?_ ?_ fun fc rc wc J => vs ?_
          · simp only [List.length_nil]; omega
          · simp only [List.length_nil]; omega
          refine ⟨kept_base J3 J, ?_⟩; rw [List.nil_append] at J; refine rest_end [(31, true), (32, false), (33, false)] ?_ (hs := by as_aux_lemma => kernel_rfl) (hp := by as_aux_lemma => kernel_rfl); refine vs ?_; obtain ⟨Ac, cc, rfl, _⟩ := sl_open (J.om (fp := fc) (x := (x.drop 16).take (lineSz x))); refine q_bld bl103 [.int .i64 (be x 0 : Int), .string ⟨(hexB ((x.drop 1).take 8)).toArray⟩, .int .i64 (be x 9 : Int), .int .i64 (w4 (x.getD 10 0) (x.getD 11 0) (x.getD 12 0) (x.getD 13 0)), .slice Ac ((x.drop 16).take (lineSz x)).length cc] ?_; refine vs ?_; refine x_al J st103 fun gd wd J => vs ?_; refine ⟨kept_base J3 J, ?_⟩; refine x_sta J st103 (h1 := by simp [Value.oneCell']) fun we J => vs ?_; refine ⟨kept_base J3 J, ?_⟩; have H := H.join J; simp only [List.cons_append, List.nil_append] at H; exact ⟨(gd, _, _), vs trivial, H.three (by repeat (first | exact Out.here | apply Out.there)) (by repeat (first | exact Out.here | apply Out.there)) (by repeat (first | exact Out.here | apply Out.there))⟩
        · refine vs ?_
          refine x_al J st103 fun gd wd J => vs ?_; refine ⟨kept_base J3 J, ?_⟩; refine rest_end [(30, false), (31, true), (33, false)] ?_ (hs := by as_aux_lemma => kernel_rfl) (hp := by as_aux_lemma => kernel_rfl); refine vs ?_; refine x_app J pl_u8 sl22 (J.rd (H.rd hv17)) ?_ ?_ fun fc rc wc J => vs ?_
          · simp only [List.length_nil]; omega
          · simp only [List.length_nil]; omega
          refine ⟨kept_base J3 J, ?_⟩; rw [List.nil_append] at J; obtain ⟨Ac, cc, rfl, _⟩ := sl_open (J.om (fp := fc) (x := (x.drop 16).take (lineSz x))); refine q_bld bl103 [.int .i64 (be x 0 : Int), .string ⟨(hexB ((x.drop 1).take 8)).toArray⟩, .int .i64 (be x 9 : Int), .int .i64 (w4 (x.getD 10 0) (x.getD 11 0) (x.getD 12 0) (x.getD 13 0)), .slice Ac ((x.drop 16).take (lineSz x)).length cc] ?_; refine vs ?_; refine x_sta J st103 (h1 := by simp [Value.oneCell']) fun we J => vs ?_; refine ⟨kept_base J3 J, ?_⟩; have H := H.join J; simp only [List.cons_append, List.nil_append] at H; exact ⟨(gd, _, _), vs trivial, H.three (by repeat (first | exact Out.here | apply Out.there)) (by repeat (first | exact Out.here | apply Out.there)) (by repeat (first | exact Out.here | apply Out.there))⟩
      · refine vs ?_
        refine x_al J st103 fun gd wd J => vs ?_; refine ⟨kept_base J3 J, ?_⟩; refine rest_end [(21, false), (30, false), (31, true), (33, false)] ?_ (hs := by as_aux_lemma => kernel_rfl) (hp := by as_aux_lemma => kernel_rfl); refine vs ?_; refine x_emp J pl_u8 sl22 fun gc wb J => vs ?_; refine ⟨kept_base J3 J, ?_⟩; refine x_app J pl_u8 sl22 (J.rd (H.rd hv17)) ?_ ?_ fun fc rc wc J => vs ?_
        · simp only [List.length_nil]; omega
        · simp only [List.length_nil]; omega
        refine ⟨kept_base J3 J, ?_⟩; rw [List.nil_append] at J; obtain ⟨Ac, cc, rfl, _⟩ := sl_open (J.om (fp := fc) (x := (x.drop 16).take (lineSz x))); refine q_bld bl103 [.int .i64 (be x 0 : Int), .string ⟨(hexB ((x.drop 1).take 8)).toArray⟩, .int .i64 (be x 9 : Int), .int .i64 (w4 (x.getD 10 0) (x.getD 11 0) (x.getD 12 0) (x.getD 13 0)), .slice Ac ((x.drop 16).take (lineSz x)).length cc] ?_; refine vs ?_; refine x_sta J st103 (h1 := by simp [Value.oneCell']) fun we J => vs ?_; refine ⟨kept_base J3 J, ?_⟩; have H := H.join J; simp only [List.cons_append, List.nil_append] at H; exact ⟨(gd, _, _), vs trivial, H.three (by repeat (first | exact Out.here | apply Out.there)) (by repeat (first | exact Out.here | apply Out.there)) (by repeat (first | exact Out.here | apply Out.there))⟩
    · refine vs ?_
      refine x_emp J pl_u8 sl22 fun gc wb J => vs ?_; refine ⟨kept_base J3 J, ?_⟩; refine rest_fork 11 32 4 ?_ ?_ (hr := by as_aux_lemma => kernel_rfl)
      · refine vs ?_
        refine x_callb J (specHex_ok _ v6 _ (J.rd (H.rd hv6)) (by rw [List.length_take]; omega)) fun wa J => vs ?_; refine ⟨kept_base J3 J, ?_⟩; refine rest_fork 30 32 3 ?_ ?_ (hr := by as_aux_lemma => kernel_rfl)
        · refine vs ?_
          refine x_app J pl_u8 sl22 (J.rd (H.rd hv17)) ?_ ?_ fun fc rc wc J => vs ?_
          · simp only [List.length_nil]; omega
          · simp only [List.length_nil]; omega
          refine ⟨kept_base J3 J, ?_⟩; rw [List.nil_append] at J; refine rest_end [(31, true), (32, false), (33, false)] ?_ (hs := by as_aux_lemma => kernel_rfl) (hp := by as_aux_lemma => kernel_rfl); refine vs ?_; obtain ⟨Ac, cc, rfl, _⟩ := sl_open (J.om (fp := fc) (x := (x.drop 16).take (lineSz x))); refine q_bld bl103 [.int .i64 (be x 0 : Int), .string ⟨(hexB ((x.drop 1).take 8)).toArray⟩, .int .i64 (be x 9 : Int), .int .i64 (w4 (x.getD 10 0) (x.getD 11 0) (x.getD 12 0) (x.getD 13 0)), .slice Ac ((x.drop 16).take (lineSz x)).length cc] ?_; refine vs ?_; refine x_al J st103 fun gd wd J => vs ?_; refine ⟨kept_base J3 J, ?_⟩; refine x_sta J st103 (h1 := by simp [Value.oneCell']) fun we J => vs ?_; refine ⟨kept_base J3 J, ?_⟩; have H := H.join J; simp only [List.cons_append, List.nil_append] at H; exact ⟨(gd, _, _), vs trivial, H.three (by repeat (first | exact Out.here | apply Out.there)) (by repeat (first | exact Out.here | apply Out.there)) (by repeat (first | exact Out.here | apply Out.there))⟩
        · refine vs ?_
          refine x_al J st103 fun gd wd J => vs ?_; refine ⟨kept_base J3 J, ?_⟩; refine rest_end [(30, false), (31, true), (33, false)] ?_ (hs := by as_aux_lemma => kernel_rfl) (hp := by as_aux_lemma => kernel_rfl); refine vs ?_; refine x_app J pl_u8 sl22 (J.rd (H.rd hv17)) ?_ ?_ fun fc rc wc J => vs ?_
          · simp only [List.length_nil]; omega
          · simp only [List.length_nil]; omega
          refine ⟨kept_base J3 J, ?_⟩; rw [List.nil_append] at J; obtain ⟨Ac, cc, rfl, _⟩ := sl_open (J.om (fp := fc) (x := (x.drop 16).take (lineSz x))); refine q_bld bl103 [.int .i64 (be x 0 : Int), .string ⟨(hexB ((x.drop 1).take 8)).toArray⟩, .int .i64 (be x 9 : Int), .int .i64 (w4 (x.getD 10 0) (x.getD 11 0) (x.getD 12 0) (x.getD 13 0)), .slice Ac ((x.drop 16).take (lineSz x)).length cc] ?_; refine vs ?_; refine x_sta J st103 (h1 := by simp [Value.oneCell']) fun we J => vs ?_; refine ⟨kept_base J3 J, ?_⟩; have H := H.join J; simp only [List.cons_append, List.nil_append] at H; exact ⟨(gd, _, _), vs trivial, H.three (by repeat (first | exact Out.here | apply Out.there)) (by repeat (first | exact Out.here | apply Out.there)) (by repeat (first | exact Out.here | apply Out.there))⟩
      · refine vs ?_
        refine x_al J st103 fun gd wd J => vs ?_; refine ⟨kept_base J3 J, ?_⟩; refine rest_end [(11, false), (30, false), (31, true), (33, false)] ?_ (hs := by as_aux_lemma => kernel_rfl) (hp := by as_aux_lemma => kernel_rfl); refine vs ?_; refine x_callb J (specHex_ok _ v6 _ (J.rd (H.rd hv6)) (by rw [List.length_take]; omega)) fun wa J => vs ?_; refine ⟨kept_base J3 J, ?_⟩; refine x_app J pl_u8 sl22 (J.rd (H.rd hv17)) ?_ ?_ fun fc rc wc J => vs ?_
        · simp only [List.length_nil]; omega
        · simp only [List.length_nil]; omega
        refine ⟨kept_base J3 J, ?_⟩; rw [List.nil_append] at J; obtain ⟨Ac, cc, rfl, _⟩ := sl_open (J.om (fp := fc) (x := (x.drop 16).take (lineSz x))); refine q_bld bl103 [.int .i64 (be x 0 : Int), .string ⟨(hexB ((x.drop 1).take 8)).toArray⟩, .int .i64 (be x 9 : Int), .int .i64 (w4 (x.getD 10 0) (x.getD 11 0) (x.getD 12 0) (x.getD 13 0)), .slice Ac ((x.drop 16).take (lineSz x)).length cc] ?_; refine vs ?_; refine x_sta J st103 (h1 := by simp [Value.oneCell']) fun we J => vs ?_; refine ⟨kept_base J3 J, ?_⟩; have H := H.join J; simp only [List.cons_append, List.nil_append] at H; exact ⟨(gd, _, _), vs trivial, H.three (by repeat (first | exact Out.here | apply Out.there)) (by repeat (first | exact Out.here | apply Out.there)) (by repeat (first | exact Out.here | apply Out.there))⟩
    · refine vs ?_
      refine x_al J st103 fun gd wd J => vs ?_; refine ⟨kept_base J3 J, ?_⟩; refine rest_fork 11 21 4 ?_ ?_ (hr := by as_aux_lemma => kernel_rfl)
      · refine vs ?_
        refine x_callb J (specHex_ok _ v6 _ (J.rd (H.rd hv6)) (by rw [List.length_take]; omega)) fun wa J => vs ?_; refine ⟨kept_base J3 J, ?_⟩; refine rest_end [(21, false), (30, false), (31, true), (33, false)] ?_ (hs := by as_aux_lemma => kernel_rfl) (hp := by as_aux_lemma => kernel_rfl); refine vs ?_; refine x_emp J pl_u8 sl22 fun gc wb J => vs ?_; refine ⟨kept_base J3 J, ?_⟩; refine x_app J pl_u8 sl22 (J.rd (H.rd hv17)) ?_ ?_ fun fc rc wc J => vs ?_
        · simp only [List.length_nil]; omega
        · simp only [List.length_nil]; omega
        refine ⟨kept_base J3 J, ?_⟩; rw [List.nil_append] at J; obtain ⟨Ac, cc, rfl, _⟩ := sl_open (J.om (fp := fc) (x := (x.drop 16).take (lineSz x))); refine q_bld bl103 [.int .i64 (be x 0 : Int), .string ⟨(hexB ((x.drop 1).take 8)).toArray⟩, .int .i64 (be x 9 : Int), .int .i64 (w4 (x.getD 10 0) (x.getD 11 0) (x.getD 12 0) (x.getD 13 0)), .slice Ac ((x.drop 16).take (lineSz x)).length cc] ?_; refine vs ?_; refine x_sta J st103 (h1 := by simp [Value.oneCell']) fun we J => vs ?_; refine ⟨kept_base J3 J, ?_⟩; have H := H.join J; simp only [List.cons_append, List.nil_append] at H; exact ⟨(gd, _, _), vs trivial, H.three (by repeat (first | exact Out.here | apply Out.there)) (by repeat (first | exact Out.here | apply Out.there)) (by repeat (first | exact Out.here | apply Out.there))⟩
      · refine vs ?_
        refine x_emp J pl_u8 sl22 fun gc wb J => vs ?_; refine ⟨kept_base J3 J, ?_⟩; refine rest_end [(11, false), (30, false), (31, true), (33, false)] ?_ (hs := by as_aux_lemma => kernel_rfl) (hp := by as_aux_lemma => kernel_rfl); refine vs ?_; refine x_callb J (specHex_ok _ v6 _ (J.rd (H.rd hv6)) (by rw [List.length_take]; omega)) fun wa J => vs ?_; refine ⟨kept_base J3 J, ?_⟩; refine x_app J pl_u8 sl22 (J.rd (H.rd hv17)) ?_ ?_ fun fc rc wc J => vs ?_
        · simp only [List.length_nil]; omega
        · simp only [List.length_nil]; omega
        refine ⟨kept_base J3 J, ?_⟩; rw [List.nil_append] at J; obtain ⟨Ac, cc, rfl, _⟩ := sl_open (J.om (fp := fc) (x := (x.drop 16).take (lineSz x))); refine q_bld bl103 [.int .i64 (be x 0 : Int), .string ⟨(hexB ((x.drop 1).take 8)).toArray⟩, .int .i64 (be x 9 : Int), .int .i64 (w4 (x.getD 10 0) (x.getD 11 0) (x.getD 12 0) (x.getD 13 0)), .slice Ac ((x.drop 16).take (lineSz x)).length cc] ?_; refine vs ?_; refine x_sta J st103 (h1 := by simp [Value.oneCell']) fun we J => vs ?_; refine ⟨kept_base J3 J, ?_⟩; have H := H.join J; simp only [List.cons_append, List.nil_append] at H; exact ⟨(gd, _, _), vs trivial, H.three (by repeat (first | exact Out.here | apply Out.there)) (by repeat (first | exact Out.here | apply Out.there)) (by repeat (first | exact Out.here | apply Out.there))⟩
  clear d0 d9 d4 dx1 dx16 dxk hr8 ha8 hbl hz9 hr4
  rintro ⟨g9, u9, f9'⟩ s w5 H; dsimp only at H; refine vs ?_; refine x_ld H sc3 ?_
  by_cases hK : be x 0 = 3
  · refine ve (show ((be x 0 : Int) = 3) = True from eq_true (by omega)) ?_
    refine x_st H sc9 fun w6 H => vs ?_; have er := rawLine_route3 hK; have H := H.front (c := Ck.own (bytes 5) f9' [u9] ((x.drop 16).take (lineSz x))); obtain ⟨fl, H⟩ := ownLine (rawLine x) H (rawLine_rng x).1 (rawLine_rng x).2.1 (rawLine_rng x).2.2.1 (rawLine_rng x).2.2.2; rw [er] at H; have hsml := rawLine_small x; have ho := H.own (.head _); have hone := Kd.one _ ho; have J := Sep.start w6; refine draw_of [(0, true), (2, true), (3, true), (4, true), (5, true), (6, true), (7, true), (8, true), (1, false), (9, false), (10, true)] w6.heap.size [] fun w7 hh hb7 => vs ?_; have J := J.go (hb7 _); have J3 := J; refine q_ldaB H J3 st103 ?_; refine vs ?_; refine ve (And.intro (lo_kl (i := 18) 18 hkl (by decide) rfl rfl) (lo_k (k := k + 18) (n := lineSz x) (m := k + (18 + lineSz x)) (by omega) (by omega) (by omega))) ?_; refine q_subN sl22 rfl k (k + (18 + lineSz x)) hv rfl rfl (by omega) (by omega) fun vend hve => vs ?_; rw [show k + (18 + lineSz x) - k = 18 + lineSz x by omega, hX] at hve; refine x_callf J (specLineBytes_ok w7 _ (rawLine x) (J.rd ho) (by omega) (by omega)) fun rb fb w8 J => vs ?_; refine ⟨kept_base J3 J, ?_⟩; refine x_callw (specSame_ok w8 _ _ _ _ (J.own (.head _)) (J.rd (H.rd hve))) ?_; refine ⟨kept_base J3 J, ?_⟩; have H := H.join J; simp only [List.cons_append, List.nil_append] at H
    by_cases hsame : lineBytes (rawLine x) = x.take (18 + lineSz x)
    · refine ve (show (lineBytes (rawLine x) = x.take (18 + lineSz x)) = True from eq_true hsame) ?_
      refine x_lda H st103 ?_; refine ve (And.intro (lo_kl (i := 18) 18 hkl (by decide) rfl rfl) (lo_k (k := k + 18) (n := lineSz x) (m := k + (18 + lineSz x)) (by omega) (by omega) (by omega))) ?_; refine x_sta H st103 (vs := [.int .i64 (be x 0 : Int), .string _, .int .i64 (be x 9 : Int), .int .i64 (w4 (x.getD 10 0) (x.getD 11 0) (x.getD 12 0) (x.getD 13 0)), u9]) (h1 := hone) fun w10 H => vs ?_; unfold LineR; rw [lineOf_some hk (by rw [hX]; exact lineAt_yes (by omega) (by omega) hsame)]; exact ⟨_, _, rfl, res_cell H st103, _, _, rfl, H.only⟩
    · refine ve hsame ?_
      refine x_build bl103 [.int .i64 0, .string ⟨#[]⟩, .int .i64 0, .int .i64 0, .slice none 0 0] ?_; refine vs ?_; have H := H.nothing (zLine_cells w8); refine x_sta H st103 (vs := [.int .i64 0, .string ⟨#[]⟩, .int .i64 0, .int .i64 0, .slice none 0 0]) (h1 := Kd.one _ (H.own (.head _))) fun w10 H => vs ?_; unfold LineR; rw [lineOf_none (by rw [hX]; exact lineAt_no fun hh => hsame hh.2.2)]; exact ⟨_, _, rfl, res_cell H st103, _, _, rfl, H.head⟩
  · refine ve (show ¬ (be x 0 : Int) = 3 by omega) ?_
    have er := rawLine_route hK; have H := H.front (c := Ck.own (bytes 5) f9' [u9] ((x.drop 16).take (lineSz x))); obtain ⟨fl, H⟩ := ownLine (rawLine x) H (rawLine_rng x).1 (rawLine_rng x).2.1 (rawLine_rng x).2.2.1 (rawLine_rng x).2.2.2; rw [er] at H; have hsml := rawLine_small x; have ho := H.own (.head _); have hone := Kd.one _ ho; have J := Sep.start w5; refine draw_of [(0, true), (2, true), (3, true), (4, true), (5, true), (6, true), (7, true), (8, true), (1, false), (9, false), (10, true)] w5.heap.size [] fun w7 hh hb7 => vs ?_; have J := J.go (hb7 _); have J3 := J; refine q_ldaB H J3 st103 ?_; refine vs ?_; refine ve (And.intro (lo_kl (i := 18) 18 hkl (by decide) rfl rfl) (lo_k (k := k + 18) (n := lineSz x) (m := k + (18 + lineSz x)) (by omega) (by omega) (by omega))) ?_; refine q_subN sl22 rfl k (k + (18 + lineSz x)) hv rfl rfl (by omega) (by omega) fun vend hve => vs ?_; rw [show k + (18 + lineSz x) - k = 18 + lineSz x by omega, hX] at hve; refine x_callf J (specLineBytes_ok w7 _ (rawLine x) (J.rd ho) (by omega) (by omega)) fun rb fb w8 J => vs ?_; refine ⟨kept_base J3 J, ?_⟩; refine x_callw (specSame_ok w8 _ _ _ _ (J.own (.head _)) (J.rd (H.rd hve))) ?_; refine ⟨kept_base J3 J, ?_⟩; have H := H.join J; simp only [List.cons_append, List.nil_append] at H
    by_cases hsame : lineBytes (rawLine x) = x.take (18 + lineSz x)
    · refine ve (show (lineBytes (rawLine x) = x.take (18 + lineSz x)) = True from eq_true hsame) ?_
      refine x_lda H st103 ?_; refine ve (And.intro (lo_kl (i := 18) 18 hkl (by decide) rfl rfl) (lo_k (k := k + 18) (n := lineSz x) (m := k + (18 + lineSz x)) (by omega) (by omega) (by omega))) ?_; refine x_sta H st103 (vs := [.int .i64 (be x 0 : Int), .string _, .int .i64 (be x 9 : Int), .int .i64 (w4 (x.getD 10 0) (x.getD 11 0) (x.getD 12 0) (x.getD 13 0)), u9]) (h1 := hone) fun w10 H => vs ?_; unfold LineR; rw [lineOf_some hk (by rw [hX]; exact lineAt_yes (by omega) (by omega) hsame)]; exact ⟨_, _, rfl, res_cell H st103, _, _, rfl, H.only⟩
    · refine ve hsame ?_
      refine x_build bl103 [.int .i64 0, .string ⟨#[]⟩, .int .i64 0, .int .i64 0, .slice none 0 0] ?_; refine vs ?_; have H := H.nothing (zLine_cells w8); refine x_sta H st103 (vs := [.int .i64 0, .string ⟨#[]⟩, .int .i64 0, .int .i64 0, .slice none 0 0]) (h1 := Kd.one _ (H.own (.head _))) fun w10 H => vs ?_; unfold LineR; rw [lineOf_none (by rw [hX]; exact lineAt_no fun hh => hsame hh.2.2)]; exact ⟨_, _, rfl, res_cell H st103, _, _, rfl, H.head⟩
section
variable {P : Program} {w : World} {K : Value → World → Prop} {tg : Tg K} {t e sz by_ : Nat} {z : Value}
end
theorem take_filter {α : Type} {l : List α} {q : α → Bool} {j : Nat} (hj : j < l.length) : (l.take (j + 1)).filter q = (l.take j).filter q ++ (if q l[j] = true then [l[j]] else []) := by
  rw [List.take_succ_eq_append_getElem hj, List.filter_append]
  congr 1
  by_cases h : q l[j] = true
  · simp [h]
  · simp [h]

section
variable {P : Program} {w : World} {K : Value → World → Prop} {KQ : Value → Prop} {tg : Tg K} {t e sz by_ : Nat} {z : Value}
end
theorem qAt_twin {l : List MItem} {k : Nat} (hk : k < l.length) (h0 : 0 < l[k].f_Topic) {j : Nat} (hj : j < k) (ht : twin l[k] (l[j]'(by omega)) = true) : qAt l k = false := by
  have e : (l.take k).any (twin l[k]) = true := List.any_eq_true.2 ⟨l[j]'(by omega), List.mem_take_iff_getElem.2 ⟨j, by omega, rfl⟩, ht⟩; unfold qAt; rw [itAt_eq hk, decide_eq_true h0, e]
  simp
theorem qAt_fine {l : List MItem} {k : Nat} (hk : k < l.length) (hok : itemOk l[k] = true) (h4 : ofN l l[k].f_Route ≤ 4) (ht : ∀ j (hj : j < k), ¬ (twin l[k] (l[j]'(by omega)) = true ∧ 0 < l[k].f_Topic)) : qAt l k = true := by
  unfold qAt; rw [itAt_eq hk, hok, decide_eq_true h4]
  by_cases h0 : 0 < l[k].f_Topic
  · have e : (l.take k).any (twin l[k]) = false := by
      rw [Bool.eq_false_iff]; intro ha; obtain ⟨y, hy, hp⟩ := List.any_eq_true.1 ha; obtain ⟨j, hj, rfl⟩ := List.mem_take_iff_getElem.1 hy; exact ht j (by omega) ⟨hp, h0⟩
    rw [e]; simp
  · rw [decide_eq_false h0]; simp
theorem specQueueOk_ok (w : World) (v : Value) (l : List MItem) (h : items.rd w w.heap.size [v] l) (hs : smItemS l) :
    ACalls Tryz.prog 85 #[v] w fun q w' => q = .bool (queueOk l) ∧ Below w.heap.size w w' := by
  have hlm := sl_len h; have h9 := h; obtain ⟨A, c, rfl, hc1, hc2, ha⟩ := sl_open h; refine body_of follows Tryz.func85 rfl rfl _ rfl (by kernel_rfl) (vs ?_)
  refine loop_at (σ := Nat) (fun k => [(0, .slice A l.length c), (3, .int .i64 (k : Int))])
    (fun k w' => k ≤ l.length ∧ (∀ i, i < k → qAt l i = true) ∧ Sep w.heap.size w w' []) (fun k => l.length - k) 0 (vs trivial) ⟨Nat.zero_le _, fun i h => absurd h (Nat.not_lt_zero i), Sep.start w⟩ ?_
  rintro k s w2 ⟨hk, hall, H⟩; refine vs (ways ?_ ?_)
  · refine vh fun hlt => ?_
    have hk2 : k < l.length := by omega
    have hsm := hs.2 l[k] (List.getElem_mem hk2); unfold smItem at hsm; have eit := itAt_eq hk2; refine x_ele H sl30 rfl k hk2 ha rfl fun ad es hb hr hc => vs ?_; refine x_lds st28 hc (Kd.len _ hr) (vs ?_); refine x_callb H (specItemOk_ok w2 _ l[k] (H.rd hr) (by omega)) fun w3 H => ?_
    cases hok : itemOk l[k] with
    | false =>
      refine vs ?_; rw [queueOk_bad hk2 (by unfold qAt; rw [eit, hok]; rfl)]; exact ⟨rfl, H.bel⟩
    | true =>
      refine vs ?_; refine x_ele H sl30 rfl k hk2 ha rfl fun ad2 es2 hb2 hr2 hc2 => vs ?_; obtain ⟨u2, rfl, _, _, _, _⟩ := kItem_open hr2; refine x_lf0 sc9 hc2 (by decide) rfl ?_; refine vs ?_; refine x_callb H (specOf_ok w3 _ l l[k].f_Route (H.rd h9)) fun w4 H => ?_
      by_cases h4 : (4 : Int) < (ofN l l[k].f_Route : Int)
      · refine ve h4 ?_
        rw [queueOk_bad hk2 (by unfold qAt; rw [eit, decide_eq_false (show ¬ ofN l l[k].f_Route ≤ 4 by omega)]; simp)]; exact ⟨rfl, H.bel⟩
      · refine ve h4 ?_
        refine loop_at (σ := Nat) (fun j => [(0, .slice A l.length c), (3, .int .i64 (k : Int)), (4, .int .i64 (j : Int))])
          (fun j w' => j ≤ k ∧ (∀ i (hi : i < k), i < j → ¬ (twin l[k] (l[i]'(by omega)) = true ∧ 0 < l[k].f_Topic)) ∧ Sep w.heap.size w w' []) (fun j => k - j) 0 (vs trivial) ⟨Nat.zero_le _, fun i hi h => absurd h (Nat.not_lt_zero i), H⟩ ?_
        rintro j s w5 ⟨hj, hno, H⟩; refine vs (ways ?_ ?_)
        · refine vh fun hlt2 => ?_
          have hj2 : j < k := by omega
          have hj3 : j < l.length := by omega
          have goon : ¬ (twin l[k] l[j] = true ∧ 0 < l[k].f_Topic) → ∀ i (hi : i < k), i < j + 1 → ¬ (twin l[k] (l[i]'(by omega)) = true ∧ 0 < l[k].f_Topic) := fun h i hi h2 => by
            by_cases h3 : i = j
            · subst h3; exact h
            · exact hno i hi (by omega)
          refine draw_of [(0, true), (1, true), (2, true), (3, true), (4, true), (5, true), (6, true), (7, true), (8, true), (9, true), (10, true), (11, true), (12, true), (13, true), (14, true), (15, true), (16, true), (17, true), (18, true), (19, true), (20, true), (21, true), (22, true), (23, true), (24, true), (25, true), (26, true), (27, true), (28, true), (29, true), (30, true), (31, true)] w.heap.size [] fun w6 hh hb6 => vs ?_; have H := H.go (hb6 _); refine q_ele H sl30 rfl j hj3 ha rfl fun ad es hb hr hc => vs ?_; obtain ⟨u1, rfl, _, _, _, _⟩ := kItem_open hr; refine q_lf0 sc9 hc (by decide) hb rfl ?_; refine vs ?_; refine q_ele H sl30 rfl k hk2 ha rfl fun ad es hb hr hc => vs ?_; obtain ⟨u2, rfl, _, _, _, _⟩ := kItem_open hr; refine q_lf0 sc9 hc (by decide) hb rfl ?_
          by_cases hR : l[j].f_Route = l[k].f_Route
          · have eR : (l[j].f_Route = l[k].f_Route) = True := eq_true hR
            refine ve eR ?_; refine q_ele H sl30 rfl j hj3 ha rfl fun ad es hb hr hc => ve eR ?_; obtain ⟨u1, rfl, _, _, _, _⟩ := kItem_open hr; refine q_lfj (j := 1) sc3 hc (by decide) hb rfl ?_; refine ve eR ?_; refine q_ele H sl30 rfl k hk2 ha rfl fun ad es hb hr hc => ve eR ?_; obtain ⟨u2, rfl, _, _, _, _⟩ := kItem_open hr; refine q_lfj (j := 1) sc3 hc (by decide) hb rfl ?_
            by_cases hT : l[j].f_Topic = l[k].f_Topic
            · have eT : (l[j].f_Topic = l[k].f_Topic) = True := eq_true hT
              have htw : twin l[k] l[j] = true := by unfold twin; rw [decide_eq_true hR, decide_eq_true hT]; rfl
              refine ve (And.intro eR eT) ?_; refine q_ele H sl30 rfl k hk2 ha rfl fun ad es hb hr hc => ve (And.intro eR eT) ?_; obtain ⟨u2, rfl, _, _, _, _⟩ := kItem_open hr; refine q_lfj (j := 1) sc3 hc (by decide) hb rfl ?_
              by_cases h0 : 0 < l[k].f_Topic
              · refine ve (And.intro (And.intro eR eT) h0) ?_
                rw [queueOk_bad hk2 (qAt_twin hk2 h0 hj2 htw)]; exact ⟨rfl, H.bel⟩
              · refine ve (And.intro (And.intro eR eT) h0) ?_
                exact ⟨j + 1, i64_eq (by unfold w64; omega), ⟨hj2, by first | exact goon fun h => h0 h.2 | exact fun _ _ _ => trivial, H⟩, by omega⟩
            · refine ve (And.intro eR hT) ?_
              exact ⟨j + 1, i64_eq (by unfold w64; omega), ⟨hj2, goon fun h => hT (by have := h.1; unfold twin at this; simp only [Bool.and_eq_true, decide_eq_true_eq] at this; exact this.2), H⟩, by omega⟩
          · refine ve hR ?_
            exact ⟨j + 1, i64_eq (by unfold w64; omega), ⟨hj2, goon fun h => hR (by have := h.1; unfold twin at this; simp only [Bool.and_eq_true, decide_eq_true_eq] at this; exact this.1), H⟩, by omega⟩
        · refine vh fun hlt2 => ?_
          refine ⟨k + 1, i64_eq (by unfold w64; omega), ⟨hk2, fun i hi => ?_, H⟩, by omega⟩
          by_cases h2 : i = k
          · subst h2; exact qAt_fine hk2 hok (by omega) fun q hq => hno q hq (by omega)
          · exact hall i (by omega)
  · refine vh fun hlt => ?_
    obtain rfl : k = l.length := by omega
    refine ⟨?_, H.bel⟩
    have : queueOk l = decide ((l.length : Int) ≤ 10) := by
      by_cases hl : l.length ≤ 10
      · rw [queueOk_iff.2 ⟨hl, hall⟩]; exact (decide_eq_true (by omega)).symm
      · rw [queueOk_long hl]; exact (decide_eq_false (by omega)).symm
    rw [this]
theorem sm_filter {q : List MItem} {p : MItem → Bool} (hs : smItemS q) : smItemS (q.filter p) :=
  ⟨Nat.le_trans (List.length_filter_le ..) hs.1, fun y hy => hs.2 y (List.mem_filter.1 hy).1⟩
theorem sm_put {q : List MItem} {x : MItem} (hs : smItemS q) (hx : smItem x) (hl : q.length ≤ 1000000) : smItemS (putL q x) := by
  refine ⟨by have := putL_len q x; omega, fun y hy => ?_⟩; unfold putL at hy
  rcases List.mem_append.1 hy with hy | hy
  · exact hs.2 y (List.mem_filter.1 hy).1
  · rw [List.mem_singleton] at hy; subst hy; exact hx
theorem put_yes {q : List MItem} {x : MItem} (h : queueOk (putL q x) = true) : put q x = (putL q x, true) := by unfold put; rw [if_pos h]
theorem put_no {q : List MItem} {x : MItem} (h : queueOk (putL q x) = false) : put q x = (q, false) := by unfold put; rw [if_neg (by rw [h]; decide)]
theorem filt_take {α : Type} {l : List α} {p : α → Bool} {j : Nat} (hj : j < l.length) (h : p l[j] = true) : (l.take (j + 1)).filter p = (l.take j).filter p ++ [l[j]] := by rw [take_filter hj, if_pos h]
theorem filt_skip {α : Type} {l : List α} {p : α → Bool} {j : Nat} (hj : j < l.length) (h : p l[j] = false) : (l.take (j + 1)).filter p = (l.take j).filter p := by rw [take_filter hj, if_neg (by rw [h]; decide), List.append_nil]
theorem filt_len {α : Type} (l : List α) (p : α → Bool) (j : Nat) : ((l.take j).filter p).length ≤ l.length := Nat.le_trans (List.length_filter_le ..) (by rw [List.length_take]; omega)
theorem specPut_ok (w : World) (v : Value) (q : List MItem) (cs : List Value) (x : MItem) (h : items.rd w w.heap.size [v] q) (hx : kItem.rd w w.heap.size cs x) (hs : smItemS q) (hsx : smItem x) (hl : q.length ≤ 1000000) :
    ACalls Tryz.prog 68 #[v, .agg cs.toArray] w fun r w' => ∃ v' fp, r = .tuple #[v', .bool (put q x).2] ∧ Sep w.heap.size w w' [Ck.own items fp [v'] (put q x).1] := by
  have hsp := sm_put hs hsx hl; have h9 := h; obtain ⟨u, rfl, q0, q1, q2, q3⟩ := kItem_open hx; obtain ⟨A, c, rfl, hc1, hc2, ha⟩ := sl_open h; have H := Sep.start w; refine body_of follows Tryz.func68 rfl rfl _ rfl (by kernel_rfl) (vs ?_); refine x_bx H [.string ⟨(x.f_Route).toArray⟩, .int .i64 x.f_Topic, .int .i64 x.f_Due, u] fun g1 w1 H => vs ?_; refine x_empO (d := kItem) H sl30 fun g2 w2 H => vs ?_
  refine loop_at (σ := Nat × Value × List Nat) (fun y => [(0, .slice A q.length c), (3, .pointer (some ⟨g1, 0, none⟩)), (6, y.2.1), (7, .int .i64 (y.1 : Int))])
    (fun y w' => y.1 ≤ q.length ∧ Sep w.heap.size w w' [Ck.own items y.2.2 [y.2.1] ((q.take y.1).filter (keepP x)), Ck.box g1 [.string ⟨(x.f_Route).toArray⟩, .int .i64 x.f_Topic, .int .i64 x.f_Due, u] 28]) (fun y => q.length - y.1) (0, _, _) (vs trivial) ⟨Nat.zero_le _, H⟩ ?_
  rintro ⟨k, v', fp⟩ s w3 ⟨hk, H⟩; dsimp only at hk H; refine vs (ways ?_ ?_)
  · refine vh fun hlt => ?_
    have hk2 : k < q.length := by omega
    have hsm := hs.2 q[k] (List.getElem_mem hk2); have hfl := filt_len q (keepP x) k; have H3 := H; refine draw_of [(0, true), (1, true), (2, true), (3, true), (4, true), (5, true), (6, true), (7, true), (8, true), (9, true), (10, true), (11, true), (12, true), (13, true), (14, true), (15, true), (16, true), (17, true), (18, true), (19, true), (20, true), (21, true), (22, true)] w3.heap.size [] fun w4 hh hb4 => vs ?_; have J := (Sep.start w3).go (hb4 _); have H := H3.go (hb4 _); refine q_ldB H3 J sc3 ?_
    by_cases h0 : x.f_Topic ≤ 0
    · have kp : keepP x q[k] = true := by unfold keepP; rw [decide_eq_false (show ¬ 0 < x.f_Topic by omega)]; rfl
      refine ve h0 ?_; refine x_ele H sl30 rfl k hk2 ha rfl fun ad es hb hr hc => vs ?_; refine x_lds st28 hc (Kd.len _ hr) (vs ?_); refine x_call (l13Item_ok w4 _ q[k] (H.rd hr) hsm) fun _ w5 ⟨cs5, f5, e, S⟩ => ?_; subst e; have H := H.join S; simp only [List.cons_append, List.nil_append] at H; refine vs ?_; refine x_lst1 sl30 H rfl rfl fun f6 v6 w6 H => vs ?_; refine x_appO sl30 H rfl ?_ ?_ fun f7 v7 w7 H => vs ?_
      · simp only [List.length_cons, List.length_nil]; omega
      · simp only [List.length_cons, List.length_nil]; omega
      refine ⟨(k + 1, v7, f7), ⟨rfl, i64_eq (by show w64 ((k : Int) + 1) = ((k + 1 : Nat) : Int); unfold w64; omega)⟩, ⟨hk2, ?_⟩, by show q.length - (k + 1) < q.length - k; omega⟩
      show Sep _ _ _ [Ck.own _ f7 [v7] ((q.take (k + 1)).filter (keepP x)), _]
      rw [filt_take hk2 (kp)]; exact H
    · refine ve h0 ?_
      refine q_ele H sl30 rfl k hk2 ha rfl fun ad es hb hr hc => ve h0 ?_; obtain ⟨u1, rfl, _, _, _, _⟩ := kItem_open hr; refine q_lf0 sc9 hc (by decide) (Nat.lt_of_lt_of_le hb H3.ns) rfl ?_; refine ve h0 ?_; refine q_ldB H3 J sc9 ?_
      by_cases hR : q[k].f_Route = x.f_Route
      · have eR : (q[k].f_Route = x.f_Route) = True := eq_true hR
        refine ve (And.intro h0 eR) ?_; refine q_ele H sl30 rfl k hk2 ha rfl fun ad es hb hr hc => ve (And.intro h0 eR) ?_; obtain ⟨u1, rfl, _, _, _, _⟩ := kItem_open hr; refine q_lfj (j := 1) sc3 hc (by decide) (Nat.lt_of_lt_of_le hb H3.ns) rfl ?_; refine ve (And.intro h0 eR) ?_; refine q_ldB H3 J sc3 ?_
        by_cases hT : q[k].f_Topic = x.f_Topic
        · have eT : (q[k].f_Topic = x.f_Topic) = True := eq_true hT
          have kp : keepP x q[k] = false := by unfold keepP twin; rw [decide_eq_true (show 0 < x.f_Topic by omega), decide_eq_true hR, decide_eq_true hT]; rfl
          refine ve (And.intro h0 (And.intro eR eT)) ?_; refine ⟨(k + 1, v', fp), ⟨rfl, i64_eq (by show w64 ((k : Int) + 1) = ((k + 1 : Nat) : Int); unfold w64; omega)⟩, ⟨hk2, ?_⟩, by show q.length - (k + 1) < q.length - k; omega⟩
          show Sep _ _ _ [Ck.own _ fp [v'] ((q.take (k + 1)).filter (keepP x)), _]
          rw [filt_skip hk2 kp]; exact H
        · have kp : keepP x q[k] = true := by unfold keepP twin; rw [decide_eq_false hT]; simp
          refine ve (And.intro h0 (And.intro eR hT)) ?_; refine x_ele H sl30 rfl k hk2 ha rfl fun ad es hb hr hc => vs ?_; refine x_lds st28 hc (Kd.len _ hr) (vs ?_); refine x_call (l13Item_ok w4 _ q[k] (H.rd hr) hsm) fun _ w5 ⟨cs5, f5, e, S⟩ => ?_; subst e; have H := H.join S; simp only [List.cons_append, List.nil_append] at H; refine vs ?_; refine x_lst1 sl30 H rfl rfl fun f6 v6 w6 H => vs ?_; refine x_appO sl30 H rfl ?_ ?_ fun f7 v7 w7 H => vs ?_
          · simp only [List.length_cons, List.length_nil]; omega
          · simp only [List.length_cons, List.length_nil]; omega
          refine ⟨(k + 1, v7, f7), ⟨rfl, i64_eq (by show w64 ((k : Int) + 1) = ((k + 1 : Nat) : Int); unfold w64; omega)⟩, ⟨hk2, ?_⟩, by show q.length - (k + 1) < q.length - k; omega⟩
          show Sep _ _ _ [Ck.own _ f7 [v7] ((q.take (k + 1)).filter (keepP x)), _]
          rw [filt_take hk2 (kp)]; exact H
      · have kp : keepP x q[k] = true := by unfold keepP twin; rw [decide_eq_false hR]; simp
        refine ve (And.intro h0 hR) ?_; refine x_ele H sl30 rfl k hk2 ha rfl fun ad es hb hr hc => vs ?_; refine x_lds st28 hc (Kd.len _ hr) (vs ?_); refine x_call (l13Item_ok w4 _ q[k] (H.rd hr) hsm) fun _ w5 ⟨cs5, f5, e, S⟩ => ?_; subst e; have H := H.join S; simp only [List.cons_append, List.nil_append] at H; refine vs ?_; refine x_lst1 sl30 H rfl rfl fun f6 v6 w6 H => vs ?_; refine x_appO sl30 H rfl ?_ ?_ fun f7 v7 w7 H => vs ?_
        · simp only [List.length_cons, List.length_nil]; omega
        · simp only [List.length_cons, List.length_nil]; omega
        refine ⟨(k + 1, v7, f7), ⟨rfl, i64_eq (by show w64 ((k : Int) + 1) = ((k + 1 : Nat) : Int); unfold w64; omega)⟩, ⟨hk2, ?_⟩, by show q.length - (k + 1) < q.length - k; omega⟩
        show Sep _ _ _ [Ck.own _ f7 [v7] ((q.take (k + 1)).filter (keepP x)), _]
        rw [filt_take hk2 (kp)]; exact H
  · refine vh fun hlt => ?_
    obtain rfl : k = q.length := by omega
    rw [List.take_length] at H; have hfl := List.length_filter_le (keepP x) q; refine x_lda H st28 ?_; refine vs ?_; refine x_call (l13Item_ok w3 _ x (H.rd hx) hsx) fun _ w5 ⟨cs5, f5, e, S⟩ => ?_; subst e; have H := H.join S; simp only [List.cons_append, List.nil_append] at H; refine vs ?_; refine x_lst1 sl30 H rfl rfl fun f6 v6 w6 H => vs ?_; refine x_appO sl30 H rfl ?_ ?_ fun f7 v7 w7 H => vs ?_
    · simp only [List.length_cons, List.length_nil]; omega
    · simp only [List.length_cons, List.length_nil]; omega
    have H : Sep w.heap.size w w7 (Ck.own items f7 [v7] (putL q x) :: _) := H; refine x_callb H (specQueueOk_ok w7 v7 _ (H.own (.head _)) hsp) fun w8 H => ?_
    cases hq : queueOk (putL q x) with
    | true =>
      refine vs ?_; rw [put_yes hq]; exact ⟨_, _, rfl, H.head⟩
    | false =>
      refine vs ?_; refine x_callf H (l13Queue_ok w8 _ q (H.rd h9) hs) fun r9 f9 w9 H => vs ?_; rw [put_no hq]; exact ⟨_, _, rfl, H.head⟩
theorem specDue_ok (w : World) (v : Value) (l : List MItem) (now : Int) (h : items.rd w w.heap.size [v] l) (hs : smItemS l) :
    ACalls Tryz.prog 66 #[v, .int .i64 now] w fun r w' => ∃ fp, Sep w.heap.size w w' [Ck.own items fp [r] (due l now)] := by
  have hlm := sl_len h; have hs0 := hs.1; obtain ⟨A, c, rfl, hc1, hc2, ha⟩ := sl_open h; refine body_of follows Tryz.func66 rfl rfl _ rfl (by kernel_rfl) (vs ?_); refine x_empO (d := kItem) (Sep.start w) sl30 fun g w1 H => vs ?_
  refine loop_at (σ := Nat × Value × List Nat) (fun x => [(0, .slice A l.length c), (1, .int .i64 now), (5, x.2.1), (6, .int .i64 (x.1 : Int))])
    (fun x w' => x.1 ≤ l.length ∧ Sep w.heap.size w w' [Ck.own items x.2.2 [x.2.1] ((l.take x.1).filter (dueP now))]) (fun x => l.length - x.1) (0, _, _) (vs trivial) ⟨Nat.zero_le _, H⟩ ?_
  rintro ⟨k, v', fp⟩ s w2 ⟨hk, H⟩; dsimp only at hk H; refine vs (ways ?_ ?_)
  · refine vh fun hlt => ?_
    have hk2 : k < l.length := by omega
    have hsm := hs.2 l[k] (List.getElem_mem hk2); have hfl := filt_len l (dueP now) k; refine x_ele H sl30 rfl k hk2 ha rfl fun ad es hb hr hc => vs ?_; obtain ⟨u, rfl, _, _, _, _⟩ := kItem_open hr; refine x_lfj (j := 2) sc3 hc (by decide) rfl ?_; refine vs (ways ?_ ?_)
    · refine vh fun hge => ?_
      refine x_ele H sl30 rfl k hk2 ha rfl fun ad es hb hr hc => vs ?_; refine x_lds st28 hc (Kd.len _ hr) (vs ?_); refine x_call (l13Item_ok w2 _ l[k] (H.rd hr) hsm) fun _ w5 ⟨cs5, f5, e, S⟩ => ?_; subst e; have H := H.join S; simp only [List.cons_append, List.nil_append] at H; refine vs ?_; refine x_lst1 sl30 H rfl rfl fun f6 v6 w6 H => vs ?_; refine x_appO sl30 H rfl ?_ ?_ fun f7 v7 w7 H => vs ?_
      · simp only [List.length_cons, List.length_nil]; omega
      · simp only [List.length_cons, List.length_nil]; omega
      refine ⟨(k + 1, v7, f7), ⟨rfl, i64_eq (by show w64 ((k : Int) + 1) = ((k + 1 : Nat) : Int); unfold w64; omega)⟩, ⟨hk2, ?_⟩, by show l.length - (k + 1) < l.length - k; omega⟩
      show Sep _ _ _ [Ck.own _ f7 [v7] ((l.take (k + 1)).filter (dueP now))]
      rw [filt_take hk2 (by unfold dueP; exact decide_eq_true hge)]; exact H
    · refine vh fun hge => ?_
      refine ⟨(k + 1, v', fp), ⟨rfl, i64_eq (by show w64 ((k : Int) + 1) = ((k + 1 : Nat) : Int); unfold w64; omega)⟩, ⟨hk2, ?_⟩, by show l.length - (k + 1) < l.length - k; omega⟩
      show Sep _ _ _ [Ck.own _ fp [v'] ((l.take (k + 1)).filter (dueP now))]
      rw [filt_skip hk2 (by unfold dueP; exact decide_eq_false hge)]; exact H
  · refine vh fun hlt => ?_
    obtain rfl : k = l.length := by omega
    rw [List.take_length] at H; exact ⟨_, H⟩
theorem sm_erase {q : List MItem} (hs : smItemS q) (i : Nat) : smItemS (q.eraseIdx i) :=
  ⟨Nat.le_trans (List.length_eraseIdx_le ..) hs.1, fun y hy => hs.2 y (List.mem_of_mem_eraseIdx hy)⟩
theorem specTake_ok (w : World) (v : Value) (q : List MItem) (r : List UInt8) (h : items.rd w w.heap.size [v] q) (hs : smItemS q) :
    ACalls Tryz.prog 63 #[v, .string ⟨r.toArray⟩] w fun z w' => ∃ cs f1 v' f2, z = .tuple #[.agg cs.toArray, v', .bool (takeQ q r).2.2] ∧ Sep w.heap.size w w' [Ck.own items f2 [v'] (takeQ q r).2.1, Ck.own kItem f1 cs (takeQ q r).1] := by
  have hlm := sl_len h; have hs0 := hs.1; have h9 := h; obtain ⟨A, c, rfl, hc1, hc2, ha⟩ := sl_open h; have H := Sep.start w; refine body_of follows Tryz.func63 rfl rfl _ rfl (by kernel_rfl) (vs ?_); refine x_al H st28 fun g2 w2 H => vs ?_
  refine loop_at (σ := Nat) (fun k => [(0, .slice A q.length c), (1, .string ⟨r.toArray⟩), (4, .pointer (some ⟨g2, 0, none⟩)), (7, .int .i64 (k : Int))])
    (fun k w' => k ≤ q.length ∧ (∀ i (hi : i < q.length), i < k → hasR r q[i] = false) ∧ Sep w.heap.size w w' [Ck.box g2 [.string ⟨#[]⟩, .int .i64 0, .int .i64 0, .slice none 0 0] 28]) (fun k => q.length - k) 0 (vs trivial) ⟨Nat.zero_le _, fun i hi h => absurd h (Nat.not_lt_zero i), H⟩ ?_
  rintro k s w3 ⟨hk, hno, H⟩; refine vs (ways ?_ ?_)
  · refine vh fun hlt => ?_
    have hk2 : k < q.length := by omega
    refine x_ele H sl30 rfl k hk2 ha rfl fun ad es hb hr hc => vs ?_; obtain ⟨u, rfl, _, _, _, _⟩ := kItem_open hr; refine x_lf0 sc9 hc (by decide) rfl ?_; refine vs (ways ?_ ?_)
    · refine vh fun he => ?_
      have et := takeQ_some hk2 (takeAt_some hk2 (by unfold hasR; exact decide_eq_true he) hno); rw [et]; have hs1 : smItemS (q.take k) := ⟨by rw [List.length_take]; omega, fun y hy => hs.2 y (List.mem_of_mem_take hy)⟩; have hs2 : smItemS (q.drop (k + 1)) := ⟨by rw [List.length_drop]; omega, fun y hy => hs.2 y (List.mem_of_mem_drop hy)⟩; refine draw_of [(0, true), (1, true), (2, true), (4, true), (5, true), (6, true), (7, true), (3, false), (8, false), (9, false), (10, true)] w.heap.size [] fun w4 hh hb4 => vs ?_; have H := H.go (hb4 _); have H3 := H; refine q_to sl30 rfl h9 (hi := k) (by omega) fun v5 hv5 => vs ?_; refine ve (show w64 ((k : Int) + 1) = ((k + 1 : Nat) : Int) by unfold w64; omega) ?_; refine q_from sl30 rfl h9 (lo := k + 1) (by omega) fun v6 hv6 => vs ?_; refine x_callf H (l13Queue_ok w4 v5 _ (H.rd hv5) hs1) fun r5 f5 w5 H => vs ?_; refine ⟨kept_base H3 H, ?_⟩; refine x_callf H (l13Queue_ok w5 v6 _ (H.rd hv6) hs2) fun r6 f6 w6 H => vs ?_; refine ⟨kept_base H3 H, ?_⟩; refine x_appO sl30 H rfl ?_ ?_ fun f7 v7 w7 H => vs ?_
      · simp only [List.length_take, List.length_drop]; omega
      · simp only [List.length_take, List.length_drop]; omega
      refine ⟨kept_base H3 H, ?_⟩; refine x_ele H sl30 rfl k hk2 ha rfl fun ad es hb hr hc => vs ?_; refine x_lds st28 hc (Kd.len _ hr) (vs ?_); refine x_call (l13Item_ok w7 _ q[k] (H.rd hr) (hs.2 _ (List.getElem_mem hk2))) fun _ w8 ⟨cs5, f5, e, S⟩ => ?_; subst e; have H := H.join S; simp only [List.cons_append, List.nil_append] at H; have hone := Kd.one _ (H.own (.head _)); obtain ⟨u5, e5, _⟩ := kItem_open (H.own (.head _)); subst e5; refine vs ?_; refine x_sta H st28 (h1 := hone) fun w9 H => vs ?_; rw [← List.eraseIdx_eq_take_drop_succ] at H; exact ⟨_, _, rfl, res_cell H st28, _, _, _, _, rfl, H.two (.there .here) .here⟩
    · refine vh fun he => ?_
      refine ⟨k + 1, i64_eq (by unfold w64; omega), ⟨hk2, fun i hi h => ?_, H⟩, by omega⟩
      by_cases h2 : i = k
      · subst h2; unfold hasR; exact decide_eq_false he
      · exact hno i hi (by omega)
  · refine vh fun hlt => ?_
    have et := takeQ_none (takeAt_none (r := r) fun j hj => hno j hj (by omega)); rw [et]; refine x_build bl28 [.string ⟨#[]⟩, .int .i64 0, .int .i64 0, .slice none 0 0] ?_; refine vs ?_; refine x_callf H (l13Queue_ok w3 _ q (H.rd h9) hs) fun r5 f5 w5 H => vs ?_; have H := H.nothing (kItem_zero w5); refine x_sta H st28 (h1 := Kd.one _ (H.own (.head _))) fun w7 H => vs ?_; exact ⟨_, _, rfl, res_cell H st28, _, _, _, _, rfl, H.two (.there .here) .here⟩
def QI (q : List MItem) : Prop := q.length ≤ 10 ∧ ∀ x ∈ q, itemOk x = true
theorem itemOk_sm {x : MItem} (h : itemOk x = true) : smItem x := by
  have h2 := itemOk_iff.1 h
  have h3 : x.f_Route.length = 16 := by
    have := h2.1; unfold isRoute at this; simp only [Bool.and_eq_true, decide_eq_true_eq] at this; exact this.2
  exact ⟨by omega, by have := h2.2.2.2; omega⟩
theorem QI.sm {q : List MItem} (h : QI q) : smItemS q := ⟨by have := h.1; omega, fun y hy => itemOk_sm (h.2 y hy)⟩
theorem QI_nil : QI [] := ⟨by simp, fun x hx => by simp at hx⟩
theorem QI_put {q : List MItem} {x : MItem} (h : QI q) : QI (put q x).1 := by
  unfold put
  split
  · rename_i hq
    exact ⟨(queueOk_iff.1 hq).1, queueOk_item hq⟩
  · exact h
theorem QI_take {q : List MItem} {r : List UInt8} (h : QI q) : QI (takeQ q r).2.1 := by
  unfold takeQ
  split
  · exact ⟨Nat.le_trans (List.length_eraseIdx_le ..) h.1, fun x hx => h.2 x (List.mem_of_mem_eraseIdx hx)⟩
  · exact h
theorem QI_due {q : List MItem} {n : Int} (h : QI q) : QI (due q n) :=
  ⟨Nat.le_trans (List.length_filter_le ..) h.1, fun x hx => h.2 x (List.mem_filter.1 hx).1⟩
theorem QI_step {q : List MItem} {n : Int} {l : MLine} (h : QI q) : QI (lineStep q n l).1 := by
  unfold lineStep
  split
  · exact QI_put h
  · split
    · exact QI_take h
    · split
      · split
        · exact QI_due h
        · exact h
      · exact h
theorem now_step {q : List MItem} {n : Int} {l : MLine} (hl : lineOk l = true) (h : 0 ≤ n ∧ n ≤ 100000) : 0 ≤ (lineStep q n l).2 ∧ (lineStep q n l).2 ≤ 100000 := by
  unfold lineStep
  split
  · exact h
  · split
    · exact h
    · split
      · split
        · exact lineOk_due hl
        · exact h
      · exact h
theorem lineOk_route {l : MLine} (h : lineOk l = true) : l.f_Route.length ≤ 16 := by
  have key : ∀ s, isRoute s = true → s.length = 16 := fun s hs => by
    unfold isRoute at hs; simp only [Bool.and_eq_true, decide_eq_true_eq] at hs; exact hs.2
  rcases lineOk_kind h with k | k | k
  · rw [lineOk_1 k] at h
    have := key _ (itemOk_iff.1 h).1; have e : (itemOf l).f_Route = l.f_Route := rfl; rw [e] at this; omega
  · rw [lineOk_2 k] at h
    simp only [Bool.and_eq_true] at h; have := key _ h.1.1.1; omega
  · rw [lineOk_3 k] at h
    simp only [Bool.and_eq_true, decide_eq_true_eq] at h; rw [h.1.1.2]; simp
theorem step_1 {q : List MItem} {n : Int} {l : MLine} (k : l.f_Kind = 1) : lineStep q n l = ((put q (itemOf l)).1, n) := by unfold lineStep; rw [if_pos k]
theorem step_2 {q : List MItem} {n : Int} {l : MLine} (k : l.f_Kind = 2) : lineStep q n l = ((takeQ q l.f_Route).2.1, n) := by unfold lineStep; rw [if_neg (by omega), if_pos k]
theorem step_3 {q : List MItem} {n : Int} {l : MLine} (k : l.f_Kind = 3) (h : n ≤ l.f_Due) : lineStep q n l = (due q l.f_Due, l.f_Due) := by unfold lineStep; rw [if_neg (by omega), if_neg (by omega), if_pos k, if_pos h]
theorem step_3n {q : List MItem} {n : Int} {l : MLine} (k : l.f_Kind = 3) (h : ¬ n ≤ l.f_Due) : lineStep q n l = (q, n) := by unfold lineStep; rw [if_neg (by omega), if_neg (by omega), if_pos k, if_neg h]
theorem itemOf_sm {l : MLine} (h : lineOk l = true) : smItem (itemOf l) := ⟨by have := lineOk_route h; show l.f_Route.length ≤ _; omega, by have := lineOk_bytes h; show l.f_Bytes.length ≤ _; omega⟩
theorem l14Play_ok {n : Nat} {w0 w : World} {L : List Ck} {fp : List Nat} (v : Value) (q : List MItem) (now : Int) (cs : List Value) (l : MLine) (H : Sep n w0 w (Ck.own items fp [v] q :: L)) (h : kLine.rd w w.heap.size cs l) (hq : QI q) (hok : lineOk l = true) :
    ACalls Tryz.prog 112 #[v, .int .i64 now, .agg cs.toArray] w fun r w' => ∃ v' fp', r = .tuple #[v', .int .i64 (lineStep q now l).2] ∧ Sep n w0 w' (Ck.own items fp' [v'] (lineStep q now l).1 :: L) := by
  have hrt := lineOk_route hok; have hby := lineOk_bytes hok; have hone := Kd.one _ h; have h9 := h; obtain ⟨u, rfl, z0, z1, z2, z3, z4⟩ := kLine_open h; have hv := H.own (.head _); have J := Sep.start w; refine body_of follows Tryz.func112 rfl rfl _ rfl (by kernel_rfl) (vs ?_); refine x_bx J [.int .i64 l.f_Kind, .string ⟨(l.f_Route).toArray⟩, .int .i64 l.f_Topic, .int .i64 l.f_Due, u] fun g1 w1 J => vs ?_; refine x_ld J sc3 ?_
  by_cases k1 : l.f_Kind = 1
  · refine ve (eq_true k1) ?_
    refine x_lda J st103 ?_; refine vs ?_; refine x_call (l14Item_ok w1 _ l (J.rd h9) (by omega)) fun _ w6 ⟨cs6, f6, e, S⟩ => ?_; subst e; have J := J.join S; simp only [List.cons_append, List.nil_append] at J; refine vs ?_; refine x_call (specPut_ok w6 v q _ (itemOf l) (J.rd hv) (J.own (.head _)) hq.sm (itemOf_sm hok) (by have := hq.1; omega)) fun _ w7 ⟨v7, f7, e, S⟩ => ?_; subst e; have J := J.join S; simp only [List.cons_append, List.nil_append] at J; refine vs ?_; rw [step_1 k1]; exact ⟨_, _, rfl, (H.tail.join J.head)⟩
  by_cases k2 : l.f_Kind = 2
  · refine ve (And.intro k1 (eq_true k2)) ?_
    refine x_ld J sc9 ?_; refine vs ?_; refine x_call (specTake_ok w1 v q l.f_Route (J.rd hv) hq.sm) fun _ w7 ⟨cs7, f1, v7, f7, e, S⟩ => ?_; subst e; have J := J.join S; simp only [List.cons_append, List.nil_append] at J; refine vs ?_; rw [step_2 k2]; exact ⟨_, _, rfl, (H.tail.join J.head)⟩
  have k3 : l.f_Kind = 3 := by rcases lineOk_kind hok with k | k | k <;> omega
  refine ve (And.intro k1 (And.intro k2 (eq_true k3))) ?_; refine x_ld J sc3 ?_
  by_cases hD : now ≤ l.f_Due
  · refine ve hD ?_
    refine draw_of [(0, true), (1, true), (2, true), (4, true), (5, true), (3, false), (6, true), (7, true)] w1.heap.size [] fun w3 hh hb3 => vs ?_; have S := (Sep.start w1).go (hb3 _); have S3 := S; refine q_ldB J S3 sc3 ?_; refine vs ?_; refine q_ldB J S3 sc3 ?_; refine vs ?_; refine x_callf S (specDue_ok w3 v q l.f_Due (S.rd (J.rd hv)) hq.sm) fun v7 f7 w7 S => vs ?_; refine ⟨kept_base S3 S, ?_⟩; rw [step_3 k3 hD]; exact ⟨_, _, rfl, (H.tail.join (J.join S).head)⟩
  · refine ve hD ?_
    rw [step_3n k3 hD]; exact ⟨_, _, rfl, H.go J.bel⟩
theorem specPlay_ok (w : World) (v : Value) (b : List UInt8) (h : (bytes 5).rd w w.heap.size [v] b) (hl : b.length ≤ 1073741824) :
    ACalls Tryz.prog 84 #[v] w fun r w' => ∃ v' fp, r = .tuple #[v', .int .i64 (play b).2.1, .int .i64 ((play b).2.2 : Int)] ∧ Sep w.heap.size w w' [Ck.own items fp [v'] (play b).1] := by
  have H := Sep.start w; refine body_of follows Tryz.func84 rfl rfl _ rfl (by kernel_rfl) (vs ?_); refine x_empO (d := kItem) H sl30 fun g1 w1 H => vs ?_
  refine loop_at (σ := List MItem × Int × Nat × Value × List Nat) (fun x => [(0, v), (5, x.2.2.2.1), (6, .int .i64 x.2.1), (7, .int .i64 (x.2.2.1 : Int))])
    (fun x w' => x.2.2.1 ≤ b.length ∧ playGo (b.drop x.2.2.1) x.1 x.2.1 x.2.2.1 = play b ∧ QI x.1 ∧ (0 ≤ x.2.1 ∧ x.2.1 ≤ 100000) ∧ Sep w.heap.size w w' [Ck.own items x.2.2.2.2 [x.2.2.2.1] x.1])
    (fun x => b.length - x.2.2.1) ([], 0, 0, _, _) (vs trivial) ⟨Nat.zero_le _, rfl, QI_nil, ⟨Int.le_refl 0, by show (0 : Int) ≤ 100000; decide⟩, H⟩ ?_
  rintro ⟨q, now, k, v', fp⟩ s w2 ⟨hk, hgo, hq, hn, H⟩; dsimp only at hk hgo hq hn H; refine vs ?_; refine x_call (specLineOf_ok w2 v b k (H.rd h) hk hl) fun _ w3 R => ?_
  cases hla : lineAt (b.drop k) with
  | none =>
    unfold LineR at R; rw [lineOf_none hla] at R; obtain ⟨cs, fl, rfl, S⟩ := R; have H := H.join S; simp only [List.cons_append, List.nil_append] at H; obtain ⟨u, rfl, _⟩ := kLine_open (H.own (.head _)); refine vs ?_; refine x_al H st103 fun g4 w4 H => vs ?_; refine x_sta H st103 (h1 := Kd.one _ (H.own (.tail _ (.head _)))) fun w5 H => vs ?_; rw [← hgo, playGo_none hla]; exact ⟨_, _, rfl, H.only⟩
  | some ln =>
    obtain ⟨l, n⟩ := ln; obtain ⟨hn18, hnl, hok, hlb⟩ := lineAt_len hla; rw [List.length_drop] at hnl; unfold LineR at R; rw [lineOf_some hk hla] at R; obtain ⟨cs, fl, rfl, S⟩ := R; have H := H.join S; simp only [List.cons_append, List.nil_append] at H; rw [playGo_some hla, List.drop_drop] at hgo; have hqi := QI_step (n := now) (l := l) hq; have hns := now_step (q := q) hok hn; have hlo := H.own (.head _); have hone := Kd.one _ hlo; have hkn : k + n ≤ b.length := by omega
    obtain ⟨u, rfl, z0, z1, z2, z3, z4⟩ := kLine_open hlo; refine vs ?_; refine x_al H st103 fun g4 w4 H => vs ?_; refine x_sta H st103 (h1 := hone) fun w5 H => vs ?_; have H : Sep w.heap.size w w5 (Ck.box g4 [.int .i64 l.f_Kind, .string ⟨(l.f_Route).toArray⟩, .int .i64 l.f_Topic, .int .i64 l.f_Due, u] 103 :: _) := H; have hlo := H.own (.tail _ (.head _)); refine x_lda H st103 ?_; refine vs ?_; have H := H.front (c := Ck.own items fp [v'] q); refine x_call (l14Play_ok v' q now _ l H hlo hq hok) fun _ w6 ⟨v6, f6, e, H⟩ => ?_; subst e; refine vs ?_; exact ⟨((lineStep q now l).1, (lineStep q now l).2, k + n, v6, f6), ⟨rfl, rfl, rfl⟩, ⟨hkn, hgo, hqi, hns, H.head⟩, by show b.length - (k + n) < b.length - k; omega⟩
end Go.Proofs.YtcmckbgiiclomabGreatDoor.V
