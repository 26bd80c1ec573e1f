/- A reader read from bytes: the side of the statement. -/
import Derived.Test.YtijbmapeechcpaaWro
namespace Go.Proofs.Ytijbmapeechcpaa.V
open Go Go.RowKit
set_option maxRecDepth 100000
set_option maxHeartbeats 400000
set_option linter.unusedSimpArgs false
set_option linter.unusedVariables false
set_option pp.deepTerms false
set_option pp.deepTerms.threshold 3

theorem two_at {b : List UInt8} (q : Nat) : (b.getD q 0).toNat * 256 + (b.getD (q + 1) 0).toNat = twoB (b.drop q) := by
  unfold twoB
  simp [List.getD_eq_getElem?_getD, List.getElem?_drop]
theorem two_w64 (x y : UInt8) : w64 (w64 (256 * (x.toNat : Int)) + (y.toNat : Int)) = ((x.toNat * 256 + y.toNat : Nat) : Int) := by
  have := x.toNat_lt
  have := y.toNat_lt
  unfold w64; omega
theorem len_sub {n q : Nat} (hn : n ≤ 1099511627776) (hq : q + 2 ≤ n) : w64 (w64 ((n : Int) - (q : Int)) - 2) = ((n - q - 2 : Nat) : Int) := by
  unfold w64; omega
theorem at_two {q n : Nat} (hn : n ≤ 1099511627776) (hq : q ≤ n) : w64 ((q : Int) + 2) = ((q + 2 : Nat) : Int) := by unfold w64; omega
theorem at_one {q n : Nat} (hn : n ≤ 1099511627776) (hq : q ≤ n) : w64 ((q : Int) + 1) = ((q + 1 : Nat) : Int) := by unfold w64; omega
theorem at_all {q n m : Nat} (hn : n ≤ 1099511627776) (hq : q ≤ n) (hm : m < 65536) : w64 (w64 ((q : Int) + 2) + (m : Int)) = ((q + 2 + m : Nat) : Int) := by unfold w64; omega
theorem len_two {n : Nat} (hn : n ≤ 1099511627776) : w64 ((n : Int) - 2) = (n : Int) - 2 := by unfold w64; omega

theorem takeP_at {b : List UInt8} {q : Nat} (h : q + 2 ≤ b.length) : takeP (b.drop q) = if q + 2 + twoB (b.drop q) ≤ b.length then some ((b.drop (q + 2)).take (q + 2 + twoB (b.drop q) - (q + 2)), b.drop (q + 2 + twoB (b.drop q))) else none := by
  have hd2 : 2 ≤ (b.drop q).length := by rw [List.length_drop]; omega
  rw [takeP_eq hd2, List.drop_drop, List.drop_drop, ← Nat.add_assoc, show 2 + twoB (b.drop q) - 2 = q + 2 + twoB (b.drop q) - (q + 2) by omega]
  by_cases hc : q + 2 + twoB (b.drop q) ≤ b.length
  · rw [if_pos hc, if_pos (by rw [List.length_drop]; omega)]
  · rw [if_neg hc, if_neg (by rw [List.length_drop]; omega)]
theorem two_val (b : List UInt8) (q : Nat) : w64 (w64 (256 * ((b.getD q 0).toNat : Int)) + ((b.getD (q + 1) 0).toNat : Int)) = (twoB (b.drop q) : Int) := (two_w64 (b.getD q 0) (b.getD (q + 1) 0)).trans (congrArg _ (two_at q))
theorem all_val {b : List UInt8} {q : Nat} (hn : b.length ≤ 1099511627776) (hq : q ≤ b.length) : w64 (w64 ((q : Int) + 2) + w64 (w64 (256 * ((b.getD q 0).toNat : Int)) + ((b.getD (q + 1) 0).toNat : Int))) = ((q + 2 + twoB (b.drop q) : Nat) : Int) := by
  rw [two_val]; exact at_all hn hq (twoB_lt _)
theorem none_at {i k : Nat} {b r : List UInt8} {ls : List (List UInt8)} (h : takeN i b = some (ls, r)) (h2 : takeP r = none) (hk : i < k) : takeN k b = none := by
  have := takeN_none (takeN_bad h h2) (k - (i + 1))
  rwa [show i + 1 + (k - (i + 1)) = k by omega] at this
theorem l27Read_ok (w : World) (v : Value) (b : List UInt8) (h : (bytes 5).rd w w.heap.size [v] b) (hl : b.length ≤ 1099511627776) (p k : Nat) (hp : p ≤ b.length) (hk : k ≤ 255) :
    ACalls Try.prog 12 #[v, .int .i64 (p : Int), .int .i64 (k : Int)] w fun r w' =>
      (∃ ls q u fp, takeN k (b.drop p) = some (ls, b.drop q) ∧ q ≤ b.length ∧ r = .tuple #[u, .int .i64 (q : Int)] ∧ Sep w.heap.size w w' [Ck.own (Kd.slice 22 (bytes 5)) fp [u] ls]) ∨
      (takeN k (b.drop p) = none ∧ ∃ ls u fp, r = .tuple #[u, .int .i64 (-1)] ∧ Sep w.heap.size w w' [Ck.own (Kd.slice 22 (bytes 5)) fp [u] ls]) := by
  have hv := h
  obtain ⟨A, c, rfl, hc1, hc2, ha⟩ := sl_open h
  refine body_of follows Try.func12 rfl rfl _ rfl (by kernel_rfl) (vs ?_)
  refine x_empO (d := bytes 5) (Sep.start w) sl23 fun g w1 H => vs ?_
  refine loop_at (σ := Nat × Nat × Value × List Nat × List (List UInt8)) (fun x => [(0, .slice A b.length c), (1, .int .i64 (x.2.1 : Int)), (2, .int .i64 (k : Int)), (8, x.2.2.1), (9, .int .i64 (x.1 : Int))])
    (fun x w' => x.1 ≤ k ∧ x.2.1 ≤ b.length ∧ takeN x.1 (b.drop p) = some (x.2.2.2.2, b.drop x.2.1) ∧ Sep w.heap.size w w' [Ck.own (Kd.slice 22 (bytes 5)) x.2.2.2.1 [x.2.2.1] x.2.2.2.2])
    (fun x => k - x.1) (0, p, .slice (some ⟨g, 0, none⟩) 0 0, [g], []) (vs trivial) ⟨Nat.zero_le _, hp, rfl, H⟩ ?_
  rintro ⟨i, q, u, fp, ls⟩ s w2 ⟨hi, hq, htk, H⟩
  dsimp only at hi hq htk H
  have hls := (takeN_put htk).2
  have hq0 : ¬ ((q : Int) < 0) := by omega
  refine vs (ways ?_ ?_)
  · refine vh fun hlt => ?_
    refine ve hq0 ?_
    refine ve (len_two hl) (ways ?_ ?_)
    · refine vh fun hs => ?_
      exact .inr ⟨none_at htk (takeP_short (by rw [List.length_drop]; omega)) (by omega), _, _, _, rfl, H⟩
    refine vh fun hs => ?_
    have hs2 : q + 2 ≤ b.length := by omega
    have hT := takeP_at hs2
    have hN := twoB_lt (b.drop q)
    refine draw_of [(0, true), (1, true), (2, true), (3, true), (4, true), (5, true), (6, true), (7, true), (8, true), (9, true), (10, true), (11, true), (12, true), (13, true)] w.heap.size [] fun w3 hh3 hb3 => vs ?_
    have H := H.go (hb3 _)
    refine q_elV pl_u8 sl22 q (ha.mono H.bel) (getD_at (z := 0) (by omega)) rfl rfl fun ad hb hc _ => vs ?_
    refine qx_load sc5 hc hb (by simp) (vs ?_)
    refine q_elV pl_u8 sl22 (q + 1) (ha.mono H.bel) (getD_at (z := 0) (by omega)) (at_one hl hq) rfl fun ad hb hc _ => vs ?_
    refine qx_load sc5 hc hb (by simp) (vs ?_)
    refine ve (two_val b q) ?_
    refine ve (len_sub hl hs2) (ways ?_ ?_)
    · refine vh fun hs => ?_
      exact .inr ⟨none_at htk (by rw [hT, if_neg (by omega)]) (by omega), _, _, _, rfl, H⟩
    refine vh fun hs => ?_
    have hs3 : q + 2 + twoB (b.drop q) ≤ b.length := by omega
    rw [if_pos hs3] at hT
    have hlx : ((b.drop (q + 2)).take (q + 2 + twoB (b.drop q) - (q + 2))).length ≤ 65536 := by rw [List.length_take]; omega
    refine x_emp H pl_u8 sl22 fun g5 w5 H => vs ?_
    refine x_subE sl22 rfl (q + 2) (q + 2 + twoB (b.drop q)) hv (at_two hl hq) (all_val hl hq) (by omega) hs3 fun v6 hr6 => vs ?_
    refine x_app H pl_u8 sl22 (l := []) (H.rd hr6) ?_ ?_ fun f7 v7 w7 H => vs ?_
    · simp only [List.length_nil]; omega
    · simp only [List.length_nil]; omega
    refine x_lst1 sl23 H (cells_one (Kd.one _ (H.own (.head _)) _ (by simp))) rfl fun f8 v8 w8 H => vs ?_
    refine x_appO sl23 H rfl ?_ ?_ fun f9 v9 w9 H => vs ?_
    · simp only [List.length_cons, List.length_nil]; omega
    · simp only [List.length_cons, List.length_nil]; omega
    refine ⟨(i + 1, q + 2 + twoB (b.drop q), v9, f9, ls ++ [(b.drop (q + 2)).take (q + 2 + twoB (b.drop q) - (q + 2))]), ⟨i64_eq (all_val hl hq), rfl, i64_eq (by show w64 ((i : Int) + 1) = ((i + 1 : Nat) : Int); exact w64_succ (b := 1048576) (by omega) (by omega))⟩, ⟨by dsimp only; omega, hs3, takeN_ok htk hT, H⟩, by show k - (i + 1) < k - i; omega⟩
  · refine vh fun hlt => ?_
    obtain rfl : i = k := by omega
    exact .inl ⟨_, _, _, _, htk, hq, rfl, H⟩
theorem l27ReadN_ok (w : World) (v : Value) (b : List UInt8) (h : (bytes 5).rd w w.heap.size [v] b) (k : Nat) (hk : k ≤ 255) (hk0 : 0 < k) :
    ACalls Try.prog 12 #[v, .int .i64 (-1), .int .i64 (k : Int)] w fun r w' => ∃ u fp, r = .tuple #[u, .int .i64 (-1)] ∧ Sep w.heap.size w w' [Ck.own (Kd.slice 22 (bytes 5)) fp [u] []] := by
  obtain ⟨A, c, rfl, hc1, hc2, ha⟩ := sl_open h
  refine body_of follows Try.func12 rfl rfl _ rfl (by kernel_rfl) (vs ?_)
  refine x_empO (d := bytes 5) (Sep.start w) sl23 fun g w1 H => vs ?_
  refine loop_at (σ := Unit) (fun x => [(0, .slice A b.length c), (1, .int .i64 (-1)), (2, .int .i64 (k : Int)), (8, .slice (some ⟨g, 0, none⟩) 0 0), (9, .int .i64 0)])
    (fun x w' => Sep w.heap.size w w' [Ck.own (Kd.slice 22 (bytes 5)) [g] [.slice (some ⟨g, 0, none⟩) 0 0] []]) (fun x => 0) () (vs trivial) H ?_
  rintro ⟨⟩ s w2 H
  refine vs (ways ?_ ?_)
  · refine vh fun hlt => ?_
    refine ve (show (-1 : Int) < 0 by decide) ?_
    exact ⟨_, _, rfl, H⟩
  · refine vh fun hlt => ?_
    omega

/-- What a read from a place answers. -/
def readQ (b : List UInt8) (p k : Nat) (ls : List (List UInt8)) (a : Int) : Prop := (∃ q, q ≤ b.length ∧ a = (q : Int) ∧ takeN k (b.drop p) = some (ls, b.drop q)) ∨ (a = -1 ∧ takeN k (b.drop p) = none)
theorem l27ReadG_ok (w : World) (v : Value) (b : List UInt8) (h : (bytes 5).rd w w.heap.size [v] b) (hl : b.length ≤ 1099511627776) (k : Nat) (a : Int) (hk : k ≤ 255) (ha : (∃ p, p ≤ b.length ∧ a = (p : Nat)) ∨ (a = -1 ∧ 0 < k)) :
    ACalls Try.prog 12 #[v, .int .i64 a, .int .i64 (k : Int)] w fun r w' => ∃ ls u fp a', r = .tuple #[u, .int .i64 a'] ∧ Sep w.heap.size w w' [Ck.own (Kd.slice 22 (bytes 5)) fp [u] ls] ∧ (∀ p : Nat, a = (p : Int) → readQ b p k ls a') ∧ (a = -1 → a' = -1) := by
  rcases ha with ⟨p, hp, rfl⟩ | ⟨rfl, hk0⟩
  · refine ACalls.mono (l27Read_ok w v b h hl p k hp hk) fun r w' R => ?_
    rcases R with ⟨ls, q, u, fp, e1, e2, e3, S⟩ | ⟨e1, ls, u, fp, e3, S⟩
    · refine ⟨ls, u, fp, _, e3, S, fun p' hp' => ?_, fun e => by omega⟩
      obtain rfl : p' = p := by omega
      exact .inl ⟨q, e2, rfl, e1⟩
    · refine ⟨ls, u, fp, _, e3, S, fun p' hp' => ?_, fun e => rfl⟩
      obtain rfl : p' = p := by omega
      exact .inr ⟨rfl, e1⟩
  · refine ACalls.mono (l27ReadN_ok w v b h k hk hk0) fun r w' R => ?_
    obtain ⟨u, fp, e3, S⟩ := R
    exact ⟨[], u, fp, _, e3, S, fun p' hp' => by omega, fun e => rfl⟩
theorem readQ_both {b : List UInt8} {m : Nat} {ls1 ls2 : List (List UInt8)} {a1 a2 : Int} (hb : 34 ≤ b.length) (hm : m = (b.getD 33 0).toNat) (h1 : readQ b 34 m ls1 a1) (h2 : ∀ p : Nat, a1 = (p : Int) → readQ b p m ls2 a2) (h3 : a1 = -1 → a2 = -1) :
    (a2 = (b.length : Int) → takeN (2 * (b.getD 33 0).toNat) (b.drop 34) = some (ls1 ++ ls2, []) ∧ ls1.length = (b.getD 33 0).toNat) ∧ (¬ a2 = (b.length : Int) → readerOf b = (zReader, false)) := by
  have e2 : 2 * (b.getD 33 0).toNat = m + m := by omega
  rcases h1 with ⟨q, hq, rfl, e⟩ | ⟨rfl, e⟩
  · have hA := takeN_add e m
    rcases h2 q rfl with ⟨q2, hq2, rfl, e3⟩ | ⟨rfl, e3⟩
    · rw [e3] at hA
      refine ⟨fun hz => ?_, fun hz => ?_⟩
      · rw [e2, hA, List.drop_of_length_le (by omega)]
        exact ⟨rfl, by rw [← hm]; exact (takeN_put e).2⟩
      · refine readerOf_rest hb (by rw [e2]; exact hA) ?_
        show 0 < (b.drop q2).length
        rw [List.length_drop]; omega
    · rw [e3] at hA
      exact ⟨fun hz => by omega, fun _ => readerOf_none hb (by rw [e2]; exact hA)⟩
  · have := h3 rfl
    subst this
    exact ⟨fun hz => by omega, fun _ => readerOf_none hb (by rw [e2]; exact takeN_none e m)⟩
theorem readQ_go {b : List UInt8} {m : Nat} {ls : List (List UInt8)} {a : Int} (h : readQ b 34 m ls a) : (∃ p, p ≤ b.length ∧ a = (p : Nat)) ∨ (a = -1 ∧ 0 < m) := by
  rcases h with ⟨q, hq, e, _⟩ | ⟨e, h⟩
  · exact .inl ⟨q, hq, e⟩
  · refine .inr ⟨e, ?_⟩
    cases m with
    | zero => cases h
    | succ m => omega
theorem q_strR {P : Program} {n : Nat} {w0 : World} {K : Value → Prop} {tg : Tg (n, ([] : List (Nat × Nat)), w0, K)} {s t e : TypeId} {v : Value} {l : List UInt8} (hs : P.underlying s = some (.slice e)) (he : P.underlying e = some (.int .u8)) (ht : P.underlying t = some .string) (hr : (bytes e).rd w0 n [v] l) (h : K (.string ⟨l.toArray⟩)) : QS P n [] w0 K tg (convert s t v) := by
  obtain ⟨A, c, rfl, h1, h2, h3⟩ := sl_open hr
  obtain ⟨_, h4⟩ := pl_u8.slRd.1 h3
  refine QS_of (fun w hw => ?_) h
  have hrd : (bytes e).rd w n [.slice A l.length c] l := ⟨A, c, rfl, h1, h2, pl_u8.slRd.2 ⟨fun _ _ => trivial, fun i hi => ?_⟩⟩
  · exact run_str hs he ht hrd
  · obtain ⟨h5, h6, h7⟩ := h4 i hi
    exact ⟨h5, h6, by rw [hw.cell (by rw [Kd.add_block]; exact h6) (by simp)]; exact h7⟩

theorem specReaderOf_ok (w : World) (v : Value) (b : List UInt8) (h : (bytes 5).rd w w.heap.size [v] b) (hl : b.length ≤ 1099511627776) :
    ACalls Try.prog 4 #[v] w fun r w' => ∃ cs fp, r = .tuple #[.agg cs.toArray, .bool (readerOf b).2] ∧ Sep w.heap.size w w' [Ck.own kReader fp cs (readerOf b).1] := by
  have hv := h
  obtain ⟨A, c, rfl, hc1, hc2, ha⟩ := sl_open h
  have H := Sep.start w
  refine body_of follows Try.func4 rfl rfl _ rfl (by kernel_rfl) (vs ?_)
  refine x_al H st25 fun g1 w1 H => vs (ways ?_ ?_)
  · refine vh fun hlt => ?_
    refine x_build bl25 [.slice none 0 0, .int .i64 0, .slice none 0 0, .slice none 0 0] ?_
    refine vs ?_
    have H := H.nothing (kReader_zero w1)
    refine x_sta H st25 (h1 := Kd.one _ (H.own (.head _))) fun w6 H => vs ?_
    rw [readerOf_short (by omega)]
    exact ⟨_, _, rfl, res_cell H st25, _, _, rfl, H.head⟩
  refine vh fun hge => ?_
  have hge2 : 34 ≤ b.length := by omega
  refine cut_at (σ := Nat × Value × List Nat) (fun x => [(0, .slice A b.length c), (2, .pointer (some ⟨g1, 0, none⟩)), (4, .pointer (some ⟨x.1, 0, none⟩))])
    (fun x w' => Sep w.heap.size w w' [Ck.box x.1 [x.2.1, .int .i64 ((b.getD 32 0).toNat : Int), .slice none 0 0, .slice none 0 0] 25, Ck.own (bytes 5) x.2.2 [x.2.1] (b.take 32), Ck.box g1 [.slice none 0 0, .int .i64 0, .slice none 0 0, .slice none 0 0] 25]) ?_ ?_
  · have J := Sep.start w1
    refine fork_draw w1.heap.size [] fun w4 hh hb4 => ?_
    have J := J.go (hb4 _)
    have J3 := J
    refine rest_pre [(1, true), (2, true), (4, true), (5, true), (6, true), (7, true)] 5 ?_
    refine vs ?_
    refine q_toE sl22 rfl 32 hv rfl (by omega) fun v1 hr1 => vs ?_
    refine q_elV pl_u8 sl22 32 (ha.mono (H.join J).bel) (getD_at (z := 0) (by omega)) rfl rfl fun ad hb hc _ => vs ?_
    refine qx_load sc5 hc (Nat.lt_of_lt_of_le hb H.bel.size) (by simp) (vs ?_)
    have h32 : (b.take 32).length ≤ 32 := by rw [List.length_take]; omega
    refine rest_fork 0 9 4 ?_ ?_
    · refine vs ?_
      refine x_emp J pl_u8 sl22 fun g5 w5 J => vs ?_
      refine ⟨kept_base J3 J, ?_⟩
      refine rest_fork 3 9 3 ?_ ?_
      · refine vs ?_
        refine x_app (l := []) J pl_u8 sl22 (J.rd (H.rd hr1)) ?_ ?_ fun f7 v7 w7 J => vs ?_
        · simp only [List.length_nil]; omega
        · simp only [List.length_nil]; omega
        refine ⟨kept_base J3 J, ?_⟩
        rw [List.nil_append] at J
        obtain ⟨A5, c5, rfl, _⟩ := sl_open (J.own (.head _))
        refine rest_end [(8, true), (9, false), (10, false)] ?_
        refine vs ?_
        refine q_bld bl25 [.slice A5 (b.take 32).length c5, .int .i64 ((b.getD 32 0).toNat : Int), .slice none 0 0, .slice none 0 0] ?_
        refine vs ?_
        refine x_al J st25 fun g6 w6 J => vs ?_
        refine ⟨kept_base J3 J, ?_⟩
        refine x_sta J st25 (h1 := by simp [Value.oneCell']) fun w7 J => vs ?_
        refine ⟨kept_base J3 J, ?_⟩
        exact ⟨(g6, _, _), vs trivial, H.join J⟩
      · refine vs ?_
        refine x_al J st25 fun g6 w6 J => vs ?_
        refine ⟨kept_base J3 J, ?_⟩
        refine rest_end [(3, false), (8, true), (10, false)] ?_
        refine vs ?_
        have J := J.front (h := .there .here)
        refine x_app (l := []) J pl_u8 sl22 (J.rd (H.rd hr1)) ?_ ?_ fun f7 v7 w7 J => vs ?_
        · simp only [List.length_nil]; omega
        · simp only [List.length_nil]; omega
        refine ⟨kept_base J3 J, ?_⟩
        rw [List.nil_append] at J
        obtain ⟨A5, c5, rfl, _⟩ := sl_open (J.own (.head _))
        refine q_bld bl25 [.slice A5 (b.take 32).length c5, .int .i64 ((b.getD 32 0).toNat : Int), .slice none 0 0, .slice none 0 0] ?_
        refine vs ?_
        refine x_sta J st25 (h1 := by simp [Value.oneCell']) fun w7 J => vs ?_
        refine ⟨kept_base J3 J, ?_⟩
        exact ⟨(g6, _, _), vs trivial, (H.join J).front (h := .there .here)⟩
    · refine vs ?_
      refine x_al J st25 fun g6 w6 J => vs ?_
      refine ⟨kept_base J3 J, ?_⟩
      refine rest_end [(0, false), (3, false), (8, true), (10, false)] ?_
      refine vs ?_
      refine x_emp J pl_u8 sl22 fun g5 w5 J => vs ?_
      refine ⟨kept_base J3 J, ?_⟩
      refine x_app (l := []) J pl_u8 sl22 (J.rd (H.rd hr1)) ?_ ?_ fun f7 v7 w7 J => vs ?_
      · simp only [List.length_nil]; omega
      · simp only [List.length_nil]; omega
      refine ⟨kept_base J3 J, ?_⟩
      rw [List.nil_append] at J
      obtain ⟨A5, c5, rfl, _⟩ := sl_open (J.own (.head _))
      refine q_bld bl25 [.slice A5 (b.take 32).length c5, .int .i64 ((b.getD 32 0).toNat : Int), .slice none 0 0, .slice none 0 0] ?_
      refine vs ?_
      refine x_sta J st25 (h1 := by simp [Value.oneCell']) fun w7 J => vs ?_
      refine ⟨kept_base J3 J, ?_⟩
      exact ⟨(g6, _, _), vs trivial, (H.join J).front (h := .there .here)⟩
  rintro ⟨g4, v4, f4⟩ s w4 H
  dsimp only at H
  have hm := (b.getD 33 0).toNat_lt
  refine vs ?_
  refine x_elV pl_u8 sl22 33 (ha.mono H.bel) (getD_at (z := 0) (by omega)) rfl rfl fun ad hb hc _ => vs ?_
  refine x_load sc5 hc (vs ?_)
  refine x_call (l27ReadG_ok w4 _ b (H.rd hv) hl (b.getD 33 0).toNat 34 (by omega) (.inl ⟨34, hge2, rfl⟩)) fun r5 w5 R => ?_
  obtain ⟨ls1, u1, f5, a1, rfl, S, R1, _⟩ := R
  have R1 := R1 34 rfl
  have H := H.join S
  simp only [List.cons_append, List.nil_append] at H
  refine vs ?_
  refine x_call (l27ReadG_ok w5 _ b (H.rd hv) hl (b.getD 33 0).toNat a1 (by omega) (readQ_go R1)) fun r6 w6 R => ?_
  obtain ⟨ls2, u2, f6, a2, rfl, S, R2, R3⟩ := R
  have H := H.join S
  simp only [List.cons_append, List.nil_append] at H
  obtain ⟨B1, B2⟩ := readQ_both hge2 rfl R1 R2 R3
  refine vs ?_
  refine x_st H sc23 (h1 := Kd.one _ (H.own (.tail _ (.head _))) _ (by simp)) (fun w7 H => vs ?_)
  refine x_st H sc23 (h1 := Kd.one _ (H.own (.head _)) _ (by simp)) (fun w8 H => vs ?_)
  have J := Sep.start w8
  refine draw_of [(0, true), (1, true), (2, true), (3, true), (4, true), (5, true), (6, false), (7, true), (8, true), (9, true), (10, true), (13, true), (14, true), (11, false), (12, false), (15, true), (16, true)] w8.heap.size [] fun w9 hh9 hb9 => vs ?_
  have J := J.go (hb9 _)
  have J3 := J
  refine ways ?_ ?_
  · refine vh fun hz => ?_
    obtain ⟨B3, B4⟩ := B1 hz
    have eS : readerR b (ls1 ++ ls2) = ⟨b.take 32, ((b.getD 32 0).toNat : Int), ls1, ls2⟩ := by
      unfold readerR; rw [← B4, List.take_left, List.drop_left]
    have H := H.front (c := Ck.own (Kd.slice 22 (bytes 5)) f5 [u1] ls1) (h := .there .here)
    have H := H.front (c := Ck.own (bytes 5) f4 [v4] (b.take 32)) (h := .there (.there (.there .here)))
    obtain ⟨fr, H⟩ := ownReader ⟨b.take 32, ((b.getD 32 0).toNat : Int), ls1, ls2⟩ H (ep_range _)
    rw [← eS] at H
    refine q_ldaB H J3 st25 ?_
    refine ve hz ?_
    refine x_callb J (specReaderOk_ok w9 _ _ (J.rd (H.own (.head _)))) fun w10 J => ?_
    refine ⟨kept_base J3 J, ?_⟩
    cases hok : readerOk (readerR b (ls1 ++ ls2)) with
    | false =>
      refine ve hz ?_
      refine ⟨kept_base J3 J, kept_base J3 J, ?_⟩
      have H := H.join J
      simp only [List.nil_append] at H
      refine x_build bl25 [.slice none 0 0, .int .i64 0, .slice none 0 0, .slice none 0 0] ?_
      refine vs ?_
      have H := H.nothing (kReader_zero w10)
      refine x_sta H st25 (h1 := Kd.one _ (H.own (.head _))) fun w11 H => vs ?_
      rw [readerOf_bad hge2 B3 hok]
      exact ⟨_, _, rfl, res_cell H st25, _, _, rfl, H.head⟩
    | true =>
      refine ve hz ?_
      refine q_ldaB H J3 st25 ?_
      refine ve hz ?_
      refine q_strR Try.underlying22 Try.underlying5 Try.underlying9 (Kd.mono _ (H.rd hv) J3.bel) ?_
      refine ve hz ?_
      refine x_callf J (specReaderBytes_ok w10 _ _ (J.rd (H.own (.head _)))) fun r11 f11 w11 J => ?_
      refine ve hz ?_
      refine ⟨kept_base J3 J, ?_⟩
      rw [reader_put hge2 B3 hok] at J
      refine x_str Try.underlying22 Try.underlying5 Try.underlying9 (J.own (.head _)) ?_
      refine ve hz ?_
      refine ⟨kept_base J3 J, ?_⟩
      have H := H.join J
      simp only [List.cons_append, List.nil_append] at H
      have H := H.front (h := .there .here)
      refine x_lda H st25 ?_
      refine vs ?_
      refine x_sta H st25 (h1 := Kd.one _ (H.own (.head _))) fun w12 H => vs ?_
      rw [readerOf_good hge2 B3 hok]
      exact ⟨_, _, rfl, res_cell H st25, _, _, rfl, H.head⟩
  · refine vh fun hz => ?_
    refine ⟨Kept.refl .., Kept.refl .., Kept.refl .., ?_⟩
    have H := H.join J
    simp only [List.nil_append] at H
    refine x_build bl25 [.slice none 0 0, .int .i64 0, .slice none 0 0, .slice none 0 0] ?_
    refine vs ?_
    have H := H.nothing (kReader_zero w9)
    refine x_sta H st25 (h1 := Kd.one _ (H.own (.head _))) fun w11 H => vs ?_
    rw [B2 hz]
    exact ⟨_, _, rfl, res_cell H st25, _, _, rfl, H.head⟩
theorem readerOk_tot {x : MReader} (h : readerOk x = true) : totReader x ≤ 200000 := by
  obtain ⟨h1, h2, h3, h4, h5⟩ := readerOk_p h
  obtain ⟨s1, s2⟩ := reader_small h
  have t1 := totL_le (tot := List.length) (l := x.f_Seen) (B := 2000) s1
  have t2 := totL_le (tot := List.length) (l := x.f_Got) (B := 2000) s2
  unfold totReader totByteSS
  omega
theorem readerOf_tot (b : List UInt8) : totReader (readerOf b).1 ≤ 200000 := by
  have hz : totReader zReader ≤ 200000 := by simp [totReader, zReader, totByteSS, totL]
  unfold readerOf
  split
  · split
    · rename_i ls _
      by_cases hok : readerOk (readerR b ls) = true
      · rw [if_pos hok]; exact readerOk_tot hok
      · rw [if_neg hok]; exact hz
    · exact hz
  · exact hz
end Go.Proofs.Ytijbmapeechcpaa.V
