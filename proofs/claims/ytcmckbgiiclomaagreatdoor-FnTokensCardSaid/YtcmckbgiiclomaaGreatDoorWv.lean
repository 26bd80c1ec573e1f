/- The words of a block, and a block taken in: both sides. Laid by a program. -/
import Derived.Test.YtcmckbgiiclomaaGreatDoorWp
namespace Go.Proofs.YtcmckbgiiclomaaGreatDoor.V
open Go Go.RowKit
set_option maxRecDepth 100000
set_option maxHeartbeats 4000000
set_option linter.unusedSimpArgs false
set_option linter.unusedVariables false
set_option pp.deepTerms false
set_option pp.deepTerms.threshold 3

theorem Words.i64 {l : List Int} (h : Words l) : ∀ x ∈ l, -9223372036854775808 ≤ x ∧ x < 9223372036854775808 := fun x hx => by have := h x hx; omega
theorem word_i64 (n : Int) : ∀ x ∈ [word n], -9223372036854775808 ≤ x ∧ x < 9223372036854775808 := (Words.one n).i64

theorem implSched_ok (w : World) (v : Value) (b : List UInt8) (h : (bytes 5).rd w w.heap.size [v] b) (hl : b.length = 64) :
    ACalls Tryz.prog 75 #[v] w fun r w' => ∃ fp, Sep w.heap.size w w' [Ck.own ints fp [r] (sched b 48)] := by
  have H := Sep.start w
  refine body_of follows Tryz.func75 rfl rfl _ rfl (by kernel_rfl) (vs ?_)
  refine x_callf H (implWords_ok w v b 16 h hl (by omega)) fun r f0 w1 H => vs ?_
  refine loop_at (σ := Nat × Value × List Nat) (fun x => [(3, x.2.1), (4, .int .i64 ((16 + x.1 : Nat) : Int))])
    (fun x w' => x.1 ≤ 48 ∧ Sep w.heap.size w w' [Ck.own ints x.2.2 [x.2.1] (sched b x.1)]) (fun x => 48 - x.1) (0, _, _) (vs ?_) ⟨Nat.zero_le _, H⟩ ?_
  · rfl
  rintro ⟨k, v', fp⟩ s w2 ⟨hk, H⟩
  dsimp only at hk H
  by_cases hlt : k < 48
  · have e0 : ((16 + k : Nat) : Int) < 64 := by omega
    have e2 : w64 (((16 + k : Nat) : Int) - 2) = ((14 + k : Nat) : Int) := by unfold w64; omega
    have e7 : w64 (((16 + k : Nat) : Int) - 7) = ((9 + k : Nat) : Int) := by unfold w64; omega
    have e15 : w64 (((16 + k : Nat) : Int) - 15) = ((1 + k : Nat) : Int) := by unfold w64; omega
    have e16 : w64 (((16 + k : Nat) : Int) - 16) = ((k : Nat) : Int) := by unfold w64; omega
    have hlen := sched_len b k
    have hw := sched_words b k
    have hmore : more (sched b k) = word (w64 (w64 (w64 (mix ((sched b k).getD (14 + k) 0) 17 19 10 true + (sched b k).getD (9 + k) 0) + mix ((sched b k).getD (1 + k) 0) 7 18 3 true) + (sched b k).getD k 0)) := by
      unfold more
      rw [hlen, show 16 + k - 2 = 14 + k by omega, show 16 + k - 7 = 9 + k by omega, show 16 + k - 15 = 1 + k by omega, show 16 + k - 16 = k by omega]
    have hsucc : sched b (k + 1) = sched b k ++ [more (sched b k)] := rfl
    generalize sched b k = L at *
    obtain ⟨A, c, rfl, hA⟩ := own_val (show ints.ow w2 fp [v'] L from H.ok _ (.head _))
    obtain ⟨g, rfl⟩ := hA (by omega)
    refine ve e0 ?_
    refine draw_of [(0, true), (1, true), (2, true), (3, true), (4, true), (5, true), (7, true), (8, true), (9, true), (10, true), (11, true), (13, true), (14, true), (15, true), (16, true), (17, true), (20, true), (21, true), (22, true), (23, true), (24, true), (6, false), (12, true), (18, false), (19, true), (25, true), (26, false), (27, false), (28, false), (29, true)] w2.heap.size [(g, 16 + k)] fun w3 hh hb3 => ve (And.intro e2 (And.intro e7 (And.intro e15 e16))) ?_
    have H := H.go (hb3 _)
    have J3 : Sep w2.heap.size w3 w3 [] := Sep.begin (Nat.le_of_eq (by rw [hh]))
    obtain ⟨A', c', he, _, _, ha⟩ := sl_open (H.own (.head _))
    cases he
    have hgl : g < w2.heap.size := by
      have := ((pl_i64.slRd.1 ha).2 0 (by omega)).2.1
      rw [adA_some, hh] at this; exact this
    have cell : ∀ j, j < L.length → w3.cell? ⟨g, j, none⟩ = some (.int .i64 (L.getD j 0)) := fun j hj => by
      have := ((pl_i64.slRd.1 ha).2 j hj).2.2
      rw [adA_some, Kd.add_plain] at this
      rw [this, List.getD_eq_getElem?_getD, List.getElem?_eq_getElem hj, Option.getD_some]
    have hE := And.intro e2 (And.intro e7 (And.intro e15 e16))
    refine qx_index sl52 rfl (by omega) (by omega) (vs ?_)
    refine qx_loadG (t := 16 + k) sc3 (cell (14 + k) (by omega)) hgl (by simp) (by omega) (ve hE ?_)
    refine qx_index sl52 rfl (by omega) (by omega) (vs ?_)
    refine qx_loadG (t := 16 + k) sc3 (cell (9 + k) (by omega)) hgl (by simp) (by omega) (ve hE ?_)
    refine qx_index sl52 rfl (by omega) (by omega) (vs ?_)
    refine qx_loadG (t := 16 + k) sc3 (cell (1 + k) (by omega)) hgl (by simp) (by omega) (ve hE ?_)
    refine qx_index sl52 rfl (by omega) (by omega) (vs ?_)
    refine qx_loadG (t := 16 + k) sc3 (cell k (by omega)) hgl (by simp) (by omega) (ve hE ?_)
    refine x_call (implMix_ok w3 (L.getD (14 + k) 0) 17 19 10 true (by omega) (by omega) (by omega) (hw.getD (14 + k))) fun _ w4 ⟨e, hb4⟩ => ?_
    subst e
    have J4 := J3.go hb4
    have H := H.go hb4
    refine vs ?_
    refine ⟨kept_baseG J3 J4, ?_⟩
    refine x_call (implMix_ok w4 (L.getD (1 + k) 0) 7 18 3 true (by omega) (by omega) (by omega) (hw.getD (1 + k))) fun _ w5 ⟨e, hb5⟩ => ?_
    subst e
    have J5 := J4.go hb5
    have H := H.go hb5
    refine vs ?_
    refine ⟨kept_baseG J3 J5, ?_⟩
    refine x_callw (implWord_ok w5 _) (vs ?_)
    refine ⟨kept_baseG J3 J5, ?_⟩
    rw [← hmore]
    refine x_lst (Sep.start w5) pl_i64 sl52 [more L] (by rw [hmore]; exact word_i64 _) fun g6 w6 JJ => vs ?_
    have J6 := J5.join JJ
    have H := H.join JJ
    simp only [List.cons_append, List.nil_append] at H
    refine ⟨kept_baseG J3 J6, ?_⟩
    refine x_appC H pl_i64 sl52 (H.own (.head _)) ?_ ?_ fun fp5 v5 w7 H hchg hkk => vs ?_
    · simp only [List.length_cons, List.length_nil]; omega
    · simp only [List.length_cons, List.length_nil]; omega
    refine ⟨kept_app (kept_baseG J3 J6) hchg (fun b hb => by simpa [Value.ownBlock] using hb) J6.ns (fun j hj => hkk g j rfl (by omega)), ?_⟩
    refine ⟨(k + 1, v5, fp5), ⟨rfl, i64_eq (by show w64 (((16 + k : Nat) : Int) + 1) = ((16 + (k + 1) : Nat) : Int); unfold w64; omega)⟩, ⟨hlt, ?_⟩, by show 48 - (k + 1) < 48 - k; omega⟩
    dsimp only
    rw [hsucc]; exact H.tail
  · have e0 : ¬ ((16 + k : Nat) : Int) < 64 := by omega
    refine ve e0 ?_
    obtain rfl : k = 48 := by omega
    exact ⟨_, H⟩

theorem specSched_ok (w : World) (v : Value) (b : List UInt8) (h : (bytes 5).rd w w.heap.size [v] b) (hl : b.length = 64) :
    ACalls Tryz.prog 90 #[v] w fun r w' => ∃ fp, Sep w.heap.size w w' [Ck.own ints fp [r] (sched b 48)] := by
  have H := Sep.start w
  refine body_of follows Tryz.func90 rfl rfl _ rfl (by kernel_rfl) (vs ?_)
  refine x_callf H (specWords_ok w v b 16 h hl (by omega)) fun r f0 w1 H => vs ?_
  refine loop_at (σ := Nat × Value × List Nat) (fun x => [(3, x.2.1), (4, .int .i64 ((16 + x.1 : Nat) : Int))])
    (fun x w' => x.1 ≤ 48 ∧ Sep w.heap.size w w' [Ck.own ints x.2.2 [x.2.1] (sched b x.1)]) (fun x => 48 - x.1) (0, _, _) (vs ?_) ⟨Nat.zero_le _, H⟩ ?_
  · rfl
  rintro ⟨k, v', fp⟩ s w2 ⟨hk, H⟩
  dsimp only at hk H
  by_cases hlt : k < 48
  · have e0 : ((16 + k : Nat) : Int) < 64 := by omega
    have e2 : w64 (((16 + k : Nat) : Int) - 2) = ((14 + k : Nat) : Int) := by unfold w64; omega
    have e7 : w64 (((16 + k : Nat) : Int) - 7) = ((9 + k : Nat) : Int) := by unfold w64; omega
    have e15 : w64 (((16 + k : Nat) : Int) - 15) = ((1 + k : Nat) : Int) := by unfold w64; omega
    have e16 : w64 (((16 + k : Nat) : Int) - 16) = ((k : Nat) : Int) := by unfold w64; omega
    have hlen := sched_len b k
    have hw := sched_words b k
    have hmore : more (sched b k) = word (w64 (w64 (w64 (mix ((sched b k).getD (14 + k) 0) 17 19 10 true + (sched b k).getD (9 + k) 0) + mix ((sched b k).getD (1 + k) 0) 7 18 3 true) + (sched b k).getD k 0)) := by
      unfold more
      rw [hlen, show 16 + k - 2 = 14 + k by omega, show 16 + k - 7 = 9 + k by omega, show 16 + k - 15 = 1 + k by omega, show 16 + k - 16 = k by omega]
    have hsucc : sched b (k + 1) = sched b k ++ [more (sched b k)] := rfl
    generalize sched b k = L at *
    obtain ⟨A, c, rfl, hA⟩ := own_val (show ints.ow w2 fp [v'] L from H.ok _ (.head _))
    obtain ⟨g, rfl⟩ := hA (by omega)
    refine ve e0 ?_
    refine draw_of [(0, true), (1, true), (2, true), (3, true), (4, true), (5, true), (7, true), (8, true), (9, true), (10, true), (11, true), (13, true), (14, true), (15, true), (16, true), (17, true), (20, true), (21, true), (22, true), (23, true), (24, true), (6, false), (12, true), (18, false), (19, true), (25, true), (26, false), (27, false), (28, false), (29, true)] w2.heap.size [(g, 16 + k)] fun w3 hh hb3 => ve (And.intro e2 (And.intro e7 (And.intro e15 e16))) ?_
    have H := H.go (hb3 _)
    have J3 : Sep w2.heap.size w3 w3 [] := Sep.begin (Nat.le_of_eq (by rw [hh]))
    obtain ⟨A', c', he, _, _, ha⟩ := sl_open (H.own (.head _))
    cases he
    have hgl : g < w2.heap.size := by
      have := ((pl_i64.slRd.1 ha).2 0 (by omega)).2.1
      rw [adA_some, hh] at this; exact this
    have cell : ∀ j, j < L.length → w3.cell? ⟨g, j, none⟩ = some (.int .i64 (L.getD j 0)) := fun j hj => by
      have := ((pl_i64.slRd.1 ha).2 j hj).2.2
      rw [adA_some, Kd.add_plain] at this
      rw [this, List.getD_eq_getElem?_getD, List.getElem?_eq_getElem hj, Option.getD_some]
    have hE := And.intro e2 (And.intro e7 (And.intro e15 e16))
    refine qx_index sl52 rfl (by omega) (by omega) (vs ?_)
    refine qx_loadG (t := 16 + k) sc3 (cell (14 + k) (by omega)) hgl (by simp) (by omega) (ve hE ?_)
    refine qx_index sl52 rfl (by omega) (by omega) (vs ?_)
    refine qx_loadG (t := 16 + k) sc3 (cell (9 + k) (by omega)) hgl (by simp) (by omega) (ve hE ?_)
    refine qx_index sl52 rfl (by omega) (by omega) (vs ?_)
    refine qx_loadG (t := 16 + k) sc3 (cell (1 + k) (by omega)) hgl (by simp) (by omega) (ve hE ?_)
    refine qx_index sl52 rfl (by omega) (by omega) (vs ?_)
    refine qx_loadG (t := 16 + k) sc3 (cell k (by omega)) hgl (by simp) (by omega) (ve hE ?_)
    refine x_call (specMix_ok w3 (L.getD (14 + k) 0) 17 19 10 true (by omega) (by omega) (by omega)) fun _ w4 ⟨e, hb4⟩ => ?_
    subst e
    have J4 := J3.go hb4
    have H := H.go hb4
    refine vs ?_
    refine ⟨kept_baseG J3 J4, ?_⟩
    refine x_call (specMix_ok w4 (L.getD (1 + k) 0) 7 18 3 true (by omega) (by omega) (by omega)) fun _ w5 ⟨e, hb5⟩ => ?_
    subst e
    have J5 := J4.go hb5
    have H := H.go hb5
    refine vs ?_
    refine ⟨kept_baseG J3 J5, ?_⟩
    refine x_callw (specWord_ok w5 _) (vs ?_)
    refine ⟨kept_baseG J3 J5, ?_⟩
    rw [← hmore]
    refine x_lst (Sep.start w5) pl_i64 sl52 [more L] (by rw [hmore]; exact word_i64 _) fun g6 w6 JJ => vs ?_
    have J6 := J5.join JJ
    have H := H.join JJ
    simp only [List.cons_append, List.nil_append] at H
    refine ⟨kept_baseG J3 J6, ?_⟩
    refine x_appC H pl_i64 sl52 (H.own (.head _)) ?_ ?_ fun fp5 v5 w7 H hchg hkk => vs ?_
    · simp only [List.length_cons, List.length_nil]; omega
    · simp only [List.length_cons, List.length_nil]; omega
    refine ⟨kept_app (kept_baseG J3 J6) hchg (fun b hb => by simpa [Value.ownBlock] using hb) J6.ns (fun j hj => hkk g j rfl (by omega)), ?_⟩
    refine ⟨(k + 1, v5, fp5), ⟨rfl, i64_eq (by show w64 (((16 + k : Nat) : Int) + 1) = ((16 + (k + 1) : Nat) : Int); unfold w64; omega)⟩, ⟨hlt, ?_⟩, by show 48 - (k + 1) < 48 - k; omega⟩
    dsimp only
    rw [hsucc]; exact H.tail
  · have e0 : ¬ ((16 + k : Nat) : Int) < 64 := by omega
    refine ve e0 ?_
    obtain rfl : k = 48 := by omega
    exact ⟨_, H⟩

theorem implTable_ok (w : World) : ACalls Tryz.prog 74 #[] w fun r w' => ∃ fp, Sep w.heap.size w w' [Ck.own ints fp [r] table64] := by
  refine body_of follows Tryz.func74 rfl rfl _ rfl (by kernel_rfl) (vs ?_)
  refine x_lst (Sep.start w) pl_i64 sl52 table64 table64_words.i64 fun g w1 H => vs ?_
  exact ⟨_, H⟩

theorem specTable_ok (w : World) : ACalls Tryz.prog 91 #[] w fun r w' => ∃ fp, Sep w.heap.size w w' [Ck.own ints fp [r] table64] := by
  refine body_of follows Tryz.func91 rfl rfl _ rfl (by kernel_rfl) (vs ?_)
  refine x_lst (Sep.start w) pl_i64 sl52 table64 table64_words.i64 fun g w1 H => vs ?_
  exact ⟨_, H⟩

theorem implStart_ok (w : World) : ACalls Tryz.prog 53 #[] w fun r w' => ∃ fp, Sep w.heap.size w w' [Ck.own ints fp [r] start8] := by
  refine body_of follows Tryz.func53 rfl rfl _ rfl (by kernel_rfl) (vs ?_)
  refine x_lst (Sep.start w) pl_i64 sl52 start8 start8_words.i64 fun g w1 H => vs ?_
  exact ⟨_, H⟩

theorem specStart_ok (w : World) : ACalls Tryz.prog 66 #[] w fun r w' => ∃ fp, Sep w.heap.size w w' [Ck.own ints fp [r] start8] := by
  refine body_of follows Tryz.func66 rfl rfl _ rfl (by kernel_rfl) (vs ?_)
  refine x_lst (Sep.start w) pl_i64 sl52 start8 start8_words.i64 fun g w1 H => vs ?_
  exact ⟨_, H⟩

theorem of_map {st : List Int} (h : st.length = 8) : st.map word = (S8.of st).list := by
  match st, h with
  | [a, b, c, d, e, f, g, h], _ => rfl
theorem S8.len (s : S8) : s.list.length = 8 := rfl
def outN (st : List Int) (S : S8) (k : Nat) : List Int := (List.range k).map fun i => word (w64 (S.list.getD i 0 + word (st.getD i 0)))
theorem outN_succ (st : List Int) (S : S8) (k : Nat) : outN st S (k + 1) = outN st S k ++ [word (w64 (S.list.getD k 0 + word (st.getD k 0)))] := by
  unfold outN; rw [List.range_succ, List.map_append]; rfl
theorem outN_len (st : List Int) (S : S8) (k : Nat) : (outN st S k).length = k := by simp [outN]
theorem mapw_succ {st : List Int} {k : Nat} (h : k < st.length) : (st.take (k + 1)).map word = (st.take k).map word ++ [word (st.getD k 0)] := by
  rw [List.take_succ_eq_append_getElem h, List.map_append, List.getD_eq_getElem?_getD, List.getElem?_eq_getElem h, Option.getD_some]; rfl
theorem len8 {l : List Int} (h : l.length = 8) : (l.length : Int) = 8 := by omega

theorem implHashBlock_ok (w : World) (v u : Value) (st : List Int) (b : List UInt8) (h : ints.rd w w.heap.size [v] st) (h' : (bytes 5).rd w w.heap.size [u] b) (hs : st.length = 8) (hl : b.length = 64) :
    ACalls Tryz.prog 55 #[v, u] w fun r w' => ∃ fp, Sep w.heap.size w w' [Ck.own ints fp [r] (hashBlock st b)] := by
  have h0 := h'
  obtain ⟨A, c, rfl, hc1, hc2, ha⟩ := sl_open h
  obtain ⟨B, cb, rfl, _, _, _⟩ := sl_open h'
  have H := Sep.start w
  have eb : ((b.length : Int) = 64) = True := eq_true (by omega)
  have es : ((st.length : Int) = 8) = True := eq_true (by omega)
  refine body_of follows Tryz.func55 rfl rfl _ rfl (by kernel_rfl) (ve (And.intro es eb) ?_)
  refine x_emp H pl_i64 sl52 fun g w1 H => vs ?_
  refine loop_at (σ := Nat × Value × List Nat) (fun x => [(0, .slice A st.length c), (1, .slice B b.length cb), (5, x.2.1), (29, .slice A st.length c), (30, .int .i64 (st.length : Int)), (31, .int .i64 (x.1 : Int))])
    (fun x w' => x.1 ≤ st.length ∧ Sep w.heap.size w w' [Ck.own ints x.2.2 [x.2.1] ((st.take x.1).map word)]) (fun x => st.length - x.1) (0, _, _) (vs trivial) ⟨Nat.zero_le _, H⟩ ?_
  rintro ⟨k, v', fp⟩ s w2 ⟨hk, H⟩
  dsimp only at hk H
  refine vs (ways ?_ ?_)
  · refine vh fun hlt => ?_
    have hk2 : k < st.length := by omega
    refine x_elV pl_i64 sl52 k (ha.mono H.bel) (getD_at (z := 0) hk2) rfl rfl fun ad hb hc _ => vs ?_
    refine x_load sc3 hc (vs ?_)
    refine x_callw (implWord_ok w2 _) (vs ?_)
    refine x_lst H pl_i64 sl52 [word (st.getD k 0)] (word_i64 _) fun g3 w4 H => vs ?_
    refine x_app H pl_i64 sl52 (H.own (.head _)) ?_ ?_ fun fp5 v5 w5 H => vs ?_
    · simp only [List.length_cons, List.length_nil, List.length_map, List.length_take]; omega
    · simp only [List.length_cons, List.length_nil, List.length_map, List.length_take]; omega
    refine ⟨(k + 1, v5, fp5), ⟨rfl, i64_eq (by show w64 ((k : Int) + 1) = ((k + 1 : Nat) : Int); unfold w64; omega)⟩, ⟨hk2, ?_⟩, by show st.length - (k + 1) < st.length - k; omega⟩
    dsimp only
    rw [mapw_succ hk2]; exact H.tail
  refine vh fun hlt => ?_
  obtain rfl : k = st.length := by omega
  rw [List.take_length, of_map hs] at H
  refine x_callf H (implTable_ok w2) fun rk fk w3 H => ?_
  obtain ⟨Ak, ck, rfl, _, _, _⟩ := sl_open (H.own (.head _))
  refine vs ?_
  refine x_callf H (implSched_ok w3 _ b (H.rd h0) hl) fun rw_ fw w4 H => ?_
  obtain ⟨Aw, cw, rfl, _, _, _⟩ := sl_open (H.own (.head _))
  have hwl := sched_len b 48
  have hhb : hashBlock st b = outN st ((S8.of st).run (sched b 48) 64) 8 := rfl
  rw [hhb]
  generalize hW : sched b 48 = W at *
  have hWl : (W.length : Int) = 64 := by omega
  refine vs ?_
  have H := (H.front (c := Ck.own ints fp [v'] (S8.of st).list))
  refine loop_at (σ := Nat × Value × List Nat) (fun x => [(0, .slice A st.length c), (5, x.2.1), (8, .slice Ak table64.length ck), (43, .slice Aw W.length cw), (44, .int .i64 (W.length : Int)), (45, .int .i64 (x.1 : Int))])
    (fun x w' => x.1 ≤ 64 ∧ Sep w.heap.size w w' [Ck.own ints x.2.2 [x.2.1] ((S8.of st).run W x.1).list, Ck.own ints fw [.slice Aw W.length cw] W, Ck.own ints fk [.slice Ak table64.length ck] table64]) (fun x => 64 - x.1) (0, _, _) (vs trivial) ⟨Nat.zero_le _, H⟩ ?_
  rintro ⟨t, v5, f5⟩ s w5 ⟨ht, H⟩
  dsimp only at ht H
  by_cases hlt : t < 64
  · have e0 : ((t : Int) < (W.length : Int)) := by omega
    have hrun : (S8.of st).run W (t + 1) = ((S8.of st).run W t).round (table64.getD t 0) (W.getD t 0) := rfl
    have hSw := S8.run_words (S8.of_words st) W t
    generalize (S8.of st).run W t = S at *
    have hSe : 0 ≤ S.e ∧ S.e < 4294967296 := hSw _ (by simp [S8.list])
    have hSa : 0 ≤ S.a ∧ S.a < 4294967296 := hSw _ (by simp [S8.list])
    obtain ⟨A5, c5, rfl, _, _, h5⟩ := sl_open (H.own (.head _))
    obtain ⟨_, _, hew, _, _, hw5⟩ := sl_open (H.own (.tail _ (.head _)))
    cases hew
    obtain ⟨_, _, hek, _, _, hk5⟩ := sl_open (H.own (.tail _ (.tail _ (.head _))))
    cases hek
    refine ve e0 ?_
    refine x_elV pl_i64 sl52 t hw5 (getD_at (z := 0) (by omega)) rfl rfl fun ad hb hc _ => vs ?_
    refine x_load sc3 hc (vs ?_)
    refine draw_at [(0, true), (1, true), (2, true), (3, true), (4, true), (5, true), (6, true), (7, true)] fun w6 hh hb3 => vs ?_
    have H := H.go (hb3 _)
    have h5 := (h5.mono (hb3 _)).le (hb3 w5.heap.size).size
    have hk5 := (hk5.mono (hb3 _)).le (hb3 w5.heap.size).size
    refine q_elV pl_i64 sl52 0 h5 (show S.list[0]? = some S.a from rfl) rfl rfl fun ad hb hc _ => vs ?_
    refine qx_load sc3 hc hb (by simp) (vs ?_)
    refine q_elV pl_i64 sl52 4 h5 (show S.list[4]? = some S.e from rfl) rfl rfl fun ad hb hc _ => vs ?_
    refine qx_load sc3 hc hb (by simp) (vs ?_)
    refine draw_at [(0, true), (1, true), (2, true), (3, true), (4, true), (5, true), (6, true), (7, true), (8, true), (9, true), (10, true), (11, true), (12, true)] fun w7 hh hb3 => vs ?_
    have H := H.go (hb3 _)
    have h5 := (h5.mono (hb3 _)).le (hb3 w6.heap.size).size
    have hk5 := (hk5.mono (hb3 _)).le (hb3 w6.heap.size).size
    refine q_elV pl_i64 sl52 5 h5 (show S.list[5]? = some S.f from rfl) rfl rfl fun ad hb hc _ => vs ?_
    refine qx_load sc3 hc hb (by simp) (vs ?_)
    refine q_elV pl_i64 sl52 6 h5 (show S.list[6]? = some S.g from rfl) rfl rfl fun ad hb hc _ => vs ?_
    refine qx_load sc3 hc hb (by simp) (vs ?_)
    rw [ch_eq hSe]
    refine draw_at [(0, true), (1, true), (2, true), (3, true), (4, true), (5, true), (6, true), (7, true), (8, true), (9, true), (10, true), (11, true), (12, true), (13, true), (14, true), (15, true), (16, true), (17, true), (18, true), (19, true)] fun w8 hh hb3 => vs ?_
    have H := H.go (hb3 _)
    have h5 := (h5.mono (hb3 _)).le (hb3 w7.heap.size).size
    have hk5 := (hk5.mono (hb3 _)).le (hb3 w7.heap.size).size
    refine q_elV pl_i64 sl52 1 h5 (show S.list[1]? = some S.b from rfl) rfl rfl fun ad hb hc _ => vs ?_
    refine qx_load sc3 hc hb (by simp) (vs ?_)
    refine q_elV pl_i64 sl52 2 h5 (show S.list[2]? = some S.c from rfl) rfl rfl fun ad hb hc _ => vs ?_
    refine qx_load sc3 hc hb (by simp) (vs ?_)
    refine q_elV pl_i64 sl52 1 h5 (show S.list[1]? = some S.b from rfl) rfl rfl fun ad hb hc _ => vs ?_
    refine qx_load sc3 hc hb (by simp) (vs ?_)
    refine q_elV pl_i64 sl52 2 h5 (show S.list[2]? = some S.c from rfl) rfl rfl fun ad hb hc _ => vs ?_
    refine qx_load sc3 hc hb (by simp) (vs ?_)
    rw [maj_eq]
    refine draw_at [(0, true), (1, true), (2, true), (3, true), (6, true), (8, true), (9, true), (10, true), (11, true), (13, true), (4, false), (5, true), (7, true), (12, true), (14, true), (15, true)] fun w9 hh hb3 => vs ?_
    have H := H.go (hb3 _)
    have h5 := (h5.mono (hb3 _)).le (hb3 w8.heap.size).size
    have hk5 := (hk5.mono (hb3 _)).le (hb3 w8.heap.size).size
    refine q_elV pl_i64 sl52 7 h5 (show S.list[7]? = some S.h from rfl) rfl rfl fun ad hb hc _ => vs ?_
    refine qx_load sc3 hc hb (by simp) (vs ?_)
    refine q_elV pl_i64 sl52 t hk5 (getD_at (z := 0) (by rw [table64_len]; exact hlt)) rfl rfl fun ad hb hc _ => vs ?_
    refine qx_load sc3 hc hb (by simp) (vs ?_)
    refine x_call (implMix_ok w9 S.e 6 11 25 false (by omega) (by omega) (by omega) hSe) fun _ w10 ⟨e, hb10⟩ => ?_
    subst e
    have H := H.go hb10
    refine vs ?_
    refine ⟨kept_of hb10 (Nat.le_refl _), ?_⟩
    refine x_call (implMix_ok w10 S.a 2 13 22 false (by omega) (by omega) (by omega) hSa) fun _ w11 ⟨e, hb11⟩ => ?_
    subst e
    have H := H.go hb11
    refine vs ?_
    have h5 := (h5.mono hb10).le hb10.size
    have h5 := (h5.mono hb11).le hb11.size
    refine draw_at [(0, true), (1, true), (2, true), (4, true), (5, true), (6, true), (7, true), (8, true), (9, true), (10, true), (11, true), (12, true), (13, true), (14, true), (15, true), (16, true), (17, true), (19, true), (20, true), (21, true), (22, true), (23, true), (24, true), (25, true), (26, true), (27, true), (3, false), (18, false), (28, false), (29, true)] fun w12 hh hb3 => vs ?_
    have H := H.go (hb3 _)
    have h5 := (h5.mono (hb3 _)).le (hb3 w11.heap.size).size
    refine q_elV pl_i64 sl52 0 h5 (show S.list[0]? = some S.a from rfl) rfl rfl fun ad hb hc _ => vs ?_
    refine qx_load sc3 hc hb (by simp) (vs ?_)
    refine q_elV pl_i64 sl52 1 h5 (show S.list[1]? = some S.b from rfl) rfl rfl fun ad hb hc _ => vs ?_
    refine qx_load sc3 hc hb (by simp) (vs ?_)
    refine q_elV pl_i64 sl52 2 h5 (show S.list[2]? = some S.c from rfl) rfl rfl fun ad hb hc _ => vs ?_
    refine qx_load sc3 hc hb (by simp) (vs ?_)
    refine q_elV pl_i64 sl52 3 h5 (show S.list[3]? = some S.d from rfl) rfl rfl fun ad hb hc _ => vs ?_
    refine qx_load sc3 hc hb (by simp) (vs ?_)
    refine q_elV pl_i64 sl52 4 h5 (show S.list[4]? = some S.e from rfl) rfl rfl fun ad hb hc _ => vs ?_
    refine qx_load sc3 hc hb (by simp) (vs ?_)
    refine q_elV pl_i64 sl52 5 h5 (show S.list[5]? = some S.f from rfl) rfl rfl fun ad hb hc _ => vs ?_
    refine qx_load sc3 hc hb (by simp) (vs ?_)
    refine q_elV pl_i64 sl52 6 h5 (show S.list[6]? = some S.g from rfl) rfl rfl fun ad hb hc _ => vs ?_
    refine qx_load sc3 hc hb (by simp) (vs ?_)
    refine x_callw (implWord_ok w12 _) (vs ?_)
    refine ⟨Kept.refl .., ?_⟩
    refine x_callw (implWord_ok w12 _) (vs ?_)
    refine ⟨Kept.refl .., ?_⟩
    have J3 := Sep.start w12
    refine x_lst (Sep.start w12) pl_i64 sl52 (S.round (table64.getD t 0) (W.getD t 0)).list (S8.round_words hSw _ _).i64 fun g13 w13 J => vs ?_
    refine ⟨kept_base J3 J, ?_⟩
    have H := H.tail.join J
    simp only [List.cons_append, List.nil_append] at H
    refine ⟨(t + 1, .slice (some ⟨g13, 0, none⟩) 8 8, [g13]), ⟨rfl, i64_eq (by show w64 ((t : Int) + 1) = ((t + 1 : Nat) : Int); unfold w64; omega)⟩, ⟨hlt, ?_⟩, by show 64 - (t + 1) < 64 - t; omega⟩
    dsimp only
    rw [hrun]; exact H
  · have e0 : ¬ ((t : Int) < (W.length : Int)) := by omega
    obtain rfl : t = 64 := by omega
    refine ve e0 ?_
    have hSw := S8.run_words (S8.of_words st) W 64
    generalize (S8.of st).run W 64 = S at *
    obtain ⟨A5, c5, rfl, _, _, h5⟩ := sl_open (H.own (.head _))
    refine x_emp H pl_i64 sl52 fun g6 w6 H => vs ?_
    refine loop_at (σ := Nat × Value × List Nat) (fun x => [(0, .slice A st.length c), (17, x.2.1), (137, .slice A5 S.list.length c5), (138, .int .i64 (S.list.length : Int)), (139, .int .i64 (x.1 : Int))])
      (fun x w' => x.1 ≤ 8 ∧ Sep w.heap.size w w' [Ck.own ints x.2.2 [x.2.1] (outN st S x.1), Ck.own ints f5 [.slice A5 S.list.length c5] S.list, Ck.own ints fw [.slice Aw W.length cw] W, Ck.own ints fk [.slice Ak table64.length ck] table64]) (fun x => 8 - x.1) (0, _, _) (vs trivial) ⟨Nat.zero_le _, H⟩ ?_
    rintro ⟨k, v', fp⟩ s w7 ⟨hk, H⟩
    dsimp only at hk H
    obtain ⟨_, _, he5, _, _, h5⟩ := sl_open (H.own (.tail _ (.head _)))
    cases he5
    by_cases hk8 : k < 8
    · have e0 : ((k : Int) < (S.list.length : Int)) := by rw [S8.len]; omega
      refine ve e0 ?_
      refine x_elV pl_i64 sl52 k h5 (getD_at (z := 0) (by rw [S8.len]; exact hk8)) rfl rfl fun ad hb hc _ => vs ?_
      refine x_load sc3 hc (vs ?_)
      refine x_elV pl_i64 sl52 k (ha.mono H.bel) (getD_at (z := 0) (by omega)) rfl rfl fun ad hb hc _ => vs ?_
      refine x_load sc3 hc (vs ?_)
      refine x_callw (implWord_ok w7 _) (vs ?_)
      refine x_callw (implWord_ok w7 _) (vs ?_)
      refine x_lst H pl_i64 sl52 [word (w64 (S.list.getD k 0 + word (st.getD k 0)))] (word_i64 _) fun g8 w8 H => vs ?_
      refine x_app H pl_i64 sl52 (H.own (.head _)) ?_ ?_ fun fp9 v9 w9 H => vs ?_
      · simp only [List.length_cons, List.length_nil, outN_len]; omega
      · simp only [List.length_cons, List.length_nil, outN_len]; omega
      refine ⟨(k + 1, v9, fp9), ⟨rfl, i64_eq (by show w64 ((k : Int) + 1) = ((k + 1 : Nat) : Int); unfold w64; omega)⟩, ⟨hk8, ?_⟩, by show 8 - (k + 1) < 8 - k; omega⟩
      dsimp only
      rw [outN_succ]; exact H.tail
    · have e0 : ¬ ((k : Int) < (S.list.length : Int)) := by rw [S8.len]; omega
      obtain rfl : k = 8 := by omega
      refine ve e0 ?_
      exact ⟨_, H.head⟩

theorem specHashBlock_ok (w : World) (v u : Value) (st : List Int) (b : List UInt8) (h : ints.rd w w.heap.size [v] st) (h' : (bytes 5).rd w w.heap.size [u] b) (hs : st.length = 8) (hl : b.length = 64) :
    ACalls Tryz.prog 67 #[v, u] w fun r w' => ∃ fp, Sep w.heap.size w w' [Ck.own ints fp [r] (hashBlock st b)] := by
  have h0 := h'
  obtain ⟨A, c, rfl, hc1, hc2, ha⟩ := sl_open h
  obtain ⟨B, cb, rfl, _, _, _⟩ := sl_open h'
  have H := Sep.start w
  have eb : ((b.length : Int) = 64) = True := eq_true (by omega)
  have es : ((st.length : Int) = 8) = True := eq_true (by omega)
  refine body_of follows Tryz.func67 rfl rfl _ rfl (by kernel_rfl) (ve (And.intro es eb) ?_)
  refine x_callf H (specSched_ok w _ b h0 hl) fun rw_ fw w2 H => ?_
  obtain ⟨Aw, cw, rfl, _, _, _⟩ := sl_open (H.own (.head _))
  have hwl := sched_len b 48
  have hhb : hashBlock st b = outN st ((S8.of st).run (sched b 48) 64) 8 := rfl
  rw [hhb]
  generalize hW : sched b 48 = W at *
  refine vs ?_
  refine x_callf H (specTable_ok w2) fun rk fk w3 H => ?_
  obtain ⟨Ak, ck, rfl, _, _, _⟩ := sl_open (H.own (.head _))
  refine vs ?_
  refine draw_of [(0, true), (1, true), (2, true), (4, true), (5, true), (6, true), (8, true), (9, true), (10, true), (12, true), (13, true), (14, true), (3, false), (7, false), (11, false), (15, false), (16, true), (17, true), (18, true), (19, true)] w.heap.size [] fun w4 hh hb3 => vs ?_
  have H := H.go (hb3 _)
  have hq0 := ha.mono H.bel
  refine q_elV pl_i64 sl52 0 hq0 (getD_at (z := 0) (by omega)) rfl rfl fun ad hb hc _ => vs ?_
  refine qx_load sc3 hc hb (by simp) (vs ?_)
  refine q_elV pl_i64 sl52 1 hq0 (getD_at (z := 0) (by omega)) rfl rfl fun ad hb hc _ => vs ?_
  refine qx_load sc3 hc hb (by simp) (vs ?_)
  refine q_elV pl_i64 sl52 2 hq0 (getD_at (z := 0) (by omega)) rfl rfl fun ad hb hc _ => vs ?_
  refine qx_load sc3 hc hb (by simp) (vs ?_)
  refine q_elV pl_i64 sl52 3 hq0 (getD_at (z := 0) (by omega)) rfl rfl fun ad hb hc _ => vs ?_
  refine qx_load sc3 hc hb (by simp) (vs ?_)
  refine x_callw (specWord_ok w4 _) (vs ?_)
  refine ⟨kept_base H H, ?_⟩
  refine x_callw (specWord_ok w4 _) (vs ?_)
  refine ⟨kept_base H H, ?_⟩
  refine x_callw (specWord_ok w4 _) (vs ?_)
  refine ⟨kept_base H H, ?_⟩
  refine x_callw (specWord_ok w4 _) (vs ?_)
  refine ⟨kept_base H H, ?_⟩
  refine draw_of [(0, true), (1, true), (2, true), (4, true), (5, true), (6, true), (8, true), (9, true), (10, true), (12, true), (13, true), (14, true), (3, false), (7, false), (11, false), (15, false), (16, true), (17, true), (18, true), (19, true)] w.heap.size [] fun w5 hh hb3 => vs ?_
  have H := H.go (hb3 _)
  have hq1 := ha.mono H.bel
  refine q_elV pl_i64 sl52 4 hq1 (getD_at (z := 0) (by omega)) rfl rfl fun ad hb hc _ => vs ?_
  refine qx_load sc3 hc hb (by simp) (vs ?_)
  refine q_elV pl_i64 sl52 5 hq1 (getD_at (z := 0) (by omega)) rfl rfl fun ad hb hc _ => vs ?_
  refine qx_load sc3 hc hb (by simp) (vs ?_)
  refine q_elV pl_i64 sl52 6 hq1 (getD_at (z := 0) (by omega)) rfl rfl fun ad hb hc _ => vs ?_
  refine qx_load sc3 hc hb (by simp) (vs ?_)
  refine q_elV pl_i64 sl52 7 hq1 (getD_at (z := 0) (by omega)) rfl rfl fun ad hb hc _ => vs ?_
  refine qx_load sc3 hc hb (by simp) (vs ?_)
  refine x_callw (specWord_ok w5 _) (vs ?_)
  refine ⟨kept_base H H, ?_⟩
  refine x_callw (specWord_ok w5 _) (vs ?_)
  refine ⟨kept_base H H, ?_⟩
  refine x_callw (specWord_ok w5 _) (vs ?_)
  refine ⟨kept_base H H, ?_⟩
  refine x_callw (specWord_ok w5 _) (vs ?_)
  refine ⟨kept_base H H, ?_⟩
  refine loop_at (σ := Nat) (fun t => [(0, .slice A st.length c), (5, .slice Aw W.length cw), (6, .slice Ak table64.length ck), (7, .int .i64 ((S8.of st).run W t).a), (8, .int .i64 ((S8.of st).run W t).b), (9, .int .i64 ((S8.of st).run W t).c), (10, .int .i64 ((S8.of st).run W t).d), (11, .int .i64 ((S8.of st).run W t).e), (12, .int .i64 ((S8.of st).run W t).f), (13, .int .i64 ((S8.of st).run W t).g), (14, .int .i64 ((S8.of st).run W t).h), (15, .int .i64 (t : Int))])
    (fun t w' => t ≤ 64 ∧ Sep w.heap.size w w' [Ck.own ints fk [.slice Ak table64.length ck] table64, Ck.own ints fw [.slice Aw W.length cw] W]) (fun t => 64 - t) 0 (vs ?_) ⟨Nat.zero_le _, H⟩ ?_
  · exact ⟨rfl, rfl, rfl, rfl, rfl, rfl, rfl, rfl⟩
  rintro t s w6 ⟨ht, H⟩
  by_cases hlt : t < 64
  · have e0 : ((t : Int) < 64) := by omega
    have hrun : (S8.of st).run W (t + 1) = ((S8.of st).run W t).round (table64.getD t 0) (W.getD t 0) := rfl
    have hSw := S8.run_words (S8.of_words st) W t
    obtain ⟨_, _, hew, _, _, hw5⟩ := sl_open (H.own (.tail _ (.head _)))
    cases hew
    obtain ⟨_, _, hek, _, _, hk5⟩ := sl_open (H.own (.head _))
    cases hek
    refine ve e0 ?_
    generalize (S8.of st).run W t = S at *
    refine draw_at [(0, true), (1, true), (4, true), (6, true), (7, true), (8, true), (9, true), (11, true), (12, true), (13, true), (14, true), (2, false), (3, true), (5, true), (10, true), (15, true), (16, true)] fun w7 hh hb3 => vs ?_
    have H := H.go (hb3 _)
    have hw5 := (hw5.mono (hb3 _)).le (hb3 w6.heap.size).size
    have hk5 := (hk5.mono (hb3 _)).le (hb3 w6.heap.size).size
    refine q_elV pl_i64 sl52 t hk5 (getD_at (z := 0) (by rw [table64_len]; exact hlt)) rfl rfl fun ad hb hc _ => vs ?_
    refine qx_load sc3 hc hb (by simp) (vs ?_)
    refine q_elV pl_i64 sl52 t hw5 (getD_at (z := 0) (by omega)) rfl rfl fun ad hb hc _ => vs ?_
    refine qx_load sc3 hc hb (by simp) (vs ?_)
    refine x_call (specMix_ok w7 S.e 6 11 25 false (by omega) (by omega) (by omega)) fun _ w8 ⟨e, hb8⟩ => ?_
    subst e
    have H := H.go hb8
    refine vs ?_
    refine ⟨kept_of hb8 (Nat.le_refl _), ?_⟩
    refine x_call (specMix_ok w8 S.a 2 13 22 false (by omega) (by omega) (by omega)) fun _ w9 ⟨e, hb9⟩ => ?_
    subst e
    have H := H.go hb9
    refine vs ?_
    refine x_callw (specWord_ok w9 _) (vs ?_)
    refine x_callw (specWord_ok w9 _) (vs ?_)
    refine ⟨t + 1, ⟨?_, ?_, ?_, ?_, ?_, ?_, ?_, ?_, i64_eq (by unfold w64; omega)⟩, ⟨hlt, H⟩, by omega⟩
    all_goals (rw [hrun]; rfl)
  · have e0 : ¬ ((t : Int) < 64) := by omega
    obtain rfl : t = 64 := by omega
    refine ve e0 ?_
    have hSw := S8.run_words (S8.of_words st) W 64
    generalize (S8.of st).run W 64 = S at *
    refine x_lst H pl_i64 sl52 S.list hSw.i64 fun g7 w7 H => vs ?_
    obtain ⟨A7, c7, e7, _, _, h7⟩ := sl_open (H.own (.head _))
    have ha7 := (ha.mono H.bel).le H.ns
    refine x_emp (Sep.start w7) pl_i64 sl52 fun g8 w8 J => vs ?_
    refine loop_at (σ := Nat × Value × List Nat) (fun x => [(0, .slice A st.length c), (20, .slice (some ⟨g7, 0, none⟩) 8 8), (21, x.2.1), (22, .int .i64 (x.1 : Int))])
      (fun x w' => x.1 ≤ 8 ∧ Sep w7.heap.size w7 w' [Ck.own ints x.2.2 [x.2.1] (outN st S x.1)]) (fun x => 8 - x.1) (0, _, _) (vs trivial) ⟨Nat.zero_le _, J⟩ ?_
    cases e7
    rintro ⟨k, v', fp⟩ s w9 ⟨hk, J⟩
    dsimp only at hk J
    by_cases hk8 : k < 8
    · have e0 : ((k : Int) < 8) := by omega
      refine ve e0 ?_
      refine draw_of [(0, true), (1, true), (2, true), (3, true), (4, true), (5, true), (6, true), (7, true), (8, true), (9, false), (10, true), (11, false), (12, false), (13, false), (14, true)] w7.heap.size [] fun w10 hh hb3 => vs ?_
      have J := J.go (hb3 _)
      have J3 := J
      refine q_elV pl_i64 sl52 k (h7.mono J.bel) (getD_at (z := 0) (by rw [S8.len]; exact hk8)) rfl rfl fun ad hb hc _ => vs ?_
      refine qx_load sc3 hc hb (by simp) (vs ?_)
      refine q_elV pl_i64 sl52 k (ha7.mono J.bel) (getD_at (z := 0) (by omega)) rfl rfl fun ad hb hc _ => vs ?_
      refine qx_load sc3 hc hb (by simp) (vs ?_)
      refine x_callw (specWord_ok w10 _) (vs ?_)
      refine ⟨kept_base J3 J3, ?_⟩
      refine x_callw (specWord_ok w10 _) (vs ?_)
      refine ⟨kept_base J3 J3, ?_⟩
      refine x_lst J pl_i64 sl52 [word (w64 (S.list.getD k 0 + word (st.getD k 0)))] (word_i64 _) fun g11 w11 J => vs ?_
      refine ⟨kept_base J3 J, ?_⟩
      refine x_app J pl_i64 sl52 (J.own (.head _)) ?_ ?_ fun fp9 v9 w12 J => vs ?_
      · simp only [List.length_cons, List.length_nil, outN_len]; omega
      · simp only [List.length_cons, List.length_nil, outN_len]; omega
      refine ⟨kept_base J3 J, (k + 1, v9, fp9), ⟨rfl, i64_eq (by show w64 ((k : Int) + 1) = ((k + 1 : Nat) : Int); unfold w64; omega)⟩, ⟨hk8, ?_⟩, by show 8 - (k + 1) < 8 - k; omega⟩
      dsimp only
      rw [outN_succ]; exact J.tail
    · have e0 : ¬ ((k : Int) < 8) := by omega
      obtain rfl : k = 8 := by omega
      refine ve e0 ?_
      exact ⟨_, (H.join J).head⟩

end Go.Proofs.YtcmckbgiiclomaaGreatDoor.V
