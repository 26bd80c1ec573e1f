/- Texts laid by programs, part 12. -/
import Derived.Test.YtcmckbgiiclomacGreatU11
import Derived.Test.YtcmckbgiiclomacGreatU07
namespace Go.Proofs.YtcmckbgiiclomacGreat.V
open Go Go.RowKit
set_option maxRecDepth 100000
set_option maxHeartbeats 4000000
set_option linter.unusedSimpArgs false
set_option linter.unusedVariables false
set_option pp.deepTerms false
set_option pp.deepTerms.threshold 3
theorem specSync_ok (w : World) (cs : List Value) (p : MPost) (h : kPost.rd w w.heap.size cs p) (hs : smPost p) :
    ACalls Tryz.prog 95 #[.agg cs.toArray] w fun r w' => ∃ cs' fp, r = .agg cs'.toArray ∧ Sep w.heap.size w w' [Ck.own kPost fp cs' (syncP p)] := by
  have hs' := hs; unfold smPost at hs'; have h9 := h; obtain ⟨v0, v2, rfl, h0, h1, h2, h3⟩ := kPost_open h; obtain ⟨A2, c2, rfl, _⟩ := sl_open h2; have H := Sep.start w; refine body_of follows Tryz.func95 rfl rfl _ rfl (by kernel_rfl) (vs ?_); refine x_bx H [v0, .int .i64 p.f_Time, .slice A2 p.f_Book.length c2, .int .i64 p.f_Sure] fun g1 w1 H => vs ?_; refine x_al H st26 fun g2 w2 H => vs ?_; refine x_lda H st26 ?_; refine vs ?_; refine x_call (l15Copy_ok w2 _ p (H.rd h9) hs) fun _ w3 R => ?_; unfold PostR at R; obtain ⟨a0, f0, a2, f2, rfl, S⟩ := R; have H := H.join S; simp only [List.cons_append, List.nil_append] at H; have o0 := one1 (fp := f0) (x := p.f_Queue) H (.head _); obtain ⟨B2, d2, rfl, _⟩ := sl_open (H.own (fp := f2) (x := p.f_Book) (.tail _ (.head _))); refine vs ?_; refine x_al H st26 fun g4 w4 H => vs ?_; refine x_sta H st26 (vs := [a0, .int .i64 p.f_Time, .slice B2 p.f_Book.length d2, .int .i64 p.f_Sure]) (h1 := one4 o0 rfl) fun w5 H => vs ?_; refine x_lda H st26 ?_; refine vs ?_; refine x_callb H (specPostOk_ok w5 _ p (H.rd h9) hs) fun w6 H => ?_
  cases hok : postOk p with
  | false =>
    refine vs ?_; refine x_lda H st26 ?_; refine vs ?_; refine x_sta H st26 (vs := [a0, .int .i64 p.f_Time, .slice B2 p.f_Book.length d2, .int .i64 p.f_Sure]) (h1 := one4 o0 rfl) fun w7 H => vs ?_; have H := H.front (c := Ck.own (bytes 5) f2 [.slice B2 p.f_Book.length d2] p.f_Book); have H := H.front (c := Ck.own items f0 [a0] p.f_Queue); obtain ⟨fp, H⟩ := ownPost p H h1 h3; have e : syncP p = p := by unfold syncP; rw [if_neg (by rw [hok]; decide)]
    rw [e]; exact ⟨_, _, rfl, res_cell H st26, _, _, rfl, H.head⟩
  | true =>
    refine vs ?_; refine x_ld H sc22 ?_; refine vs ?_; refine x_st H sc3 fun w7 H => vs ?_; refine x_lda H st26 ?_; refine vs ?_; refine x_sta H st26 (vs := [a0, .int .i64 p.f_Time, .slice B2 p.f_Book.length d2, .int .i64 (p.f_Book.length : Int)]) (h1 := one4 o0 rfl) fun w8 H => vs ?_; have H := H.front (c := Ck.own (bytes 5) f2 [.slice B2 p.f_Book.length d2] p.f_Book); have H := H.front (c := Ck.own items f0 [a0] p.f_Queue); obtain ⟨fp, H⟩ := ownPost (⟨p.f_Queue, p.f_Time, p.f_Book, p.f_Book.length⟩ : MPost) H h1 (by dsimp only; omega); have e : syncP p = ⟨p.f_Queue, p.f_Time, p.f_Book, p.f_Book.length⟩ := by unfold syncP; rw [if_pos hok]
    rw [e]; exact ⟨_, _, rfl, res_cell H st26, _, _, rfl, H.head⟩
theorem syncP_tot {p : MPost} (hs : smPost p) : smPost (syncP p) := by
  unfold syncP
  split
  · exact hs
  · exact hs
theorem tick_bad {p : MPost} {now : Int} (h : ¬ (postOk p = true ∧ p.f_Time ≤ now ∧ now ≤ 100000)) : tickP p now = (p, 1) := by
  unfold tickP; rw [if_neg]; simp only [Bool.and_eq_true, decide_eq_true_eq]; exact h
theorem tick_full {p : MPost} {now : Int} (h : postOk p = true) (h2 : p.f_Time ≤ now ∧ now ≤ 100000) (h3 : ¬ p.f_Book.length + (lineBytes (timeLine now)).length ≤ 12000) : tickP p now = (p, 2) := by
  unfold tickP; rw [if_pos (by rw [h, decide_eq_true h2]; rfl), if_neg (by unfold fits; rw [decide_eq_false h3]; decide)]
theorem tick_done {p : MPost} {now : Int} (h : postOk p = true) (h2 : p.f_Time ≤ now ∧ now ≤ 100000) (h3 : p.f_Book.length + (lineBytes (timeLine now)).length ≤ 12000) : tickP p now = (⟨due p.f_Queue now, now, p.f_Book ++ lineBytes (timeLine now), p.f_Sure⟩, 0) := by
  unfold tickP; rw [if_pos (by rw [h, decide_eq_true h2]; rfl), if_pos (by unfold fits; rw [decide_eq_true h3])]
theorem timeLine_ok {n : Int} (h : 0 ≤ n ∧ n ≤ 100000) : lineOk (timeLine n) = true := by
  rw [lineOk_3 rfl]; have e : decide (0 ≤ (timeLine n).f_Due ∧ (timeLine n).f_Due ≤ 100000) = true := decide_eq_true h; rw [e]; rfl
theorem sm_due {q : List MItem} {n : Int} (h : smItemS q) : smItemS (due q n) := sm_filter h
theorem tickP_sm {p : MPost} {now : Int} (hs : smPost p) : smPost (tickP p now).1 := by
  unfold tickP
  split
  · split
    · rename_i h1 h2
      unfold fits at h2; simp only [decide_eq_true_eq] at h2; exact ⟨sm_due hs.1, by show (p.f_Book ++ lineBytes (timeLine now)).length ≤ 1048576; rw [List.length_append]; omega⟩
    · exact hs
  · exact hs
theorem timeLine_rd (w : World) (n : Nat) {t : Int} (h : 0 ≤ t ∧ t ≤ 100000) : kLine.rd w n [.int .i64 3, .string ⟨#[]⟩, .int .i64 0, .int .i64 t, .slice none 0 0] (timeLine t) :=
  kLine_of (timeLine t) (by show (-9223372036854775808 : Int) ≤ 3 ∧ (3 : Int) < 9223372036854775808; decide) (by show ([] : List UInt8).length ≤ 9223372036854775807; decide) (by show (-9223372036854775808 : Int) ≤ 0 ∧ (0 : Int) < 9223372036854775808; decide) (by show (-9223372036854775808 : Int) ≤ t ∧ t < 9223372036854775808; omega) (Kd.own_rd _ (sl_zero w) (by simp))
theorem specTick_ok (w : World) (cs : List Value) (p : MPost) (now : Int) (h : kPost.rd w w.heap.size cs p) (hs : smPost p) (hn : -9223372036854775808 ≤ now ∧ now < 9223372036854775808) :
    ACalls Tryz.prog 94 #[.agg cs.toArray, .int .i64 now] w fun r w' => ∃ cs' fp, r = .tuple #[.agg cs'.toArray, .int .i64 (tickP p now).2] ∧ Sep w.heap.size w w' [Ck.own kPost fp cs' (tickP p now).1] := by
  have hs' := hs; unfold smPost at hs'; have h9 := h; obtain ⟨v0, v2, rfl, h0, h1, h2, h3⟩ := kPost_open h; obtain ⟨A2, c2, rfl, _⟩ := sl_open h2; have H := Sep.start w; refine body_of follows Tryz.func94 rfl rfl _ rfl (by kernel_rfl) (vs ?_); refine x_bx H [v0, .int .i64 p.f_Time, .slice A2 p.f_Book.length c2, .int .i64 p.f_Sure] fun g1 w1 H => vs ?_; refine x_al H st26 fun g2 w2 H => vs ?_; refine x_lda H st26 ?_; refine vs ?_; refine x_call (l15Copy_ok _ _ p (H.rd h9) hs) fun _ w3 R => ?_; unfold PostR at R; obtain ⟨pa0, pf0, pa2, pf2, rfl, S⟩ := R; have H := H.join S; simp only [List.cons_append, List.nil_append] at H; have po0 := one1 (fp := pf0) (x := p.f_Queue) H (.head _); obtain ⟨pB, pd, rfl, _⟩ := sl_open (H.own (fp := pf2) (x := p.f_Book) (.tail _ (.head _))); refine vs ?_; refine x_al H st26 fun g4 w4 H => vs ?_; refine x_sta H st26 (vs := [pa0, .int .i64 p.f_Time, .slice pB p.f_Book.length pd, .int .i64 p.f_Sure]) (h1 := one4 po0 rfl) fun w4 H => vs ?_; refine x_lda H st26 ?_; refine vs ?_; refine x_callb H (specPostOk_ok _ _ p (H.rd h9) hs) fun w6 H => ?_
  cases hok : postOk p with
  | false =>
    refine vs ?_; refine x_lda H st26 ?_; refine vs ?_; refine x_sta H st26 (vs := [pa0, .int .i64 p.f_Time, .slice pB p.f_Book.length pd, .int .i64 p.f_Sure]) (h1 := one4 po0 rfl) fun wz H => vs ?_; have H := H.front (c := Ck.own (bytes 5) pf2 [.slice pB p.f_Book.length pd] p.f_Book); have H := H.front (c := Ck.own items pf0 [pa0] p.f_Queue); obtain ⟨fz, H⟩ := ownPost p H h1 h3; rw [tick_bad (fun hh => by have := hh.1; rw [hok] at this; cases this)]; exact ⟨_, _, rfl, res_cell H st26, _, _, rfl, H.head⟩
  | true =>
    refine vs ?_; refine x_ld H sc3 ?_; refine vs ?_; refine x_callw (l1In_ok w6 _ _ _) ?_
    by_cases hr : p.f_Time ≤ now ∧ now ≤ 100000
    rotate_left
    · refine ve hr ?_
      refine x_lda H st26 ?_; refine vs ?_; refine x_sta H st26 (vs := [pa0, .int .i64 p.f_Time, .slice pB p.f_Book.length pd, .int .i64 p.f_Sure]) (h1 := one4 po0 rfl) fun wz H => vs ?_; have H := H.front (c := Ck.own (bytes 5) pf2 [.slice pB p.f_Book.length pd] p.f_Book); have H := H.front (c := Ck.own items pf0 [pa0] p.f_Queue); obtain ⟨fz, H⟩ := ownPost p H h1 h3; rw [tick_bad (fun hh => hr hh.2)]; exact ⟨_, _, rfl, res_cell H st26, _, _, rfl, H.head⟩
    have hpt := (postOk_iff.1 hok).1.2.1; have hnr : 0 ≤ now ∧ now ≤ 100000 := by omega
    have hll := lineBytes_le (timeLine now); refine ve hr ?_; refine x_lda H st26 ?_; refine vs ?_; refine x_call (l15Copy_ok _ _ p (H.rd h9) hs) fun _ w9 R => ?_; unfold PostR at R; obtain ⟨ra0, rf0, ra2, rf2, rfl, S⟩ := R; have H := H.join S; simp only [List.cons_append, List.nil_append] at H; have ro0 := one1 (fp := rf0) (x := p.f_Queue) H (.head _); obtain ⟨rB, rd, rfl, _⟩ := sl_open (H.own (fp := rf2) (x := p.f_Book) (.tail _ (.head _))); refine vs ?_; refine x_build bl90 [.int .i64 3, .string ⟨#[]⟩, .int .i64 0, .int .i64 now, .slice none 0 0] ?_; refine vs ?_; refine x_call (l15Noted_ok p.f_Time p.f_Sure [.int .i64 3, .string ⟨#[]⟩, .int .i64 0, .int .i64 now, .slice none 0 0] (timeLine now) H (timeLine_rd _ _ hnr) (by show ([] : List UInt8).length ≤ 1048576; decide) (by show ([] : List UInt8).length ≤ 1048576; decide) hs'.2) fun _ w8 ⟨f8, v8, e, H⟩ => ?_; subst e; rw [timeLine_ok hnr, Bool.true_and]; have o8 := one1 (fp := f8) (x := p.f_Book ++ lineBytes (timeLine now)) H (.tail _ (.head _)); refine vs ?_; refine x_al H st26 fun g7 w10 H => vs ?_; refine x_sta H st26 (vs := [ra0, .int .i64 p.f_Time, v8, .int .i64 p.f_Sure]) (h1 := one4 ro0 o8) fun w11 H => vs ?_
    by_cases hf : p.f_Book.length + (lineBytes (timeLine now)).length ≤ 12000
    rotate_left
    · refine ve hf ?_
      refine x_lda H st26 ?_; refine vs ?_; refine x_sta H st26 (vs := [pa0, .int .i64 p.f_Time, .slice pB p.f_Book.length pd, .int .i64 p.f_Sure]) (h1 := one4 po0 rfl) fun wz H => vs ?_; have H := H.front (c := Ck.own (bytes 5) pf2 [.slice pB p.f_Book.length pd] p.f_Book); have H := H.front (c := Ck.own items pf0 [pa0] p.f_Queue); obtain ⟨fz, H⟩ := ownPost p H h1 h3; rw [tick_full hok hr hf]; exact ⟨_, _, rfl, res_cell H st26, _, _, rfl, H.head⟩
    refine ve (show (p.f_Book.length + (lineBytes (timeLine now)).length ≤ 12000) = True from eq_true hf) ?_; refine x_ld H sc24 ?_; refine vs ?_; refine x_callf H (specDue_ok w11 v0 _ now (H.rd h0) hs'.1) fun r10 f10 w12 H => vs ?_; have o10 := one1 H (.head _); refine x_st H sc24 (h1 := o10) fun w13 H => vs ?_; refine x_st H sc3 fun w14 H => vs ?_; refine x_lda H st26 ?_; refine vs ?_; refine x_sta H st26 (vs := [r10, .int .i64 now, v8, .int .i64 p.f_Sure]) (h1 := one4 o10 o8) fun w15 H => vs ?_; have H := H.front (c := Ck.own (bytes 5) f8 [v8] (p.f_Book ++ lineBytes (timeLine now))); have H := H.front (c := Ck.own items f10 [r10] (due p.f_Queue now)); obtain ⟨fz, H⟩ := ownPost (⟨due p.f_Queue now, now, p.f_Book ++ lineBytes (timeLine now), p.f_Sure⟩ : MPost) H hn h3; rw [tick_done hok hr hf]; exact ⟨_, _, rfl, res_cell H st26, _, _, rfl, H.head⟩
theorem drop_bad {p : MPost} {x : MItem} (h : ¬ (postOk p = true ∧ itemOk x = true ∧ p.f_Time ≤ x.f_Due)) : dropP p x = (p, 1) := by
  unfold dropP; rw [if_neg]; simp only [Bool.and_eq_true, decide_eq_true_eq, and_assoc]; exact h
theorem drop_full {p : MPost} {x : MItem} (h : postOk p = true) (h1 : itemOk x = true) (h2 : p.f_Time ≤ x.f_Due) (h3 : ¬ ((put p.f_Queue x).2 = true ∧ p.f_Book.length + (lineBytes (putLine x)).length ≤ 12000)) : dropP p x = (p, 2) := by
  unfold dropP; rw [if_pos (by rw [h, h1, decide_eq_true h2]; rfl), if_neg]; unfold fits; simp only [Bool.and_eq_true, decide_eq_true_eq]; exact h3
theorem drop_done {p : MPost} {x : MItem} (h : postOk p = true) (h1 : itemOk x = true) (h2 : p.f_Time ≤ x.f_Due) (h3 : (put p.f_Queue x).2 = true) (h4 : p.f_Book.length + (lineBytes (putLine x)).length ≤ 12000) : dropP p x = (⟨(put p.f_Queue x).1, p.f_Time, p.f_Book ++ lineBytes (putLine x), p.f_Sure⟩, 0) := by
  unfold dropP; rw [if_pos (by rw [h, h1, decide_eq_true h2]; rfl), if_pos (by unfold fits; rw [h3, decide_eq_true h4]; rfl)]
theorem dropP_sm {p : MPost} {x : MItem} (hs : smPost p) : smPost (dropP p x).1 := by
  unfold dropP
  split
  · rename_i h0
    split
    · rename_i h1
      unfold fits at h1; simp only [Bool.and_eq_true, decide_eq_true_eq] at h0 h1
      have hq : smItemS (put p.f_Queue x).1 := by
        unfold put
        split
        · rename_i hq
          exact ⟨by have := (queueOk_iff.1 hq).1; show (putL p.f_Queue x).length ≤ _; omega, fun y hy => itemOk_sm (queueOk_item hq y hy)⟩
        · exact hs.1
      exact ⟨hq, by show (p.f_Book ++ lineBytes (putLine x)).length ≤ 1048576; rw [List.length_append]; omega⟩
    · exact hs
  · exact hs
theorem putLine_ok {x : MItem} (h : itemOk x = true) : lineOk (putLine x) = true := by
  rw [lineOk_1 rfl]; exact h
theorem putLine_rd {w : World} {n : Nat} {x : MItem} {v : Value} (h : kItem.rd w n [.string ⟨x.f_Route.toArray⟩, .int .i64 x.f_Topic, .int .i64 x.f_Due, v] x) : kLine.rd w n [.int .i64 1, .string ⟨x.f_Route.toArray⟩, .int .i64 x.f_Topic, .int .i64 x.f_Due, v] (putLine x) := by
  obtain ⟨u, e, q0, q1, q2, q3⟩ := kItem_open h; simp only [List.cons.injEq, and_true, true_and] at e; subst e; exact kLine_of (putLine x) (by show (-9223372036854775808 : Int) ≤ 1 ∧ (1 : Int) < 9223372036854775808; decide) q0 q1 q2 q3
theorem qx_extract0 {P : Program} {m : Nat} {w : World} {KQ : Value → Prop} {G : List (Nat × Nat)} {tq : Tg (m, G, w, KQ)} {v0 v1 : Value} (h : KQ v0) : QS P m G w KQ tq (Instr.extract (.tuple #[v0, v1]) 0) :=
  QS_of (fun w _ => by simp [Instr.extract]) h
theorem qx_extract1 {P : Program} {m : Nat} {w : World} {KQ : Value → Prop} {G : List (Nat × Nat)} {tq : Tg (m, G, w, KQ)} {v0 v1 : Value} (h : KQ v1) : QS P m G w KQ tq (Instr.extract (.tuple #[v0, v1]) 1) :=
  QS_of (fun w _ => by simp [Instr.extract]) h
theorem specDrop_ok (w : World) (cs : List Value) (p : MPost) (ds : List Value) (x : MItem) (h : kPost.rd w w.heap.size cs p) (hx : kItem.rd w w.heap.size ds x) (hs : smPost p) (hsx : smItem x) :
    ACalls Tryz.prog 96 #[.agg cs.toArray, .agg ds.toArray] w fun r w' => ∃ cs' fp, r = .tuple #[.agg cs'.toArray, .int .i64 (dropP p x).2] ∧ Sep w.heap.size w w' [Ck.own kPost fp cs' (dropP p x).1] := by
  have hs' := hs; unfold smPost at hs'; have h9 := h; obtain ⟨v0, v2, rfl, h0, h1, h2, h3⟩ := kPost_open h; obtain ⟨A2, c2, rfl, _⟩ := sl_open h2; have H := Sep.start w; have hx9 := hx; have hsx' := hsx; unfold smItem at hsx'; obtain ⟨u3, rfl, q0, q1, q2, q3⟩ := kItem_open hx; obtain ⟨A9, c9, rfl, _⟩ := sl_open q3; refine body_of follows Tryz.func96 rfl rfl _ rfl (by kernel_rfl) (vs ?_); refine x_bx H [v0, .int .i64 p.f_Time, .slice A2 p.f_Book.length c2, .int .i64 p.f_Sure] fun g1 w1 H => vs ?_; refine x_bx H [.string ⟨x.f_Route.toArray⟩, .int .i64 x.f_Topic, .int .i64 x.f_Due, .slice A9 x.f_Bytes.length c9] fun g9 w9 H => vs ?_; refine x_al H st26 fun g2 w2 H => vs ?_; refine x_lda H st26 ?_; refine vs ?_; refine x_call (l15Copy_ok _ _ p (H.rd h9) hs) fun _ w3 R => ?_; unfold PostR at R; obtain ⟨pa0, pf0, pa2, pf2, rfl, S⟩ := R; have H := H.join S; simp only [List.cons_append, List.nil_append] at H; have po0 := one1 (fp := pf0) (x := p.f_Queue) H (.head _); obtain ⟨pB, pd, rfl, _⟩ := sl_open (H.own (fp := pf2) (x := p.f_Book) (.tail _ (.head _))); refine vs ?_; refine x_al H st26 fun g4 w4 H => vs ?_; refine x_sta H st26 (vs := [pa0, .int .i64 p.f_Time, .slice pB p.f_Book.length pd, .int .i64 p.f_Sure]) (h1 := one4 po0 rfl) fun w4 H => vs ?_; refine x_lda H st26 ?_; refine vs ?_; refine x_callb H (specPostOk_ok _ _ p (H.rd h9) hs) fun w6 H => ?_
  cases hok : postOk p with
  | false =>
    refine vs ?_; refine x_lda H st26 ?_; refine vs ?_; refine x_sta H st26 (vs := [pa0, .int .i64 p.f_Time, .slice pB p.f_Book.length pd, .int .i64 p.f_Sure]) (h1 := one4 po0 rfl) fun wz H => vs ?_; have H := H.front (c := Ck.own (bytes 5) pf2 [.slice pB p.f_Book.length pd] p.f_Book); have H := H.front (c := Ck.own items pf0 [pa0] p.f_Queue); obtain ⟨fz, H⟩ := ownPost p H h1 h3; rw [drop_bad (fun hh => by have := hh.1; rw [hok] at this; cases this)]; exact ⟨_, _, rfl, res_cell H st26, _, _, rfl, H.head⟩
  | true =>
    refine vs ?_; refine x_lda H st45 ?_; refine vs ?_; refine x_callb H (specItemOk_ok _ _ x (H.rd hx9) (by omega)) fun w7 H => ?_
    cases hio : itemOk x with
    | false =>
      refine vs ?_; refine x_lda H st26 ?_; refine vs ?_; refine x_sta H st26 (vs := [pa0, .int .i64 p.f_Time, .slice pB p.f_Book.length pd, .int .i64 p.f_Sure]) (h1 := one4 po0 rfl) fun wz H => vs ?_; have H := H.front (c := Ck.own (bytes 5) pf2 [.slice pB p.f_Book.length pd] p.f_Book); have H := H.front (c := Ck.own items pf0 [pa0] p.f_Queue); obtain ⟨fz, H⟩ := ownPost p H h1 h3; rw [drop_bad (fun hh => by have := hh.2.1; rw [hio] at this; cases this)]; exact ⟨_, _, rfl, res_cell H st26, _, _, rfl, H.head⟩
    | true =>
      refine vs ?_; refine x_ld H sc3 ?_; refine vs ?_; refine x_ld H sc3 ?_
      by_cases hd : x.f_Due < p.f_Time
      · refine ve hd ?_
        refine x_lda H st26 ?_; refine vs ?_; refine x_sta H st26 (vs := [pa0, .int .i64 p.f_Time, .slice pB p.f_Book.length pd, .int .i64 p.f_Sure]) (h1 := one4 po0 rfl) fun wz H => vs ?_; have H := H.front (c := Ck.own (bytes 5) pf2 [.slice pB p.f_Book.length pd] p.f_Book); have H := H.front (c := Ck.own items pf0 [pa0] p.f_Queue); obtain ⟨fz, H⟩ := ownPost p H h1 h3; rw [drop_bad (fun hh => by have := hh.2.2; omega)]; exact ⟨_, _, rfl, res_cell H st26, _, _, rfl, H.head⟩
      have hd2 : p.f_Time ≤ x.f_Due := by omega
      have hll := lineBytes_le (putLine x); have hql := postOk_len hok; refine ve hd ?_; refine x_ld H sc24 ?_; refine vs ?_; refine x_lda H st45 ?_; refine vs ?_; refine x_call (specPut_ok _ v0 _ _ x (H.rd h0) (H.rd hx9) hs'.1 hsx (by omega)) fun _ w8 ⟨vq, fq, e, S⟩ => ?_; subst e; have H := H.join S; simp only [List.cons_append, List.nil_append] at H; have oq := one1 (fp := fq) (x := (put p.f_Queue x).1) H (.head _); refine vs ?_
      refine cut_to (σ := Nat × Value × List Nat × Value × List Nat) (fun y => [(4, .pointer (some ⟨g2, 0, none⟩)), (6, .pointer (some ⟨g4, 0, none⟩)), (7, vq), (8, .bool (put p.f_Queue x).2), (9, .pointer (some ⟨y.1, 0, none⟩)), (10, .bool (decide (p.f_Book.length + (lineBytes (putLine x)).length ≤ 12000)))])
        (fun y w' => y.2.1.oneCell' = true ∧ y.2.2.2.1.oneCell' = true ∧ Sep w.heap.size w w' [Ck.box y.1 [y.2.1, .int .i64 p.f_Time, y.2.2.2.1, .int .i64 p.f_Sure] 26, Ck.own (bytes 5) y.2.2.2.2 [y.2.2.2.1] (p.f_Book ++ lineBytes (putLine x)), Ck.own items fq [vq] (put p.f_Queue x).1, Ck.box g4 [pa0, .int .i64 p.f_Time, .slice pB p.f_Book.length pd, .int .i64 p.f_Sure] 26, Ck.own items pf0 [pa0] p.f_Queue, Ck.own (bytes 5) pf2 [.slice pB p.f_Book.length pd] p.f_Book, Ck.box g2 [.slice none 0 0, .int .i64 0, .slice none 0 0, .int .i64 0] 26]) ?_ ?_
      · have J := Sep.start w8
        refine fork_draw w8.heap.size [] fun wa hh hba => ?_; have J := J.go (hba _); have J3 := J; refine rest_pre [(0, true), (2, true), (3, true), (4, true), (5, true), (6, true), (7, true), (8, true), (9, true), (10, true)] 8 ?_; refine vs ?_; refine q_ldaB H J3 st26 ?_; refine vs ?_; refine q_ldB H J3 sc9 ?_; refine vs ?_; refine q_ldB H J3 sc3 ?_; refine vs ?_; refine q_ldB H J3 sc3 ?_; refine vs ?_; refine q_ldB H J3 sc22 ?_; refine vs ?_; refine q_bld bl90 [.int .i64 1, .string ⟨x.f_Route.toArray⟩, .int .i64 x.f_Topic, .int .i64 x.f_Due, .slice A9 x.f_Bytes.length c9] ?_; refine vs ?_; refine rest_fork 1 15 7 ?_ ?_
        · refine vs ?_
          refine x_call (l15Copy_ok _ _ p (J.rd (H.rd h9)) hs) fun _ wk R => ?_; unfold PostR at R; obtain ⟨ra0, rf0, ra2, rf2, rfl, S⟩ := R; have J := J.join S; simp only [List.cons_append, List.nil_append] at J; have ro0 := one1 (fp := rf0) (x := p.f_Queue) J (.head _); refine vs ?_; refine ⟨kept_base J3 J, ?_⟩; refine rest_fork 11 15 6 ?_ ?_
          · refine vs ?_
            have J := J.front (c := Ck.own (bytes 5) rf2 [ra2] p.f_Book); have J := J.front (c := Ck.own items rf0 [ra0] p.f_Queue); refine x_call (l15Noted_ok p.f_Time p.f_Sure [.int .i64 1, .string ⟨x.f_Route.toArray⟩, .int .i64 x.f_Topic, .int .i64 x.f_Due, .slice A9 x.f_Bytes.length c9] (putLine x) J (putLine_rd (H.rd hx9)) hsx'.1 hsx'.2 hs'.2) fun _ wl ⟨f8, v8, e, J⟩ => ?_; subst e; rw [putLine_ok hio, Bool.true_and]; have o8 := one1 (fp := f8) (x := p.f_Book ++ lineBytes (putLine x)) J (.tail _ (.head _)); refine vs ?_; refine ⟨kept_base J3 J, ?_⟩; refine rest_end [(12, true), (13, true), (14, true), (15, false), (16, false), (17, true)] ?_; refine vs ?_; refine qx_extract0 ?_; refine vs ?_; refine qx_extract1 ?_; refine vs ?_; refine x_al J st26 fun g5 wm J => vs ?_; refine ⟨kept_base J3 J, ?_⟩; refine x_sta J st26 (vs := [ra0, .int .i64 p.f_Time, v8, .int .i64 p.f_Sure]) (h1 := one4 ro0 o8) fun wn J => vs ?_; refine ⟨kept_base J3 J, ?_⟩; have H := H.join J; simp only [List.cons_append, List.nil_append] at H; have H := H.front (c := Ck.box g2 [.slice none 0 0, .int .i64 0, .slice none 0 0, .int .i64 0] 26); have H := H.front (c := Ck.own (bytes 5) pf2 [.slice pB p.f_Book.length pd] p.f_Book); have H := H.front (c := Ck.own items pf0 [pa0] p.f_Queue); have H := H.front (c := Ck.box g4 [pa0, .int .i64 p.f_Time, .slice pB p.f_Book.length pd, .int .i64 p.f_Sure] 26); have H := H.front (c := Ck.own items fq [vq] (put p.f_Queue x).1); have H := H.front (c := Ck.own (bytes 5) f8 [v8] (p.f_Book ++ lineBytes (putLine x))); have H := H.front (c := Ck.box g5 [ra0, .int .i64 p.f_Time, v8, .int .i64 p.f_Sure] 26); exact ⟨(g5, ra0, rf0, v8, f8), vs trivial, ro0, o8, Sep.left (L := [_, _, _, _, _, _, _]) H⟩
          · refine vs ?_
            refine x_al J st26 fun g5 wm J => vs ?_; refine ⟨kept_base J3 J, ?_⟩; refine rest_end [(11, false), (12, true), (13, true), (14, true), (16, false), (17, true)] ?_; refine vs ?_; have J := J.front (c := Ck.own (bytes 5) rf2 [ra2] p.f_Book); have J := J.front (c := Ck.own items rf0 [ra0] p.f_Queue); refine x_call (l15Noted_ok p.f_Time p.f_Sure [.int .i64 1, .string ⟨x.f_Route.toArray⟩, .int .i64 x.f_Topic, .int .i64 x.f_Due, .slice A9 x.f_Bytes.length c9] (putLine x) J (putLine_rd (H.rd hx9)) hsx'.1 hsx'.2 hs'.2) fun _ wl ⟨f8, v8, e, J⟩ => ?_; subst e; rw [putLine_ok hio, Bool.true_and]; have o8 := one1 (fp := f8) (x := p.f_Book ++ lineBytes (putLine x)) J (.tail _ (.head _)); refine vs ?_; refine ⟨kept_base J3 J, ?_⟩; refine qx_extract0 ?_; refine vs ?_; refine qx_extract1 ?_; refine vs ?_; refine x_sta J st26 (vs := [ra0, .int .i64 p.f_Time, v8, .int .i64 p.f_Sure]) (h1 := one4 ro0 o8) fun wn J => vs ?_; refine ⟨kept_base J3 J, ?_⟩; have H := H.join J; simp only [List.cons_append, List.nil_append] at H; have H := H.front (c := Ck.box g2 [.slice none 0 0, .int .i64 0, .slice none 0 0, .int .i64 0] 26); have H := H.front (c := Ck.own (bytes 5) pf2 [.slice pB p.f_Book.length pd] p.f_Book); have H := H.front (c := Ck.own items pf0 [pa0] p.f_Queue); have H := H.front (c := Ck.box g4 [pa0, .int .i64 p.f_Time, .slice pB p.f_Book.length pd, .int .i64 p.f_Sure] 26); have H := H.front (c := Ck.own items fq [vq] (put p.f_Queue x).1); have H := H.front (c := Ck.own (bytes 5) f8 [v8] (p.f_Book ++ lineBytes (putLine x))); have H := H.front (c := Ck.box g5 [ra0, .int .i64 p.f_Time, v8, .int .i64 p.f_Sure] 26); exact ⟨(g5, ra0, rf0, v8, f8), vs trivial, ro0, o8, Sep.left (L := [_, _, _, _, _, _, _]) H⟩
        · refine vs ?_
          refine x_al J st26 fun g5 wm J => vs ?_; refine ⟨kept_base J3 J, ?_⟩; refine rest_end [(1, false), (11, false), (12, true), (13, true), (14, true), (16, false), (17, true)] ?_; refine vs ?_; refine x_call (l15Copy_ok _ _ p (J.rd (H.rd h9)) hs) fun _ wk R => ?_; unfold PostR at R; obtain ⟨ra0, rf0, ra2, rf2, rfl, S⟩ := R; have J := J.join S; simp only [List.cons_append, List.nil_append] at J; have ro0 := one1 (fp := rf0) (x := p.f_Queue) J (.head _); refine vs ?_; refine ⟨kept_base J3 J, ?_⟩; have J := J.front (c := Ck.own (bytes 5) rf2 [ra2] p.f_Book); have J := J.front (c := Ck.own items rf0 [ra0] p.f_Queue); refine x_call (l15Noted_ok p.f_Time p.f_Sure [.int .i64 1, .string ⟨x.f_Route.toArray⟩, .int .i64 x.f_Topic, .int .i64 x.f_Due, .slice A9 x.f_Bytes.length c9] (putLine x) J (putLine_rd (H.rd hx9)) hsx'.1 hsx'.2 hs'.2) fun _ wl ⟨f8, v8, e, J⟩ => ?_; subst e; rw [putLine_ok hio, Bool.true_and]; have o8 := one1 (fp := f8) (x := p.f_Book ++ lineBytes (putLine x)) J (.tail _ (.head _)); refine vs ?_; refine ⟨kept_base J3 J, ?_⟩; refine qx_extract0 ?_; refine vs ?_; refine qx_extract1 ?_; refine vs ?_; refine x_sta J st26 (vs := [ra0, .int .i64 p.f_Time, v8, .int .i64 p.f_Sure]) (h1 := one4 ro0 o8) fun wn J => vs ?_; refine ⟨kept_base J3 J, ?_⟩; have H := H.join J; simp only [List.cons_append, List.nil_append] at H; have H := H.front (c := Ck.box g2 [.slice none 0 0, .int .i64 0, .slice none 0 0, .int .i64 0] 26); have H := H.front (c := Ck.own (bytes 5) pf2 [.slice pB p.f_Book.length pd] p.f_Book); have H := H.front (c := Ck.own items pf0 [pa0] p.f_Queue); have H := H.front (c := Ck.box g4 [pa0, .int .i64 p.f_Time, .slice pB p.f_Book.length pd, .int .i64 p.f_Sure] 26); have H := H.front (c := Ck.own items fq [vq] (put p.f_Queue x).1)
          have H := H.front (c := Ck.own (bytes 5) f8 [v8] (p.f_Book ++ lineBytes (putLine x))); have H := H.front (c := Ck.box g5 [ra0, .int .i64 p.f_Time, v8, .int .i64 p.f_Sure] 26); exact ⟨(g5, ra0, rf0, v8, f8), vs trivial, ro0, o8, Sep.left (L := [_, _, _, _, _, _, _]) H⟩
      rintro ⟨g5, ra0, rf0, v8, f8⟩ s9 wf ⟨ro0, o8, H⟩; dsimp only at ro0 o8 H
      cases hput : (put p.f_Queue x).2 with
      | false =>
        refine vs ?_; refine x_lda H st26 ?_; refine vs ?_; refine x_sta H st26 (vs := [pa0, .int .i64 p.f_Time, .slice pB p.f_Book.length pd, .int .i64 p.f_Sure]) (h1 := one4 po0 rfl) fun wz H => vs ?_; have H := H.front (c := Ck.own (bytes 5) pf2 [.slice pB p.f_Book.length pd] p.f_Book); have H := H.front (c := Ck.own items pf0 [pa0] p.f_Queue); obtain ⟨fz, H⟩ := ownPost p H h1 h3; rw [drop_full hok hio hd2 (fun hh => by have := hh.1; rw [hput] at this; cases this)]; exact ⟨_, _, rfl, res_cell H st26, _, _, rfl, H.head⟩
      | true =>
        by_cases hf : p.f_Book.length + (lineBytes (putLine x)).length ≤ 12000
        rotate_left
        · refine ve hf ?_
          refine x_lda H st26 ?_; refine vs ?_; refine x_sta H st26 (vs := [pa0, .int .i64 p.f_Time, .slice pB p.f_Book.length pd, .int .i64 p.f_Sure]) (h1 := one4 po0 rfl) fun wz H => vs ?_; have H := H.front (c := Ck.own (bytes 5) pf2 [.slice pB p.f_Book.length pd] p.f_Book); have H := H.front (c := Ck.own items pf0 [pa0] p.f_Queue); obtain ⟨fz, H⟩ := ownPost p H h1 h3; rw [drop_full hok hio hd2 (fun hh => hf hh.2)]; exact ⟨_, _, rfl, res_cell H st26, _, _, rfl, H.head⟩
        refine ve (show (p.f_Book.length + (lineBytes (putLine x)).length ≤ 12000) = True from eq_true hf) ?_; refine x_st H sc24 (h1 := oq) fun wd H => vs ?_; refine x_lda H st26 ?_; refine vs ?_; refine x_sta H st26 (vs := [vq, .int .i64 p.f_Time, v8, .int .i64 p.f_Sure]) (h1 := one4 oq o8) fun we H => vs ?_; have H := H.front (c := Ck.own (bytes 5) f8 [v8] (p.f_Book ++ lineBytes (putLine x))); have H := H.front (c := Ck.own items fq [vq] (put p.f_Queue x).1); obtain ⟨fz, H⟩ := ownPost (⟨(put p.f_Queue x).1, p.f_Time, p.f_Book ++ lineBytes (putLine x), p.f_Sure⟩ : MPost) H h1 h3; rw [drop_done hok hio hd2 hput hf]; exact ⟨_, _, rfl, res_cell H st26, _, _, rfl, H.head⟩
theorem fetch_bad {p : MPost} {r : List UInt8} (h : ¬ (postOk p = true ∧ isRoute r = true)) : fetchP p r = (p, zItem, 1) := by
  unfold fetchP; rw [if_neg]; simp only [Bool.and_eq_true]; exact h
theorem fetch_none {p : MPost} {r : List UInt8} (h : postOk p = true) (h1 : isRoute r = true) (h2 : (takeQ p.f_Queue r).2.2 = false) : fetchP p r = (p, zItem, 3) := by
  unfold fetchP; rw [if_pos (by rw [h, h1]; rfl), if_neg (by rw [h2]; decide)]
theorem fetch_full {p : MPost} {r : List UInt8} (h : postOk p = true) (h1 : isRoute r = true) (h2 : (takeQ p.f_Queue r).2.2 = true) (h3 : ¬ p.f_Book.length + (lineBytes (takeLine r)).length ≤ 12000) : fetchP p r = (p, zItem, 2) := by
  unfold fetchP; rw [if_pos (by rw [h, h1]; rfl), if_pos h2, if_neg (by unfold fits; rw [decide_eq_false h3]; decide)]
theorem fetch_done {p : MPost} {r : List UInt8} (h : postOk p = true) (h1 : isRoute r = true) (h2 : (takeQ p.f_Queue r).2.2 = true) (h3 : p.f_Book.length + (lineBytes (takeLine r)).length ≤ 12000) : fetchP p r = (⟨(takeQ p.f_Queue r).2.1, p.f_Time, p.f_Book ++ lineBytes (takeLine r), p.f_Sure⟩, (takeQ p.f_Queue r).1, 0) := by
  unfold fetchP; rw [if_pos (by rw [h, h1]; rfl), if_pos h2, if_pos (by unfold fits; rw [decide_eq_true h3])]
theorem takeLine_ok {r : List UInt8} (h : isRoute r = true) : lineOk (takeLine r) = true := by
  rw [lineOk_2 rfl]; have e : isRoute (takeLine r).f_Route = true := h; rw [e]; rfl
theorem takeLine_rd (w : World) (n : Nat) {r : List UInt8} (h : r.length ≤ 9223372036854775807) : kLine.rd w n [.int .i64 2, .string ⟨r.toArray⟩, .int .i64 0, .int .i64 0, .slice none 0 0] (takeLine r) :=
  kLine_of (takeLine r) (by show (-9223372036854775808 : Int) ≤ 2 ∧ (2 : Int) < 9223372036854775808; decide) h (by show (-9223372036854775808 : Int) ≤ 0 ∧ (0 : Int) < 9223372036854775808; decide) (by show (-9223372036854775808 : Int) ≤ 0 ∧ (0 : Int) < 9223372036854775808; decide) (Kd.own_rd _ (sl_zero w) (by simp))
theorem smItem_z : smItem zItem := by unfold smItem zItem; decide
theorem takeQ_sm {q : List MItem} {r : List UInt8} (hs : smItemS q) : smItem (takeQ q r).1 ∧ smItemS (takeQ q r).2.1 := by
  unfold takeQ
  split
  · refine ⟨?_, sm_erase hs _⟩
    show smItem (itAt q _)
    unfold itAt; rw [List.getD_eq_getElem?_getD]
    rename_i i _
    by_cases h : i < q.length
    · rw [List.getElem?_eq_getElem h, Option.getD_some]; exact hs.2 _ (List.getElem_mem h)
    · rw [List.getElem?_eq_none (by omega), Option.getD_none]; exact smItem_z
  · exact ⟨smItem_z, hs⟩
theorem fetchP_sm {p : MPost} {r : List UInt8} (hs : smPost p) : smPost (fetchP p r).1 ∧ smItem (fetchP p r).2.1 := by
  have ht := takeQ_sm (r := r) hs.1; unfold fetchP
  split
  · split
    · split
      · rename_i h2
        unfold fits at h2; simp only [decide_eq_true_eq] at h2; exact ⟨⟨ht.2, by show (p.f_Book ++ lineBytes (takeLine r)).length ≤ 1048576; rw [List.length_append]; omega⟩, ht.1⟩
      · exact ⟨hs, smItem_z⟩
    · exact ⟨hs, smItem_z⟩
  · exact ⟨hs, smItem_z⟩
theorem specFetch_ok (w : World) (cs : List Value) (p : MPost) (r : List UInt8) (h : kPost.rd w w.heap.size cs p) (hs : smPost p) (hrl : r.length ≤ 1048576) :
    ACalls Tryz.prog 93 #[.agg cs.toArray, .string ⟨r.toArray⟩] w fun z w' => ∃ cs' fp ds' fi, z = .tuple #[.agg cs'.toArray, .agg ds'.toArray, .int .i64 (fetchP p r).2.2] ∧ Sep w.heap.size w w' [Ck.own kPost fp cs' (fetchP p r).1, Ck.own kItem fi ds' (fetchP p r).2.1] := by
  have hs' := hs; unfold smPost at hs'; have h9 := h; obtain ⟨v0, v2, rfl, h0, h1, h2, h3⟩ := kPost_open h; obtain ⟨A2, c2, rfl, _⟩ := sl_open h2; have H := Sep.start w; refine body_of follows Tryz.func93 rfl rfl _ rfl (by kernel_rfl) (vs ?_); refine x_bx H [v0, .int .i64 p.f_Time, .slice A2 p.f_Book.length c2, .int .i64 p.f_Sure] fun g1 w1 H => vs ?_; refine x_al H st26 fun g2 w2 H => vs ?_; refine x_al H st45 fun g8 w9 H => vs ?_; refine x_lda H st26 ?_; refine vs ?_; refine x_call (l15Copy_ok _ _ p (H.rd h9) hs) fun _ w3 R => ?_; unfold PostR at R; obtain ⟨pa0, pf0, pa2, pf2, rfl, S⟩ := R; have H := H.join S; simp only [List.cons_append, List.nil_append] at H; have po0 := one1 (fp := pf0) (x := p.f_Queue) H (.head _); obtain ⟨pB, pd, rfl, _⟩ := sl_open (H.own (fp := pf2) (x := p.f_Book) (.tail _ (.head _))); refine vs ?_; refine x_al H st26 fun g4 w4 H => vs ?_; refine x_sta H st26 (vs := [pa0, .int .i64 p.f_Time, .slice pB p.f_Book.length pd, .int .i64 p.f_Sure]) (h1 := one4 po0 rfl) fun w4 H => vs ?_; refine x_lda H st26 ?_; refine vs ?_; refine x_callb H (specPostOk_ok _ _ p (H.rd h9) hs) fun w6 H => ?_
  cases hok : postOk p with
  | false =>
    refine vs ?_; refine x_lda H st26 ?_; refine vs ?_; refine x_build bl45 [.string ⟨#[]⟩, .int .i64 0, .int .i64 0, .slice none 0 0] ?_; refine vs ?_; refine x_sta H st26 (vs := [pa0, .int .i64 p.f_Time, .slice pB p.f_Book.length pd, .int .i64 p.f_Sure]) (h1 := one4 po0 rfl) fun wz H => vs ?_; have H := H.nothing (kItem_zero wz); refine x_sta H st45 (vs := [.string ⟨#[]⟩, .int .i64 0, .int .i64 0, .slice none 0 0]) (h1 := Kd.one _ (H.own (.head _))) fun wy H => vs ?_; have H := H.front (c := Ck.own kItem [] [.string ⟨#[]⟩, .int .i64 0, .int .i64 0, .slice none 0 0] zItem); have H := H.front (c := Ck.own (bytes 5) pf2 [.slice pB p.f_Book.length pd] p.f_Book); have H := H.front (c := Ck.own items pf0 [pa0] p.f_Queue); obtain ⟨fz, H⟩ := ownPost p H h1 h3; rw [fetch_bad (fun hh => by have := hh.1; rw [hok] at this; cases this)]; exact ⟨_, _, rfl, res_cell H st26, _, _, rfl, res_cell H st45, _, _, _, _, rfl, H.two .here .here⟩
  | true =>
    refine vs ?_; refine x_callb H (specIsRoute_ok w6 r (by omega)) fun w7 H => ?_
    cases hro : isRoute r with
    | false =>
      refine vs ?_; refine x_lda H st26 ?_; refine vs ?_; refine x_build bl45 [.string ⟨#[]⟩, .int .i64 0, .int .i64 0, .slice none 0 0] ?_; refine vs ?_; refine x_sta H st26 (vs := [pa0, .int .i64 p.f_Time, .slice pB p.f_Book.length pd, .int .i64 p.f_Sure]) (h1 := one4 po0 rfl) fun wz H => vs ?_; have H := H.nothing (kItem_zero wz); refine x_sta H st45 (vs := [.string ⟨#[]⟩, .int .i64 0, .int .i64 0, .slice none 0 0]) (h1 := Kd.one _ (H.own (.head _))) fun wy H => vs ?_; have H := H.front (c := Ck.own kItem [] [.string ⟨#[]⟩, .int .i64 0, .int .i64 0, .slice none 0 0] zItem); have H := H.front (c := Ck.own (bytes 5) pf2 [.slice pB p.f_Book.length pd] p.f_Book); have H := H.front (c := Ck.own items pf0 [pa0] p.f_Queue); obtain ⟨fz, H⟩ := ownPost p H h1 h3; rw [fetch_bad (fun hh => by have := hh.2; rw [hro] at this; cases this)]; exact ⟨_, _, rfl, res_cell H st26, _, _, rfl, res_cell H st45, _, _, _, _, rfl, H.two .here .here⟩
    | true =>
      have hll := lineBytes_le (takeLine r); refine vs ?_; refine x_ld H sc24 ?_; refine vs ?_; refine x_call (specTake_ok _ v0 _ r (H.rd h0) hs'.1) fun _ w8 ⟨ds, fi, vq, fq, e, S⟩ => ?_; subst e; have H := H.join S; simp only [List.cons_append, List.nil_append] at H; have oq := one1 (fp := fq) (x := (takeQ p.f_Queue r).2.1) H (.head _); have oi0 := Kd.one _ (H.own (fp := fi) (x := (takeQ p.f_Queue r).1) (.tail _ (.head _))); obtain ⟨u5, e5, _⟩ := kItem_open (H.own (fp := fi) (x := (takeQ p.f_Queue r).1) (.tail _ (.head _))); subst e5; refine vs ?_; refine x_al H st45 fun g6 wa H => vs ?_; refine x_sta H st45 (h1 := oi0) fun wb H => ?_
      cases htk : (takeQ p.f_Queue r).2.2 with
      | false =>
        refine vs ?_; refine x_lda H st26 ?_; refine vs ?_; refine x_build bl45 [.string ⟨#[]⟩, .int .i64 0, .int .i64 0, .slice none 0 0] ?_; refine vs ?_; refine x_sta H st26 (vs := [pa0, .int .i64 p.f_Time, .slice pB p.f_Book.length pd, .int .i64 p.f_Sure]) (h1 := one4 po0 rfl) fun wz H => vs ?_; have H := H.nothing (kItem_zero wz); refine x_sta H st45 (vs := [.string ⟨#[]⟩, .int .i64 0, .int .i64 0, .slice none 0 0]) (h1 := Kd.one _ (H.own (.head _))) fun wy H => vs ?_; have H := H.front (c := Ck.own kItem [] [.string ⟨#[]⟩, .int .i64 0, .int .i64 0, .slice none 0 0] zItem); have H := H.front (c := Ck.own (bytes 5) pf2 [.slice pB p.f_Book.length pd] p.f_Book); have H := H.front (c := Ck.own items pf0 [pa0] p.f_Queue); obtain ⟨fz, H⟩ := ownPost p H h1 h3; rw [fetch_none hok hro htk]; exact ⟨_, _, rfl, res_cell H st26, _, _, rfl, res_cell H st45, _, _, _, _, rfl, H.two .here .here⟩
      | true =>
        refine vs ?_; refine x_lda H st26 ?_; refine vs ?_; refine x_call (l15Copy_ok _ _ p (H.rd h9) hs) fun _ wc R => ?_; unfold PostR at R; obtain ⟨ra0, rf0, ra2, rf2, rfl, S⟩ := R; have H := H.join S; simp only [List.cons_append, List.nil_append] at H; have ro0 := one1 (fp := rf0) (x := p.f_Queue) H (.head _); refine vs ?_; refine x_build bl90 [.int .i64 2, .string ⟨r.toArray⟩, .int .i64 0, .int .i64 0, .slice none 0 0] ?_; refine vs ?_; refine x_call (l15Noted_ok p.f_Time p.f_Sure [.int .i64 2, .string ⟨r.toArray⟩, .int .i64 0, .int .i64 0, .slice none 0 0] (takeLine r) H (takeLine_rd _ _ (by omega)) hrl (by show ([] : List UInt8).length ≤ 1048576; decide) hs'.2) fun _ wd ⟨f8, v8, e, H⟩ => ?_; subst e; rw [takeLine_ok hro, Bool.true_and]; have o8 := one1 (fp := f8) (x := p.f_Book ++ lineBytes (takeLine r)) H (.tail _ (.head _)); refine vs ?_; refine x_al H st26 fun g7 we H => vs ?_; refine x_sta H st26 (vs := [ra0, .int .i64 p.f_Time, v8, .int .i64 p.f_Sure]) (h1 := one4 ro0 o8) fun wf H => vs ?_
        by_cases hf : p.f_Book.length + (lineBytes (takeLine r)).length ≤ 12000
        rotate_left
        · refine ve hf ?_
          refine x_lda H st26 ?_; refine vs ?_; refine x_build bl45 [.string ⟨#[]⟩, .int .i64 0, .int .i64 0, .slice none 0 0] ?_; refine vs ?_; refine x_sta H st26 (vs := [pa0, .int .i64 p.f_Time, .slice pB p.f_Book.length pd, .int .i64 p.f_Sure]) (h1 := one4 po0 rfl) fun wz H => vs ?_; have H := H.nothing (kItem_zero wz); refine x_sta H st45 (vs := [.string ⟨#[]⟩, .int .i64 0, .int .i64 0, .slice none 0 0]) (h1 := Kd.one _ (H.own (.head _))) fun wy H => vs ?_; have H := H.front (c := Ck.own kItem [] [.string ⟨#[]⟩, .int .i64 0, .int .i64 0, .slice none 0 0] zItem); have H := H.front (c := Ck.own (bytes 5) pf2 [.slice pB p.f_Book.length pd] p.f_Book); have H := H.front (c := Ck.own items pf0 [pa0] p.f_Queue); obtain ⟨fz, H⟩ := ownPost p H h1 h3; rw [fetch_full hok hro htk hf]; exact ⟨_, _, rfl, res_cell H st26, _, _, rfl, res_cell H st45, _, _, _, _, rfl, H.two .here .here⟩
        refine ve (show (p.f_Book.length + (lineBytes (takeLine r)).length ≤ 12000) = True from eq_true hf) ?_; refine x_st H sc24 (h1 := oq) fun wg H => vs ?_; have oi := Kd.one _ (H.om (fp := fi) (x := (takeQ p.f_Queue r).1)); have ne1 : g7 ≠ g2 := H.boxne (cs := [vq, .int .i64 p.f_Time, v8, .int .i64 p.f_Sure]) (cs' := [.slice none 0 0, .int .i64 0, .slice none 0 0, .int .i64 0]) (t := 26) (t' := 26); have ne2 : g7 ≠ g8 := H.boxne (cs := [vq, .int .i64 p.f_Time, v8, .int .i64 p.f_Sure]) (cs' := [.string ⟨#[]⟩, .int .i64 0, .int .i64 0, .slice none 0 0]) (t := 26) (t' := 45); have ne3 : g6 ≠ g2 := H.boxne (cs := [.string ⟨(takeQ p.f_Queue r).1.f_Route.toArray⟩, .int .i64 (takeQ p.f_Queue r).1.f_Topic, .int .i64 (takeQ p.f_Queue r).1.f_Due, u5]) (cs' := [.slice none 0 0, .int .i64 0, .slice none 0 0, .int .i64 0]) (t := 45) (t' := 26); have ne4 : g6 ≠ g8 := H.boxne (cs := [.string ⟨(takeQ p.f_Queue r).1.f_Route.toArray⟩, .int .i64 (takeQ p.f_Queue r).1.f_Topic, .int .i64 (takeQ p.f_Queue r).1.f_Due, u5]) (cs' := [.string ⟨#[]⟩, .int .i64 0, .int .i64 0, .slice none 0 0]) (t := 45) (t' := 45); refine draw_of [(0, true), (1, true), (2, false), (3, false), (4, true)] wg.heap.size [(g2, 0), (g8, 0)] fun wj hh hbj => vs ?_; have H := H.go (hbj _); have hwj : wj.heap.size = wg.heap.size := by rw [hh]
        rw [← hwj]; have qa : ∀ k, (g7, k) ∉ [(g2, 0), (g8, 0)] := fun k hk => by simp only [List.mem_cons, List.not_mem_nil, or_false, Prod.mk.injEq] at hk; omega
        have qb : ∀ k, (g6, k) ∉ [(g2, 0), (g8, 0)] := fun k hk => by simp only [List.mem_cons, List.not_mem_nil, or_false, Prod.mk.injEq] at hk; omega
        have z0 : ∀ g t, (g, t) ∈ [(g2, 0), (g8, 0)] → t = 0 := fun g t ht => by simp only [List.mem_cons, List.not_mem_nil, or_false, Prod.mk.injEq] at ht; omega
        refine q_ldaG H st26 qa (cs := [vq, .int .i64 p.f_Time, v8, .int .i64 p.f_Sure]) ?_; refine vs ?_; refine q_ldaG H st45 qb (cs := [.string ⟨(takeQ p.f_Queue r).1.f_Route.toArray⟩, .int .i64 (takeQ p.f_Queue r).1.f_Topic, .int .i64 (takeQ p.f_Queue r).1.f_Due, u5]) ?_; refine vs ?_; refine x_staD H st26 (vs := [vq, .int .i64 p.f_Time, v8, .int .i64 p.f_Sure]) (fun wk H hc1 => vs ?_) (h1 := one4 oq o8); have k1 := kept_chg (G := [(g2, 0), (g8, 0)]) (Kept.refl wj.heap.size _ wj) hc1 (fun b hb => by simp only [List.mem_singleton] at hb; subst hb; exact .head _) (Nat.le_refl _) z0; refine ⟨k1, ?_⟩; refine x_staD H st45 (vs := [.string ⟨(takeQ p.f_Queue r).1.f_Route.toArray⟩, .int .i64 (takeQ p.f_Queue r).1.f_Topic, .int .i64 (takeQ p.f_Queue r).1.f_Due, u5]) (fun wl H hc2 => vs ?_) (h1 := oi); refine ⟨kept_chg k1 hc2 (fun b hb => by simp only [List.mem_singleton] at hb; subst hb; exact .tail _ (.head _)) hc1.size z0, ?_⟩; have H := H.front (c := Ck.own kItem fi [.string ⟨(takeQ p.f_Queue r).1.f_Route.toArray⟩, .int .i64 (takeQ p.f_Queue r).1.f_Topic, .int .i64 (takeQ p.f_Queue r).1.f_Due, u5] (takeQ p.f_Queue r).1); have H := H.front (c := Ck.own (bytes 5) f8 [v8] (p.f_Book ++ lineBytes (takeLine r))); have H := H.front (c := Ck.own items fq [vq] (takeQ p.f_Queue r).2.1); obtain ⟨fz, H⟩ := ownPost (⟨(takeQ p.f_Queue r).2.1, p.f_Time, p.f_Book ++ lineBytes (takeLine r), p.f_Sure⟩ : MPost) H h1 h3; rw [fetch_done hok hro htk hf]; exact ⟨_, _, rfl, res_cell H st26, _, _, rfl, res_cell H st45, _, _, _, _, rfl, H.two .here .here⟩
section
variable {P : Program} {w : World} {K : Value → World → Prop} {tg : Tg K}
end
def kkB (s L keep : Int) : Nat := (s + max 0 (min keep (L - s))).toNat
theorem kkB_le {s : Int} {n : Nat} {keep : Int} (h : 0 ≤ s ∧ s ≤ (n : Int)) : kkB s (n : Int) keep ≤ n := by unfold kkB; omega
theorem fall_d {s L : Int} (h : 0 ≤ s ∧ s ≤ L) (hL : L ≤ 12000) : w64 (L - s) = L - s := by unfold w64; omega
theorem fall_2 {s L keep : Int} (h : 0 ≤ s ∧ s ≤ L) (hL : L ≤ 12000) : w64 (s + min (max keep 0) (L - s)) = (kkB s L keep : Int) := by unfold w64 kkB; omega
theorem fall_bad {p : MPost} {keep : Int} (h : postOk p = false) : fallP p keep = p := by unfold fallP; rw [if_neg (by rw [h]; decide)]
theorem fall_ok {p : MPost} {keep : Int} (h : postOk p = true) : fallP p keep = ⟨(play (p.f_Book.take (kkB p.f_Sure p.f_Book.length keep))).1, (play (p.f_Book.take (kkB p.f_Sure p.f_Book.length keep))).2.1, (p.f_Book.take (kkB p.f_Sure p.f_Book.length keep)).take (play (p.f_Book.take (kkB p.f_Sure p.f_Book.length keep))).2.2, ((play (p.f_Book.take (kkB p.f_Sure p.f_Book.length keep))).2.2 : Int)⟩ := by unfold fallP; rw [if_pos h]; rfl
theorem playGo_fits (m : Nat) : ∀ (x : List UInt8) (q : List MItem) (now : Int) (k : Nat), x.length ≤ m → QI q → (0 ≤ now ∧ now ≤ 100000) →
    QI (playGo x q now k).1 ∧ (0 ≤ (playGo x q now k).2.1 ∧ (playGo x q now k).2.1 ≤ 100000) ∧ (playGo x q now k).2.2 ≤ k + x.length := by
  induction m with
  | zero =>
    intro x q now k hx hq hn
    have e : lineAt x = none := by
      cases h : lineAt x with
      | none => rfl
      | some y => obtain ⟨l, n⟩ := y; have := lineAt_len h; omega
    rw [playGo_none e]; exact ⟨hq, hn, Nat.le_add_right _ _⟩
  | succ m ih =>
    intro x q now k hx hq hn
    cases h : lineAt x with
    | none => rw [playGo_none h]; exact ⟨hq, hn, Nat.le_add_right _ _⟩
    | some y =>
      obtain ⟨l, n⟩ := y; obtain ⟨h18, hnl, hok, _⟩ := lineAt_len h; rw [playGo_some h]; have := ih (x.drop n) (lineStep q now l).1 (lineStep q now l).2 (k + n) (by rw [List.length_drop]; omega) (QI_step hq) (now_step hok hn); refine ⟨this.1, this.2.1, ?_⟩; have h3 := this.2.2; rw [List.length_drop] at h3; omega
theorem play_fits (x : List UInt8) : QI (play x).1 ∧ (0 ≤ (play x).2.1 ∧ (play x).2.1 ≤ 100000) ∧ (play x).2.2 ≤ x.length := by
  have := playGo_fits x.length x [] 0 0 (Nat.le_refl _) QI_nil (by decide); unfold play; simpa using this
theorem fallP_sm {p : MPost} {keep : Int} (hs : smPost p) : smPost (fallP p keep) := by
  cases h : postOk p with
  | false => rw [fall_bad h]; exact hs
  | true =>
    rw [fall_ok h]; refine ⟨(play_fits _).1.sm, ?_⟩; have := (postOk_iff.1 h).1.2.2.1
    show ((p.f_Book.take _).take _).length ≤ 1048576
    rw [List.length_take, List.length_take]; omega
theorem l1MaxB_ok (w : World) (a b : Int) : ACalls Tryz.prog 121 #[.int .i64 a, .int .i64 b] w fun r w' => r = .int .i64 (max a b) ∧ w' = w := by
  refine body_of follows Tryz.func121 rfl rfl _ rfl (by kernel_rfl) (vs ?_)
  by_cases q : b < a
  · refine ve q ?_
    congr 1; omega
  · refine ve q ?_
    congr 1; omega
theorem l1MinB_ok (w : World) (a b : Int) : ACalls Tryz.prog 149 #[.int .i64 a, .int .i64 b] w fun r w' => r = .int .i64 (min a b) ∧ w' = w := by
  refine body_of follows Tryz.func149 rfl rfl _ rfl (by kernel_rfl) (vs (ways ?_ ?_))
  · refine vh fun h => ?_
    exact i64_eq (by omega)
  · refine vh fun h => ?_
    exact i64_eq (by omega)
theorem specFallTo_ok (w : World) (cs : List Value) (p : MPost) (keep : Int) (h : kPost.rd w w.heap.size cs p) (hs : smPost p) :
    ACalls Tryz.prog 126 #[.agg cs.toArray, .int .i64 keep] w fun r w' => ∃ cs' fp, r = .agg cs'.toArray ∧ Sep w.heap.size w w' [Ck.own kPost fp cs' (fallP p keep)] := by
  have hs' := hs; unfold smPost at hs'; have h9 := h; obtain ⟨v0, v2, rfl, h0, h1, h2, h3⟩ := kPost_open h; obtain ⟨A2, c2, rfl, _⟩ := sl_open h2; have H := Sep.start w; refine body_of follows Tryz.func126 rfl rfl _ rfl (by kernel_rfl) (vs ?_); refine x_bx H [v0, .int .i64 p.f_Time, .slice A2 p.f_Book.length c2, .int .i64 p.f_Sure] fun g1 w1 H => vs ?_; refine x_al H st26 fun g2 w2 H => vs ?_; refine x_lda H st26 ?_; refine vs ?_; refine x_callb H (specPostOk_ok _ _ p (H.rd h9) hs) fun w6 H => ?_
  cases hok : postOk p with
  | false =>
    refine vs ?_; refine x_lda H st26 ?_; refine vs ?_; refine x_call (l15Copy_ok _ _ p (H.rd h9) hs) fun _ w3 R => ?_; unfold PostR at R; obtain ⟨pa0, pf0, pa2, pf2, rfl, S⟩ := R; have H := H.join S; simp only [List.cons_append, List.nil_append] at H; have po0 := one1 (fp := pf0) (x := p.f_Queue) H (.head _); obtain ⟨pB, pd, rfl, _⟩ := sl_open (H.own (fp := pf2) (x := p.f_Book) (.tail _ (.head _))); refine vs ?_; refine x_sta H st26 (vs := [pa0, .int .i64 p.f_Time, .slice pB p.f_Book.length pd, .int .i64 p.f_Sure]) (h1 := one4 po0 rfl) fun wz H => vs ?_; have H := H.front (c := Ck.own (bytes 5) pf2 [.slice pB p.f_Book.length pd] p.f_Book); have H := H.front (c := Ck.own items pf0 [pa0] p.f_Queue); obtain ⟨fz, H⟩ := ownPost p H h1 h3; rw [fall_bad hok]; exact ⟨_, _, rfl, res_cell H st26, _, _, rfl, H.head⟩
  | true =>
    have hS := (postOk_iff.1 hok).1.2.2.2; have hL := (postOk_iff.1 hok).1.2.2.1; have hkk : (kkB p.f_Sure p.f_Book.length keep) ≤ p.f_Book.length := kkB_le hS; obtain ⟨pq, pn, pm⟩ := play_fits (p.f_Book.take (kkB p.f_Sure p.f_Book.length keep)); have hpl : (p.f_Book.take (kkB p.f_Sure p.f_Book.length keep)).length ≤ 12000 := by rw [List.length_take]; omega
    refine vs ?_; refine cut_to (σ := Value × List Nat) (fun y => [(4, .pointer (some ⟨g2, 0, none⟩)), (5, y.1)]) (fun y w' => Sep w.heap.size w w' [Ck.own (bytes 5) y.2 [y.1] (p.f_Book.take (kkB p.f_Sure p.f_Book.length keep)), Ck.box g2 [.slice none 0 0, .int .i64 0, .slice none 0 0, .int .i64 0] 26]) ?_ ?_
    · have J := Sep.start w6
      refine fork_draw w6.heap.size [] fun wa hh hba => ?_; have J := J.go (hba _); have J3 := J; refine rest_pre [(1, true), (2, true), (3, true), (4, true), (5, true), (7, true), (8, true), (9, true), (10, true), (11, true), (12, true)] 7 ?_; refine vs ?_; refine q_ldB H J3 sc22 ?_; refine vs ?_; refine q_ldB H J3 sc3 ?_; refine vs ?_; refine q_ldB H J3 sc22 ?_; refine vs ?_; refine q_ldB H J3 sc3 ?_; refine ve (fall_d hS (by omega)) ?_; refine rest_fork 0 6 6 ?_ ?_
      · refine vs ?_
        refine x_emp J pl_u8 sl22 fun gb wb J => vs ?_; refine ⟨kept_base J3 J, ?_⟩; refine rest_end [(6, false), (13, false), (14, true), (15, true), (16, false), (17, true)] ?_; refine vs ?_; refine x_callw (l1MaxB_ok _ _ _) ?_; refine vs ?_; refine ⟨kept_base J3 J, ?_⟩; refine x_callw (l1MinB_ok _ _ _) ?_; refine vs ?_; refine ⟨kept_base J3 J, ?_⟩; refine ve (fall_2 (keep := keep) hS (by omega)) ?_; refine q_toN sl22 rfl (kkB p.f_Sure p.f_Book.length keep) h2 rfl hkk fun v4 hv4 => vs ?_; refine x_app J pl_u8 sl22 (J.rd (H.rd hv4)) ?_ ?_ fun f5 v5 wc J => vs ?_
        · simp only [List.length_nil, List.length_take]; omega
        · simp only [List.length_nil, List.length_take]; omega
        refine ⟨kept_base J3 J, ?_⟩; rw [List.nil_append] at J; have H := H.join J; simp only [List.cons_append, List.nil_append] at H; have H := H.front (c := Ck.box g2 [.slice none 0 0, .int .i64 0, .slice none 0 0, .int .i64 0] 26); have H := H.front (c := Ck.own (bytes 5) f5 [v5] (p.f_Book.take (kkB p.f_Sure p.f_Book.length keep))); exact ⟨(v5, f5), vs trivial, Sep.left (L := [_, _]) H⟩
      · refine vs ?_
        refine x_callw (l1MaxB_ok _ _ _) ?_; refine vs ?_; refine ⟨kept_base J3 J, ?_⟩; refine rest_fork 0 13 5 ?_ ?_
        · refine vs ?_
          refine x_emp J pl_u8 sl22 fun gb wb J => vs ?_; refine ⟨kept_base J3 J, ?_⟩; refine rest_end [(13, false), (14, true), (15, true), (16, false), (17, true)] ?_; refine vs ?_; refine x_callw (l1MinB_ok _ _ _) ?_; refine vs ?_; refine ⟨kept_base J3 J, ?_⟩; refine ve (fall_2 (keep := keep) hS (by omega)) ?_; refine q_toN sl22 rfl (kkB p.f_Sure p.f_Book.length keep) h2 rfl hkk fun v4 hv4 => vs ?_; refine x_app J pl_u8 sl22 (J.rd (H.rd hv4)) ?_ ?_ fun f5 v5 wc J => vs ?_
          · simp only [List.length_nil, List.length_take]; omega
          · simp only [List.length_nil, List.length_take]; omega
          refine ⟨kept_base J3 J, ?_⟩; rw [List.nil_append] at J; have H := H.join J; simp only [List.cons_append, List.nil_append] at H; have H := H.front (c := Ck.box g2 [.slice none 0 0, .int .i64 0, .slice none 0 0, .int .i64 0] 26); have H := H.front (c := Ck.own (bytes 5) f5 [v5] (p.f_Book.take (kkB p.f_Sure p.f_Book.length keep))); exact ⟨(v5, f5), vs trivial, Sep.left (L := [_, _]) H⟩
        · refine vs ?_
          refine x_callw (l1MinB_ok _ _ _) ?_; refine vs ?_; refine ⟨kept_base J3 J, ?_⟩; refine rest_end [(14, true), (15, true), (0, false), (16, false), (17, true)] ?_; refine vs ?_; refine ve (fall_2 (keep := keep) hS (by omega)) ?_; refine q_toN sl22 rfl (kkB p.f_Sure p.f_Book.length keep) h2 rfl hkk fun v4 hv4 => vs ?_; refine x_emp J pl_u8 sl22 fun gb wb J => vs ?_; refine ⟨kept_base J3 J, ?_⟩; refine x_app J pl_u8 sl22 (J.rd (H.rd hv4)) ?_ ?_ fun f5 v5 wc J => vs ?_
          · simp only [List.length_nil, List.length_take]; omega
          · simp only [List.length_nil, List.length_take]; omega
          refine ⟨kept_base J3 J, ?_⟩; rw [List.nil_append] at J; have H := H.join J; simp only [List.cons_append, List.nil_append] at H; have H := H.front (c := Ck.box g2 [.slice none 0 0, .int .i64 0, .slice none 0 0, .int .i64 0] 26); have H := H.front (c := Ck.own (bytes 5) f5 [v5] (p.f_Book.take (kkB p.f_Sure p.f_Book.length keep))); exact ⟨(v5, f5), vs trivial, Sep.left (L := [_, _]) H⟩
    rintro ⟨v5, f5⟩ s9 wf H; dsimp only at H; have hv5 := H.own (.head _); refine vs ?_; refine x_call (specPlay_ok _ v5 _ hv5 (by omega)) fun _ w7 ⟨vq, fq, e, S⟩ => ?_; subst e; have hv5 := Sep.rd S hv5; have H := H.join S; simp only [List.cons_append, List.nil_append] at H; refine vs ?_; refine x_emp H pl_u8 sl22 fun gb wb H => vs ?_; refine x_toN sl22 rfl (play (p.f_Book.take (kkB p.f_Sure p.f_Book.length keep))).2.2 (H.om (fp := f5) (x := p.f_Book.take (kkB p.f_Sure p.f_Book.length keep))) rfl pm fun v8 hv8 => vs ?_; refine x_app H pl_u8 sl22 hv8 ?_ ?_ fun f9 r9 w9 H => vs ?_
    · simp only [List.length_nil, List.length_take]; omega
    · simp only [List.length_nil, List.length_take]; omega
    rw [List.nil_append] at H; obtain ⟨Aq, cq, rfl, _⟩ := sl_open (H.own (fp := fq) (x := (play (p.f_Book.take (kkB p.f_Sure p.f_Book.length keep))).1) (by repeat (first | exact List.mem_cons_self | apply List.mem_cons_of_mem))); obtain ⟨Ab, cb, rfl, _⟩ := sl_open (H.own (fp := f9) (x := (p.f_Book.take (kkB p.f_Sure p.f_Book.length keep)).take (play (p.f_Book.take (kkB p.f_Sure p.f_Book.length keep))).2.2) (by repeat (first | exact List.mem_cons_self | apply List.mem_cons_of_mem))); refine x_build bl26 [.slice Aq (play (p.f_Book.take (kkB p.f_Sure p.f_Book.length keep))).1.length cq, .int .i64 (play (p.f_Book.take (kkB p.f_Sure p.f_Book.length keep))).2.1, .slice Ab ((p.f_Book.take (kkB p.f_Sure p.f_Book.length keep)).take (play (p.f_Book.take (kkB p.f_Sure p.f_Book.length keep))).2.2).length cb, .int .i64 ((play (p.f_Book.take (kkB p.f_Sure p.f_Book.length keep))).2.2 : Int)] ?_; refine vs ?_; refine x_sta H st26 (vs := [.slice Aq (play (p.f_Book.take (kkB p.f_Sure p.f_Book.length keep))).1.length cq, .int .i64 (play (p.f_Book.take (kkB p.f_Sure p.f_Book.length keep))).2.1, .slice Ab ((p.f_Book.take (kkB p.f_Sure p.f_Book.length keep)).take (play (p.f_Book.take (kkB p.f_Sure p.f_Book.length keep))).2.2).length cb, .int .i64 ((play (p.f_Book.take (kkB p.f_Sure p.f_Book.length keep))).2.2 : Int)]) (h1 := one4 rfl rfl) fun wz H => vs ?_; have H := H.front (c := Ck.own (bytes 5) f9 [.slice Ab ((p.f_Book.take (kkB p.f_Sure p.f_Book.length keep)).take (play (p.f_Book.take (kkB p.f_Sure p.f_Book.length keep))).2.2).length cb] ((p.f_Book.take (kkB p.f_Sure p.f_Book.length keep)).take (play (p.f_Book.take (kkB p.f_Sure p.f_Book.length keep))).2.2))
    have H := H.front (c := Ck.own items fq [.slice Aq (play (p.f_Book.take (kkB p.f_Sure p.f_Book.length keep))).1.length cq] (play (p.f_Book.take (kkB p.f_Sure p.f_Book.length keep))).1); obtain ⟨fz, H⟩ := ownPost (⟨(play (p.f_Book.take (kkB p.f_Sure p.f_Book.length keep))).1, (play (p.f_Book.take (kkB p.f_Sure p.f_Book.length keep))).2.1, (p.f_Book.take (kkB p.f_Sure p.f_Book.length keep)).take (play (p.f_Book.take (kkB p.f_Sure p.f_Book.length keep))).2.2, ((play (p.f_Book.take (kkB p.f_Sure p.f_Book.length keep))).2.2 : Int)⟩ : MPost) H (by dsimp only; omega) (by dsimp only; omega); rw [fall_ok hok]; exact ⟨_, _, rfl, res_cell H st26, _, _, rfl, H.head⟩
theorem w4_sum (a b c d : UInt8) : w4 a b c d = ((a.toNat * 16777216 + b.toNat * 65536 + c.toNat * 256 + d.toNat : Nat) : Int) := by
  have ha := a.toNat_lt; have hb := b.toNat_lt; have hc := c.toNat_lt; have hd := d.toNat_lt; unfold w4; rw [ishl_nat (by omega) (by omega), ishl_nat (by omega) (by omega), ishl_nat (by omega) (by omega)]
  have s1 : a.toNat <<< 24 ||| b.toNat <<< 16 = (a.toNat * 256 + b.toNat) <<< 16 := by
    rw [← Nat.shiftLeft_add_eq_or_of_lt (i := 24) (by rw [Nat.shiftLeft_eq]; omega)]; simp only [Nat.shiftLeft_eq]; omega
  have s2 : (a.toNat * 256 + b.toNat) <<< 16 ||| c.toNat <<< 8 = ((a.toNat * 256 + b.toNat) * 256 + c.toNat) <<< 8 := by
    rw [← Nat.shiftLeft_add_eq_or_of_lt (i := 16) (by rw [Nat.shiftLeft_eq]; omega)]; simp only [Nat.shiftLeft_eq]; omega
  have s3 : ((a.toNat * 256 + b.toNat) * 256 + c.toNat) <<< 8 ||| d.toNat = a.toNat * 16777216 + b.toNat * 65536 + c.toNat * 256 + d.toNat := by
    rw [← Nat.shiftLeft_add_eq_or_of_lt (i := 8) (by omega)]; simp only [Nat.shiftLeft_eq]; omega
  have g1 : a.toNat <<< 24 < 9223372036854775808 := by rw [Nat.shiftLeft_eq]; omega
  have g2 : b.toNat <<< 16 < 9223372036854775808 := by rw [Nat.shiftLeft_eq]; omega
  have g3 : c.toNat <<< 8 < 9223372036854775808 := by rw [Nat.shiftLeft_eq]; omega
  have g4 : (a.toNat * 256 + b.toNat) <<< 16 < 9223372036854775808 := by rw [Nat.shiftLeft_eq]; omega
  have g5 : ((a.toNat * 256 + b.toNat) * 256 + c.toNat) <<< 8 < 9223372036854775808 := by rw [Nat.shiftLeft_eq]; omega
  rw [ior_nat g1 g2, s1, ior_nat g4 g3, s2, ior_nat g5 (by omega), s3]
theorem great4 {n : Int} (h : 0 ≤ n) : greatB n 4 = [UInt8.ofNat (n.toNat / 16777216 % 256), UInt8.ofNat (n.toNat / 65536 % 256), UInt8.ofNat (n.toNat / 256 % 256), UInt8.ofNat (n.toNat % 256)] := by
  unfold greatB littleB; rw [if_pos ⟨h, by decide, by decide⟩, show (4 : Int).toNat = 4 from rfl]
  simp [List.range_succ]
theorem great2 {n : Int} (h : 0 ≤ n) : greatB n 2 = [UInt8.ofNat (n.toNat / 256 % 256), UInt8.ofNat (n.toNat % 256)] := by
  unfold greatB littleB; rw [if_pos ⟨h, by decide, by decide⟩, show (2 : Int).toNat = 2 from rfl]
  simp [List.range_succ]
theorem ofNat_nat {k : Nat} (h : k < 256) : (UInt8.ofNat k).toNat = k := by rw [UInt8.toNat_ofNat']; omega
theorem list8 {l : List UInt8} (h : l.length = 8) : ∃ a b c d e f g i, l = [a, b, c, d, e, f, g, i] := by
  match l, h with
  | [a, b, c, d, e, f, g, i], _ => exact ⟨a, b, c, d, e, f, g, i, rfl⟩
theorem lineOk_topic {l : MLine} (h : lineOk l = true) : 0 ≤ l.f_Topic ∧ l.f_Topic ≤ 9 := by
  unfold lineOk at h
  split at h
  · exact (itemOk_iff.1 h).2.1
  · split at h
    · simp only [Bool.and_eq_true, decide_eq_true_eq] at h; omega
    · split at h
      · simp only [Bool.and_eq_true, decide_eq_true_eq] at h; omega
      · cases h
theorem lineOk_back {l : MLine} (h : lineOk l = true) : (if l.f_Kind.toNat = 3 then [] else hexB (lineRoute l)) = l.f_Route := by
  have hk := lineOk_kind h; unfold lineRoute; unfold lineOk at h
  rcases hk with hk | hk | hk
  · rw [if_pos hk] at h
    rw [if_neg (by omega), if_neg (by omega)]; exact hex_unhex (isRoute_len (itemOk_iff.1 h).1).1
  · rw [if_neg (by omega), if_pos hk] at h
    rw [if_neg (by omega), if_neg (by omega)]; simp only [Bool.and_eq_true] at h; exact hex_unhex (isRoute_len h.1.1.1).1
  · rw [if_neg (by omega), if_neg (by omega), if_pos hk] at h
    rw [if_pos (by omega)]; simp only [Bool.and_eq_true, decide_eq_true_eq] at h; exact h.1.1.2.symm
theorem lineAt_bytes {l : MLine} (h : lineOk l = true) (rest : List UInt8) : lineAt (lineBytes l ++ rest) = some (l, (lineBytes l).length) := by
  have hlen := lineBytes_len h; have hb := lineOk_bytes h; have hd := lineOk_due h; have ht := lineOk_topic h; have hk := lineOk_kind h; have hback := lineOk_back h; obtain ⟨r0, r1, r2, r3, r4, r5, r6, r7, hr⟩ := list8 (lineRoute_len h)
  have ex : lineBytes l ++ rest = u8i l.f_Kind :: r0 :: r1 :: r2 :: r3 :: r4 :: r5 :: r6 :: r7 :: u8i l.f_Topic :: UInt8.ofNat (l.f_Due.toNat / 16777216 % 256) :: UInt8.ofNat (l.f_Due.toNat / 65536 % 256) :: UInt8.ofNat (l.f_Due.toNat / 256 % 256) :: UInt8.ofNat (l.f_Due.toNat % 256) :: UInt8.ofNat (l.f_Bytes.length / 256 % 256) :: UInt8.ofNat (l.f_Bytes.length % 256) :: (l.f_Bytes ++ (greatB ((lineHead l).length : Int) 2 ++ rest)) := by
    unfold lineBytes; rw [if_pos h]
    conv => lhs; rw [lineHead, hr, great4 hd.1, great2 (n := (l.f_Bytes.length : Int)) (by omega)]
    simp only [Int.toNat_natCast, List.append_assoc, List.cons_append, List.nil_append]; rw [lineHead, hr, great4 hd.1, great2 (n := (l.f_Bytes.length : Int)) (by omega)]; simp only [Int.toNat_natCast, List.append_assoc, List.cons_append, List.nil_append]
  have hsz : lineSz (lineBytes l ++ rest) = l.f_Bytes.length := by
    rw [ex]; unfold lineSz be; simp only [List.getD_eq_getElem?_getD, List.getElem?_cons_succ, List.getElem?_cons_zero, Option.getD_some]; rw [ofNat_nat (by omega), ofNat_nat (by omega)]; omega
  have hraw : rawLine (lineBytes l ++ rest) = l := by
    unfold rawLine; rw [hsz, ex]; unfold be; simp only [List.getD_eq_getElem?_getD, List.getElem?_cons_succ, List.getElem?_cons_zero, Option.getD_some, List.drop_succ_cons, List.drop_zero, List.take_succ_cons, List.take_zero]; have e1 : (u8i l.f_Kind).toNat = l.f_Kind.toNat := by unfold u8i; rw [ofNat_nat (by omega)]; omega
    have e2 : ((u8i l.f_Topic).toNat : Int) = l.f_Topic := by unfold u8i; rw [ofNat_nat (by omega)]; omega
    have e3 : w4 (UInt8.ofNat (l.f_Due.toNat / 16777216 % 256)) (UInt8.ofNat (l.f_Due.toNat / 65536 % 256)) (UInt8.ofNat (l.f_Due.toNat / 256 % 256)) (UInt8.ofNat (l.f_Due.toNat % 256)) = l.f_Due := by
      rw [w4_sum, ofNat_nat (by omega), ofNat_nat (by omega), ofNat_nat (by omega), ofNat_nat (by omega)]; omega
    have e4 : (l.f_Bytes ++ (greatB ((lineHead l).length : Int) 2 ++ rest)).take l.f_Bytes.length = l.f_Bytes := by rw [List.take_left']; rfl
    rw [e1, e2, e3, e4, ← hr, hback]; have e0 : ((l.f_Kind.toNat : Nat) : Int) = l.f_Kind := by omega
    rw [e0]
  have h2 : lineBytes (rawLine (lineBytes l ++ rest)) = (lineBytes l ++ rest).take (18 + lineSz (lineBytes l ++ rest)) := by
    rw [hraw, hsz, ← hlen, List.take_left']; rfl
  rw [lineAt_yes (by rw [List.length_append]; omega) (by rw [hsz, List.length_append]; omega) h2, hraw, hsz, hlen]
theorem lineAt_more {b : List UInt8} {l : MLine} {n : Nat} (h : lineAt b = some (l, n)) (y : List UInt8) : lineAt (b ++ y) = some (l, n) := by
  obtain ⟨h18, hn, hok, hb⟩ := lineAt_len h; have e : b ++ y = lineBytes l ++ (b.drop n ++ y) := by rw [hb, ← List.append_assoc, List.take_append_drop]
  have e2 : (lineBytes l).length = n := by rw [hb, List.length_take]; omega
  rw [e, lineAt_bytes hok, e2]
theorem lineAt_nil : lineAt [] = none := lineAt_no (by simp)
theorem playGo_app (m : Nat) : ∀ (b y : List UInt8) (q : List MItem) (now : Int) (k : Nat), b.length ≤ m → (playGo b q now k).2.2 = k + b.length →
    playGo (b ++ y) q now k = playGo y (playGo b q now k).1 (playGo b q now k).2.1 (k + b.length) := by
  induction m with
  | zero =>
    intro b y q now k hm hw; obtain rfl : b = [] := List.length_eq_zero_iff.1 (by omega); rw [playGo_none lineAt_nil]; rfl
  | succ m ih =>
    intro b y q now k hm hw
    cases h : lineAt b with
    | none =>
      rw [playGo_none h] at hw; obtain rfl : b = [] := List.length_eq_zero_iff.1 (by dsimp only at hw; omega); rw [playGo_none lineAt_nil]; rfl
    | some ln =>
      obtain ⟨l, n⟩ := ln; obtain ⟨h18, hn, _, _⟩ := lineAt_len h; rw [playGo_some h] at hw ⊢; rw [playGo_some (lineAt_more h y), List.drop_append_of_le_length hn, ih (b.drop n) y _ _ _ (by rw [List.length_drop]; omega) (by rw [hw, List.length_drop]; omega)]; rw [List.length_drop, show k + n + (b.length - n) = k + b.length by omega]
theorem play_app {b : List UInt8} {q : List MItem} {now : Int} (h : play b = (q, now, b.length)) {l : MLine} (hl : lineOk l = true) :
    play (b ++ lineBytes l) = ((lineStep q now l).1, (lineStep q now l).2, (b ++ lineBytes l).length) := by
  unfold play at h ⊢; rw [playGo_app b.length b _ _ _ _ (Nat.le_refl _) (by rw [h]; simp), h]; have e := lineAt_bytes hl []; rw [List.append_nil] at e; rw [playGo_some e, List.drop_length, playGo_none lineAt_nil, List.length_append]
  simp
theorem playGo_at (m : Nat) : ∀ (b : List UInt8) (q q' : List MItem) (now now' : Int) (k k' : Nat), b.length ≤ m → (playGo b q now k).2.2 = k + b.length → (playGo b q' now' k').2.2 = k' + b.length := by
  induction m with
  | zero =>
    intro b q q' now now' k k' hm hw; obtain rfl : b = [] := List.length_eq_zero_iff.1 (by omega); rw [playGo_none lineAt_nil]; rfl
  | succ m ih =>
    intro b q q' now now' k k' hm hw
    cases h : lineAt b with
    | none =>
      rw [playGo_none h] at hw; obtain rfl : b = [] := List.length_eq_zero_iff.1 (by dsimp only at hw; omega); rw [playGo_none lineAt_nil]; rfl
    | some ln =>
      obtain ⟨l, n⟩ := ln; obtain ⟨h18, hn, _, _⟩ := lineAt_len h; rw [playGo_some h] at hw ⊢; have := ih (b.drop n) (lineStep q now l).1 (lineStep q' now' l).1 (lineStep q now l).2 (lineStep q' now' l).2 (k + n) (k' + n) (by rw [List.length_drop]; omega) (by rw [hw, List.length_drop]; omega); rw [this, List.length_drop]; omega
def Whole (b : List UInt8) : Prop := (play b).2.2 = b.length
theorem Whole.drop {b : List UInt8} {l : MLine} {n : Nat} (hw : Whole b) (h : lineAt b = some (l, n)) : Whole (b.drop n) := by
  unfold Whole play at hw; obtain ⟨h18, hn, _, _⟩ := lineAt_len h; rw [playGo_some h] at hw; have := playGo_at (b.drop n).length (b.drop n) _ [] _ 0 _ 0 (Nat.le_refl _) (by rw [hw, List.length_drop]; omega); unfold Whole play
  omega
theorem Whole.none {b : List UInt8} (hw : Whole b) (h : lineAt b = none) : b = [] := by
  unfold Whole play at hw; rw [playGo_none h] at hw; exact List.length_eq_zero_iff.1 hw.symm
theorem ofN_sub {l q : List MItem} (h : l.Sublist q) (r : List UInt8) : ofN l r ≤ ofN q r := h.countP_le
theorem queueOk_sub : ∀ {q l : List MItem}, l.Sublist q → queueOk q = true → queueOk l = true := by
  intro q l h hq
  have key : ∀ q : List MItem, queueOk q = true ↔ q.length ≤ 10 ∧ (∀ x ∈ q, itemOk x = true ∧ ofN q x.f_Route ≤ 4) ∧ q.Pairwise fun a b => ¬ (0 < b.f_Topic ∧ twin b a = true) := by
    intro q; rw [queueOk_iff]; refine and_congr_right fun _ => ?_; rw [List.pairwise_iff_getElem]
    constructor
    · intro h
      refine ⟨fun x hx => ?_, fun i j hi hj hij => ?_⟩
      · obtain ⟨i, hi, rfl⟩ := List.getElem_of_mem hx
        have := h i hi; unfold qAt at this; rw [itAt_eq hi] at this; simp only [Bool.and_eq_true, decide_eq_true_eq] at this; exact this.1
      · have := h j hj
        unfold qAt at this; rw [itAt_eq hj] at this; simp only [Bool.and_eq_true, Bool.not_eq_true', Bool.and_eq_false_iff, decide_eq_false_iff_not] at this; rintro ⟨h1, h2⟩
        rcases this.2 with h3 | h3
        · exact h3 h1
        · rw [Bool.eq_false_iff] at h3
          exact h3 (List.any_eq_true.2 ⟨q[i], List.mem_take_iff_getElem.2 ⟨i, by omega, rfl⟩, h2⟩)
    · rintro ⟨h1, h2⟩ i hi
      unfold qAt; rw [itAt_eq hi]; have h3 := h1 q[i] (List.getElem_mem hi); simp only [Bool.and_eq_true, decide_eq_true_eq, Bool.not_eq_true', Bool.and_eq_false_iff, decide_eq_false_iff_not]; refine ⟨h3, ?_⟩
      by_cases h4 : 0 < q[i].f_Topic
      · right
        rw [Bool.eq_false_iff]; intro h5; obtain ⟨y, hy, h6⟩ := List.any_eq_true.1 h5; obtain ⟨j, hj, rfl⟩ := List.mem_take_iff_getElem.1 hy; exact h2 j i (by omega) hi (by omega) ⟨h4, h6⟩
      · exact .inl h4
  rw [key] at hq ⊢; refine ⟨Nat.le_trans h.length_le hq.1, fun x hx => ?_, hq.2.2.sublist h⟩; have := hq.2.1 x (h.subset hx); exact ⟨this.1, Nat.le_trans (ofN_sub h _) this.2⟩
theorem post_grown {p p' : MPost} {l : MLine} (h : postOk p = true) (hl : lineOk l = true) (hq : queueOk (lineStep p.f_Queue p.f_Time l).1 = true) (ht : 0 ≤ (lineStep p.f_Queue p.f_Time l).2 ∧ (lineStep p.f_Queue p.f_Time l).2 ≤ 100000)
    (hf : p.f_Book.length + (lineBytes l).length ≤ 12000) (e : p' = ⟨(lineStep p.f_Queue p.f_Time l).1, (lineStep p.f_Queue p.f_Time l).2, p.f_Book ++ lineBytes l, p.f_Sure⟩) : postOk p' = true := by
  subst e; obtain ⟨⟨h1, h2, h3, h4⟩, h5⟩ := postOk_iff.1 h; rw [postOk_iff]; refine ⟨⟨hq, ht, by dsimp only; rw [List.length_append]; omega, by dsimp only; rw [List.length_append]; omega⟩, ?_⟩; exact play_app h5 hl
def Grew (p p' : MPost) : Prop := postOk p' = true ∧ (p' = p ∨ ∃ l, lineOk l = true ∧ p'.f_Book = p.f_Book ++ lineBytes l)
theorem Grew.refl {p : MPost} (h : postOk p = true) : Grew p p := ⟨h, .inl rfl⟩
theorem putLine_ok' {x : MItem} (h : itemOk x = true) : lineOk (putLine x) = true := by
  unfold lineOk putLine itemOf; exact h
theorem takeLine_ok' {r : List UInt8} (h : isRoute r = true) : lineOk (takeLine r) = true := by
  unfold lineOk takeLine; simp [h]
theorem timeLine_ok' {n : Int} (h : 0 ≤ n ∧ n ≤ 100000) : lineOk (timeLine n) = true := by
  unfold lineOk timeLine; simp [h]
theorem drop_grew {p : MPost} (x : MItem) (h : postOk p = true) : Grew p (dropP p x).1 := by
  unfold dropP
  split
  · rename_i h1
    simp only [Bool.and_eq_true, decide_eq_true_eq] at h1
    split
    · rename_i h2
      unfold fits at h2; simp only [Bool.and_eq_true, decide_eq_true_eq] at h2
      have hp : queueOk (putL p.f_Queue x) = true := by
        have := h2.1; unfold put at this
        split at this
        · assumption
        · cases this
      have e1 : (put p.f_Queue x).1 = putL p.f_Queue x := by unfold put; rw [if_pos hp]
      have e2 : lineStep p.f_Queue p.f_Time (putLine x) = (putL p.f_Queue x, p.f_Time) := by
        unfold lineStep; rw [if_pos (show (putLine x).f_Kind = 1 from rfl), show itemOf (putLine x) = x from rfl, e1]
      refine ⟨post_grown h (putLine_ok' h1.1.2) (by rw [e2]; exact hp) (by rw [e2]; exact (postOk_iff.1 h).1.2.1) h2.2 (by rw [e2, e1]), .inr ⟨_, putLine_ok' h1.1.2, rfl⟩⟩
    · exact .refl h
  · exact .refl h
theorem fetch_grew {p : MPost} (r : List UInt8) (h : postOk p = true) : Grew p (fetchP p r).1 := by
  unfold fetchP
  split
  · rename_i h1
    simp only [Bool.and_eq_true] at h1
    split
    · split
      · rename_i h3
        unfold fits at h3; simp only [decide_eq_true_eq] at h3
        have e2 : lineStep p.f_Queue p.f_Time (takeLine r) = ((takeQ p.f_Queue r).2.1, p.f_Time) := by
          unfold lineStep; rw [if_neg (show ¬ (takeLine r).f_Kind = 1 from (by decide : ¬ (2 : Int) = 1)), if_pos (show (takeLine r).f_Kind = 2 from rfl)]; rfl
        have hq : queueOk (takeQ p.f_Queue r).2.1 = true := by
          refine queueOk_sub ?_ (postOk_iff.1 h).1.1; unfold takeQ
          split
          · exact List.eraseIdx_sublist _ _
          · exact List.Sublist.refl _
        refine ⟨post_grown h (takeLine_ok' h1.2) (by rw [e2]; exact hq) (by rw [e2]; exact (postOk_iff.1 h).1.2.1) h3 (by rw [e2]), .inr ⟨_, takeLine_ok' h1.2, rfl⟩⟩
      · exact .refl h
    · exact .refl h
  · exact .refl h
theorem tick_grew {p : MPost} (now : Int) (h : postOk p = true) : Grew p (tickP p now).1 := by
  unfold tickP
  split
  · rename_i h1
    simp only [Bool.and_eq_true, decide_eq_true_eq] at h1
    split
    · rename_i h3
      unfold fits at h3; simp only [decide_eq_true_eq] at h3; have ht := (postOk_iff.1 h).1.2.1; have hn : 0 ≤ now ∧ now ≤ 100000 := by omega
      have e2 : lineStep p.f_Queue p.f_Time (timeLine now) = (due p.f_Queue now, now) := by
        unfold lineStep; rw [if_neg (show ¬ (timeLine now).f_Kind = 1 from (by decide : ¬ (3 : Int) = 1)), if_neg (show ¬ (timeLine now).f_Kind = 2 from (by decide : ¬ (3 : Int) = 2)), if_pos (show (timeLine now).f_Kind = 3 from rfl), if_pos (show p.f_Time ≤ (timeLine now).f_Due from h1.2.1)]; rfl
      have hq : queueOk (due p.f_Queue now) = true := queueOk_sub List.filter_sublist (postOk_iff.1 h).1.1; refine ⟨post_grown h (timeLine_ok' hn) (by rw [e2]; exact hq) (by rw [e2]; exact hn) h3 (by rw [e2]), .inr ⟨_, timeLine_ok' hn, rfl⟩⟩
    · exact .refl h
  · exact .refl h
theorem sync_ok {p : MPost} (h : postOk p = true) : postOk (syncP p) = true := by
  obtain ⟨⟨h1, h2, h3, h4⟩, h5⟩ := postOk_iff.1 h; unfold syncP; rw [if_pos h, postOk_iff]; exact ⟨⟨h1, h2, h3, by dsimp only; omega⟩, h5⟩
theorem drop_zero {p : MPost} {x : MItem} (h : (dropP p x).2 = 0) : postOk p = true := by
  unfold dropP at h
  split at h
  · rename_i h1; simp only [Bool.and_eq_true] at h1; exact h1.1.1
  · cases h
end Go.Proofs.YtcmckbgiiclomacGreat.V
