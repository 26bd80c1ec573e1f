/- Time let go on at a post: both sides. Laid by a program. -/
import Derived.Test.YtdljbekkckfmnaaWqs
namespace Go.Proofs.Ytdljbekkckfmnaa.V
open Go Go.RowKit
set_option maxRecDepth 100000
set_option maxHeartbeats 4000000
set_option linter.unusedSimpArgs false
set_option linter.unusedVariables false
set_option pp.deepTerms false
set_option pp.deepTerms.threshold 3

theorem tick_bad {p : MPost} {now : Int} (h : ¬ (postOk p = true ∧ p.f_Time ≤ now ∧ now ≤ 100000)) : tickP p now = (p, 1) := by
  unfold tickP
  rw [if_neg]
  simp only [Bool.and_eq_true, decide_eq_true_eq]; exact h
theorem tick_full {p : MPost} {now : Int} (h : postOk p = true) (h2 : p.f_Time ≤ now ∧ now ≤ 100000) (h3 : ¬ p.f_Book.length + (lineBytes (timeLine now)).length ≤ 12000) : tickP p now = (p, 2) := by
  unfold tickP
  rw [if_pos (by rw [h, decide_eq_true h2]; rfl), if_neg (by unfold fits; rw [decide_eq_false h3]; decide)]
theorem tick_done {p : MPost} {now : Int} (h : postOk p = true) (h2 : p.f_Time ≤ now ∧ now ≤ 100000) (h3 : p.f_Book.length + (lineBytes (timeLine now)).length ≤ 12000) : tickP p now = (⟨due p.f_Queue now, now, p.f_Book ++ lineBytes (timeLine now), p.f_Sure⟩, 0) := by
  unfold tickP
  rw [if_pos (by rw [h, decide_eq_true h2]; rfl), if_pos (by unfold fits; rw [decide_eq_true h3])]
theorem timeLine_ok {n : Int} (h : 0 ≤ n ∧ n ≤ 100000) : lineOk (timeLine n) = true := by
  rw [lineOk_3 rfl]
  have e : decide (0 ≤ (timeLine n).f_Due ∧ (timeLine n).f_Due ≤ 100000) = true := decide_eq_true h
  rw [e]; rfl
theorem sm_due {q : List MItem} {n : Int} (h : smItemS q) : smItemS (due q n) := sm_filter h
theorem tickP_sm {p : MPost} {now : Int} (hs : smPost p) : smPost (tickP p now).1 := by
  unfold tickP
  split
  · split
    · rename_i h1 h2
      unfold fits at h2
      simp only [decide_eq_true_eq] at h2
      exact ⟨sm_due hs.1, by show (p.f_Book ++ lineBytes (timeLine now)).length ≤ 1048576; rw [List.length_append]; omega⟩
    · exact hs
  · exact hs
theorem timeLine_rd (w : World) (n : Nat) {t : Int} (h : 0 ≤ t ∧ t ≤ 100000) : kLine.rd w n [.int .i64 3, .string ⟨#[]⟩, .int .i64 0, .int .i64 t, .slice none 0 0] (timeLine t) :=
  kLine_of (timeLine t) (by show (-9223372036854775808 : Int) ≤ 3 ∧ (3 : Int) < 9223372036854775808; decide) (by show ([] : List UInt8).length ≤ 9223372036854775807; decide) (by show (-9223372036854775808 : Int) ≤ 0 ∧ (0 : Int) < 9223372036854775808; decide) (by show (-9223372036854775808 : Int) ≤ t ∧ t < 9223372036854775808; omega) (Kd.own_rd _ (sl_zero w) (by simp))
theorem implTick_ok (w : World) (cs : List Value) (p : MPost) (now : Int) (h : kPost.rd w w.heap.size cs p) (hs : smPost p) (hn : -9223372036854775808 ≤ now ∧ now < 9223372036854775808) :
    ACalls Try.prog 27 #[.agg cs.toArray, .int .i64 now] w fun r w' => ∃ cs' fp, r = .tuple #[.agg cs'.toArray, .int .i64 (tickP p now).2] ∧ Sep w.heap.size w w' [Ck.own kPost fp cs' (tickP p now).1] := by
  have hs' := hs
  unfold smPost at hs'
  have h9 := h
  obtain ⟨v0, v2, rfl, h0, h1, h2, h3⟩ := kPost_open h
  obtain ⟨A2, c2, rfl, _⟩ := sl_open h2
  have H := Sep.start w
  refine body_of follows Try.func27 rfl rfl _ rfl (by kernel_rfl) (vs ?_)
  refine x_bx H [v0, .int .i64 p.f_Time, .slice A2 p.f_Book.length c2, .int .i64 p.f_Sure] fun g1 w1 H => vs ?_
  refine x_al H st37 fun g2 w2 H => vs ?_
  refine x_lda H st37 ?_
  refine vs ?_
  refine x_call (clonePost_ok _ _ p (H.rd h9) hs) fun _ w3 R => ?_
  unfold PostR at R
  obtain ⟨pa0, pf0, pa2, pf2, rfl, S⟩ := R
  have H := H.join S
  simp only [List.cons_append, List.nil_append] at H
  have po0 := one1 (fp := pf0) (x := p.f_Queue) H (.head _)
  obtain ⟨pB, pd, rfl, _⟩ := sl_open (H.own (fp := pf2) (x := p.f_Book) (.tail _ (.head _)))
  refine vs ?_
  refine x_al H st37 fun g4 w4 H => vs ?_
  refine x_sta H st37 (vs := [pa0, .int .i64 p.f_Time, .slice pB p.f_Book.length pd, .int .i64 p.f_Sure]) (h1 := one4 po0 rfl) fun w4 H => vs ?_
  refine x_lda H st37 ?_
  refine vs ?_
  refine x_callb H (implPostOk_ok _ _ p (H.rd h9) hs) fun w6 H => ?_
  cases hok : postOk p with
  | false =>
    refine vs ?_
    refine x_lda H st37 ?_
    refine vs ?_
    refine x_sta H st37 (vs := [pa0, .int .i64 p.f_Time, .slice pB p.f_Book.length pd, .int .i64 p.f_Sure]) (h1 := one4 po0 rfl) fun wz H => vs ?_
    have H := H.front (c := Ck.own (bytes 5) pf2 [.slice pB p.f_Book.length pd] p.f_Book)
    have H := H.front (c := Ck.own items pf0 [pa0] p.f_Queue)
    obtain ⟨fz, H⟩ := ownPost p H h1 h3
    rw [tick_bad (fun hh => by have := hh.1; rw [hok] at this; cases this)]
    exact ⟨_, _, rfl, res_cell H st37, _, _, rfl, H.head⟩
  | true =>
    refine vs ?_
    refine x_ld H sc3 ?_
    refine vs ?_
    refine x_callw (in_ok w6 _ _ _) ?_
    by_cases hr : p.f_Time ≤ now ∧ now ≤ 100000
    rotate_left
    · refine ve hr ?_
      refine x_lda H st37 ?_
      refine vs ?_
      refine x_sta H st37 (vs := [pa0, .int .i64 p.f_Time, .slice pB p.f_Book.length pd, .int .i64 p.f_Sure]) (h1 := one4 po0 rfl) fun wz H => vs ?_
      have H := H.front (c := Ck.own (bytes 5) pf2 [.slice pB p.f_Book.length pd] p.f_Book)
      have H := H.front (c := Ck.own items pf0 [pa0] p.f_Queue)
      obtain ⟨fz, H⟩ := ownPost p H h1 h3
      rw [tick_bad (fun hh => hr hh.2)]
      exact ⟨_, _, rfl, res_cell H st37, _, _, rfl, H.head⟩
    have hpt := (postOk_iff.1 hok).1.2.1
    have hnr : 0 ≤ now ∧ now ≤ 100000 := by omega
    have hll := lineBytes_le (timeLine now)
    refine ve hr ?_
    refine x_build bl60 [.int .i64 3, .string ⟨#[]⟩, .int .i64 0, .int .i64 now, .slice none 0 0] ?_
    refine vs ?_
    have H := H.front (c := Ck.box g4 [pa0, .int .i64 p.f_Time, .slice pB p.f_Book.length pd, .int .i64 p.f_Sure] 37)
    have H := H.front (c := Ck.own (bytes 5) pf2 [.slice pB p.f_Book.length pd] p.f_Book)
    refine x_call (noted_ok [.int .i64 3, .string ⟨#[]⟩, .int .i64 0, .int .i64 now, .slice none 0 0] (timeLine now) H (timeLine_rd _ _ hnr) (by show ([] : List UInt8).length ≤ 1048576; decide) (by show ([] : List UInt8).length ≤ 1048576; decide) hs'.2) fun _ w8 ⟨e, f8, v8, H⟩ => ?_
    subst e
    by_cases hf : p.f_Book.length + (lineBytes (timeLine now)).length ≤ 12000
    rotate_left
    · rw [if_neg hf] at H
      refine ve hf ?_
      refine x_lda H st37 ?_
      refine vs ?_
      refine x_call (clonePost_ok _ _ p (H.rd h9) hs) fun _ w9 R => ?_
      unfold PostR at R
      obtain ⟨ra0, rf0, ra2, rf2, rfl, S⟩ := R
      have H := H.join S
      simp only [List.cons_append, List.nil_append] at H
      have ro0 := one1 (fp := rf0) (x := p.f_Queue) H (.head _)
      obtain ⟨rB, rd, rfl, _⟩ := sl_open (H.own (fp := rf2) (x := p.f_Book) (.tail _ (.head _)))
      refine vs ?_
      refine x_sta H st37 (vs := [ra0, .int .i64 p.f_Time, .slice rB p.f_Book.length rd, .int .i64 p.f_Sure]) (h1 := one4 ro0 rfl) fun wz H => vs ?_
      have H := H.front (c := Ck.own (bytes 5) rf2 [.slice rB p.f_Book.length rd] p.f_Book)
      have H := H.front (c := Ck.own items rf0 [ra0] p.f_Queue)
      obtain ⟨fz, H⟩ := ownPost p H h1 h3
      rw [tick_full hok hr hf]
      exact ⟨_, _, rfl, res_cell H st37, _, _, rfl, H.head⟩
    rw [if_pos hf] at H
    refine ve (show (p.f_Book.length + (lineBytes (timeLine now)).length ≤ 12000) = True from eq_true hf) ?_
    have o8 := one1 H (.head _)
    refine x_st H sc3 fun w9 H => vs ?_
    refine x_ld H sc35 ?_
    refine vs ?_
    refine x_callf H (implDue_ok w9 v0 _ now (H.rd h0) hs'.1) fun r10 f10 w10 H => vs ?_
    have o10 := one1 H (.head _)
    refine x_st H sc35 (h1 := o10) fun w11 H => vs ?_
    refine x_lda H st37 ?_
    refine vs ?_
    refine x_sta H st37 (vs := [r10, .int .i64 now, v8, .int .i64 p.f_Sure]) (h1 := one4 o10 o8) fun w12 H => vs ?_
    have H := H.front (c := Ck.own (bytes 5) f8 [v8] (p.f_Book ++ lineBytes (timeLine now)))
    have H := H.front (c := Ck.own items f10 [r10] (due p.f_Queue now))
    obtain ⟨fz, H⟩ := ownPost (⟨due p.f_Queue now, now, p.f_Book ++ lineBytes (timeLine now), p.f_Sure⟩ : MPost) H hn h3
    rw [tick_done hok hr hf]
    exact ⟨_, _, rfl, res_cell H st37, _, _, rfl, H.head⟩
theorem specTick_ok (w : World) (cs : List Value) (p : MPost) (now : Int) (h : kPost.rd w w.heap.size cs p) (hs : smPost p) (hn : -9223372036854775808 ≤ now ∧ now < 9223372036854775808) :
    ACalls Try.prog 26 #[.agg cs.toArray, .int .i64 now] w fun r w' => ∃ cs' fp, r = .tuple #[.agg cs'.toArray, .int .i64 (tickP p now).2] ∧ Sep w.heap.size w w' [Ck.own kPost fp cs' (tickP p now).1] := by
  have hs' := hs
  unfold smPost at hs'
  have h9 := h
  obtain ⟨v0, v2, rfl, h0, h1, h2, h3⟩ := kPost_open h
  obtain ⟨A2, c2, rfl, _⟩ := sl_open h2
  have H := Sep.start w
  refine body_of follows Try.func26 rfl rfl _ rfl (by kernel_rfl) (vs ?_)
  refine x_bx H [v0, .int .i64 p.f_Time, .slice A2 p.f_Book.length c2, .int .i64 p.f_Sure] fun g1 w1 H => vs ?_
  refine x_al H st37 fun g2 w2 H => vs ?_
  refine x_lda H st37 ?_
  refine vs ?_
  refine x_call (l15Copy_ok _ _ p (H.rd h9) hs) fun _ w3 R => ?_
  unfold PostR at R
  obtain ⟨pa0, pf0, pa2, pf2, rfl, S⟩ := R
  have H := H.join S
  simp only [List.cons_append, List.nil_append] at H
  have po0 := one1 (fp := pf0) (x := p.f_Queue) H (.head _)
  obtain ⟨pB, pd, rfl, _⟩ := sl_open (H.own (fp := pf2) (x := p.f_Book) (.tail _ (.head _)))
  refine vs ?_
  refine x_al H st37 fun g4 w4 H => vs ?_
  refine x_sta H st37 (vs := [pa0, .int .i64 p.f_Time, .slice pB p.f_Book.length pd, .int .i64 p.f_Sure]) (h1 := one4 po0 rfl) fun w4 H => vs ?_
  refine x_lda H st37 ?_
  refine vs ?_
  refine x_callb H (specPostOk_ok _ _ p (H.rd h9) hs) fun w6 H => ?_
  cases hok : postOk p with
  | false =>
    refine vs ?_
    refine x_lda H st37 ?_
    refine vs ?_
    refine x_sta H st37 (vs := [pa0, .int .i64 p.f_Time, .slice pB p.f_Book.length pd, .int .i64 p.f_Sure]) (h1 := one4 po0 rfl) fun wz H => vs ?_
    have H := H.front (c := Ck.own (bytes 5) pf2 [.slice pB p.f_Book.length pd] p.f_Book)
    have H := H.front (c := Ck.own items pf0 [pa0] p.f_Queue)
    obtain ⟨fz, H⟩ := ownPost p H h1 h3
    rw [tick_bad (fun hh => by have := hh.1; rw [hok] at this; cases this)]
    exact ⟨_, _, rfl, res_cell H st37, _, _, rfl, H.head⟩
  | true =>
    refine vs ?_
    refine x_ld H sc3 ?_
    refine vs ?_
    refine x_callw (l1In_ok w6 _ _ _) ?_
    by_cases hr : p.f_Time ≤ now ∧ now ≤ 100000
    rotate_left
    · refine ve hr ?_
      refine x_lda H st37 ?_
      refine vs ?_
      refine x_sta H st37 (vs := [pa0, .int .i64 p.f_Time, .slice pB p.f_Book.length pd, .int .i64 p.f_Sure]) (h1 := one4 po0 rfl) fun wz H => vs ?_
      have H := H.front (c := Ck.own (bytes 5) pf2 [.slice pB p.f_Book.length pd] p.f_Book)
      have H := H.front (c := Ck.own items pf0 [pa0] p.f_Queue)
      obtain ⟨fz, H⟩ := ownPost p H h1 h3
      rw [tick_bad (fun hh => hr hh.2)]
      exact ⟨_, _, rfl, res_cell H st37, _, _, rfl, H.head⟩
    have hpt := (postOk_iff.1 hok).1.2.1
    have hnr : 0 ≤ now ∧ now ≤ 100000 := by omega
    have hll := lineBytes_le (timeLine now)
    refine ve hr ?_
    refine x_lda H st37 ?_
    refine vs ?_
    refine x_call (l15Copy_ok _ _ p (H.rd h9) hs) fun _ w9 R => ?_
    unfold PostR at R
    obtain ⟨ra0, rf0, ra2, rf2, rfl, S⟩ := R
    have H := H.join S
    simp only [List.cons_append, List.nil_append] at H
    have ro0 := one1 (fp := rf0) (x := p.f_Queue) H (.head _)
    obtain ⟨rB, rd, rfl, _⟩ := sl_open (H.own (fp := rf2) (x := p.f_Book) (.tail _ (.head _)))
    refine vs ?_
    refine x_build bl60 [.int .i64 3, .string ⟨#[]⟩, .int .i64 0, .int .i64 now, .slice none 0 0] ?_
    refine vs ?_
    refine x_call (l15Noted_ok p.f_Time p.f_Sure [.int .i64 3, .string ⟨#[]⟩, .int .i64 0, .int .i64 now, .slice none 0 0] (timeLine now) H (timeLine_rd _ _ hnr) (by show ([] : List UInt8).length ≤ 1048576; decide) (by show ([] : List UInt8).length ≤ 1048576; decide) hs'.2) fun _ w8 ⟨f8, v8, e, H⟩ => ?_
    subst e
    rw [timeLine_ok hnr, Bool.true_and]
    have o8 := one1 (fp := f8) (x := p.f_Book ++ lineBytes (timeLine now)) H (.tail _ (.head _))
    refine vs ?_
    refine x_al H st37 fun g7 w10 H => vs ?_
    refine x_sta H st37 (vs := [ra0, .int .i64 p.f_Time, v8, .int .i64 p.f_Sure]) (h1 := one4 ro0 o8) fun w11 H => vs ?_
    by_cases hf : p.f_Book.length + (lineBytes (timeLine now)).length ≤ 12000
    rotate_left
    · refine ve hf ?_
      refine x_lda H st37 ?_
      refine vs ?_
      refine x_sta H st37 (vs := [pa0, .int .i64 p.f_Time, .slice pB p.f_Book.length pd, .int .i64 p.f_Sure]) (h1 := one4 po0 rfl) fun wz H => vs ?_
      have H := H.front (c := Ck.own (bytes 5) pf2 [.slice pB p.f_Book.length pd] p.f_Book)
      have H := H.front (c := Ck.own items pf0 [pa0] p.f_Queue)
      obtain ⟨fz, H⟩ := ownPost p H h1 h3
      rw [tick_full hok hr hf]
      exact ⟨_, _, rfl, res_cell H st37, _, _, rfl, H.head⟩
    refine ve (show (p.f_Book.length + (lineBytes (timeLine now)).length ≤ 12000) = True from eq_true hf) ?_
    refine x_ld H sc35 ?_
    refine vs ?_
    refine x_callf H (specDue_ok w11 v0 _ now (H.rd h0) hs'.1) fun r10 f10 w12 H => vs ?_
    have o10 := one1 H (.head _)
    refine x_st H sc35 (h1 := o10) fun w13 H => vs ?_
    refine x_st H sc3 fun w14 H => vs ?_
    refine x_lda H st37 ?_
    refine vs ?_
    refine x_sta H st37 (vs := [r10, .int .i64 now, v8, .int .i64 p.f_Sure]) (h1 := one4 o10 o8) fun w15 H => vs ?_
    have H := H.front (c := Ck.own (bytes 5) f8 [v8] (p.f_Book ++ lineBytes (timeLine now)))
    have H := H.front (c := Ck.own items f10 [r10] (due p.f_Queue now))
    obtain ⟨fz, H⟩ := ownPost (⟨due p.f_Queue now, now, p.f_Book ++ lineBytes (timeLine now), p.f_Sure⟩ : MPost) H hn h3
    rw [tick_done hok hr hf]
    exact ⟨_, _, rfl, res_cell H st37, _, _, rfl, H.head⟩
end Go.Proofs.Ytdljbekkckfmnaa.V
