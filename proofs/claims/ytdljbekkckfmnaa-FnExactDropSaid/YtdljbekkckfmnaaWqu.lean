/- Items dropped at a post: both sides. Laid by a program. -/
import Derived.Test.YtdljbekkckfmnaaWqs
namespace Go.Proofs.Ytdljbekkckfmnaa.V
open Go Go.RowKit
set_option maxRecDepth 100000
set_option maxHeartbeats 4000000
set_option linter.unusedSimpArgs false
set_option linter.unusedVariables false
set_option pp.deepTerms false
set_option pp.deepTerms.threshold 3

theorem drop_bad {p : MPost} {x : MItem} (h : ¬ (postOk p = true ∧ itemOk x = true ∧ p.f_Time ≤ x.f_Due)) : dropP p x = (p, 1) := by
  unfold dropP
  rw [if_neg]
  simp only [Bool.and_eq_true, decide_eq_true_eq, and_assoc]; exact h
theorem drop_full {p : MPost} {x : MItem} (h : postOk p = true) (h1 : itemOk x = true) (h2 : p.f_Time ≤ x.f_Due) (h3 : ¬ ((put p.f_Queue x).2 = true ∧ p.f_Book.length + (lineBytes (putLine x)).length ≤ 12000)) : dropP p x = (p, 2) := by
  unfold dropP
  rw [if_pos (by rw [h, h1, decide_eq_true h2]; rfl), if_neg]
  unfold fits
  simp only [Bool.and_eq_true, decide_eq_true_eq]; exact h3
theorem drop_done {p : MPost} {x : MItem} (h : postOk p = true) (h1 : itemOk x = true) (h2 : p.f_Time ≤ x.f_Due) (h3 : (put p.f_Queue x).2 = true) (h4 : p.f_Book.length + (lineBytes (putLine x)).length ≤ 12000) : dropP p x = (⟨(put p.f_Queue x).1, p.f_Time, p.f_Book ++ lineBytes (putLine x), p.f_Sure⟩, 0) := by
  unfold dropP
  rw [if_pos (by rw [h, h1, decide_eq_true h2]; rfl), if_pos (by unfold fits; rw [h3, decide_eq_true h4]; rfl)]
theorem dropP_sm {p : MPost} {x : MItem} (hs : smPost p) : smPost (dropP p x).1 := by
  unfold dropP
  split
  · rename_i h0
    split
    · rename_i h1
      unfold fits at h1
      simp only [Bool.and_eq_true, decide_eq_true_eq] at h0 h1
      have hq : smItemS (put p.f_Queue x).1 := by
        unfold put
        split
        · rename_i hq
          exact ⟨by have := (queueOk_iff.1 hq).1; show (putL p.f_Queue x).length ≤ _; omega, fun y hy => itemOk_sm (queueOk_item hq y hy)⟩
        · exact hs.1
      exact ⟨hq, by show (p.f_Book ++ lineBytes (putLine x)).length ≤ 1048576; rw [List.length_append]; omega⟩
    · exact hs
  · exact hs
theorem putLine_ok {x : MItem} (h : itemOk x = true) : lineOk (putLine x) = true := by
  rw [lineOk_1 rfl]; exact h
theorem putLine_rd {w : World} {n : Nat} {x : MItem} {v : Value} (h : kItem.rd w n [.string ⟨x.f_Route.toArray⟩, .int .i64 x.f_Topic, .int .i64 x.f_Due, v] x) : kLine.rd w n [.int .i64 1, .string ⟨x.f_Route.toArray⟩, .int .i64 x.f_Topic, .int .i64 x.f_Due, v] (putLine x) := by
  obtain ⟨u, e, q0, q1, q2, q3⟩ := kItem_open h
  simp only [List.cons.injEq, and_true, true_and] at e
  subst e
  exact kLine_of (putLine x) (by show (-9223372036854775808 : Int) ≤ 1 ∧ (1 : Int) < 9223372036854775808; decide) q0 q1 q2 q3
theorem qx_extract0 {P : Program} {m : Nat} {w : World} {KQ : Value → Prop} {G : List (Nat × Nat)} {tq : Tg (m, G, w, KQ)} {v0 v1 : Value} (h : KQ v0) : QS P m G w KQ tq (Instr.extract (.tuple #[v0, v1]) 0) :=
  QS_of (fun w _ => by simp [Instr.extract]) h
theorem qx_extract1 {P : Program} {m : Nat} {w : World} {KQ : Value → Prop} {G : List (Nat × Nat)} {tq : Tg (m, G, w, KQ)} {v0 v1 : Value} (h : KQ v1) : QS P m G w KQ tq (Instr.extract (.tuple #[v0, v1]) 1) :=
  QS_of (fun w _ => by simp [Instr.extract]) h
theorem implDrop_ok (w : World) (cs : List Value) (p : MPost) (ds : List Value) (x : MItem) (h : kPost.rd w w.heap.size cs p) (hx : kItem.rd w w.heap.size ds x) (hs : smPost p) (hsx : smItem x) :
    ACalls Try.prog 31 #[.agg cs.toArray, .agg ds.toArray] w fun r w' => ∃ cs' fp, r = .tuple #[.agg cs'.toArray, .int .i64 (dropP p x).2] ∧ Sep w.heap.size w w' [Ck.own kPost fp cs' (dropP p x).1] := by
  have hs' := hs
  unfold smPost at hs'
  have h9 := h
  obtain ⟨v0, v2, rfl, h0, h1, h2, h3⟩ := kPost_open h
  obtain ⟨A2, c2, rfl, _⟩ := sl_open h2
  have H := Sep.start w
  have hx9 := hx
  have hsx' := hsx
  unfold smItem at hsx'
  obtain ⟨u3, rfl, q0, q1, q2, q3⟩ := kItem_open hx
  obtain ⟨A9, c9, rfl, _⟩ := sl_open q3
  refine body_of follows Try.func31 rfl rfl _ rfl (by kernel_rfl) (vs ?_)
  refine x_bx H [v0, .int .i64 p.f_Time, .slice A2 p.f_Book.length c2, .int .i64 p.f_Sure] fun g1 w1 H => vs ?_
  refine x_bx H [.string ⟨x.f_Route.toArray⟩, .int .i64 x.f_Topic, .int .i64 x.f_Due, .slice A9 x.f_Bytes.length c9] fun g9 w9 H => vs ?_
  refine x_al H st37 fun g2 w2 H => vs ?_
  refine x_lda H st37 ?_
  refine vs ?_
  refine x_call (clonePost_ok _ _ p (H.rd h9) hs) fun _ w3 R => ?_
  unfold PostR at R
  obtain ⟨pa0, pf0, pa2, pf2, rfl, S⟩ := R
  have H := H.join S
  simp only [List.cons_append, List.nil_append] at H
  have po0 := one1 (fp := pf0) (x := p.f_Queue) H (.head _)
  obtain ⟨pB, pd, rfl, _⟩ := sl_open (H.own (fp := pf2) (x := p.f_Book) (.tail _ (.head _)))
  refine vs ?_
  refine x_al H st37 fun g4 w4 H => vs ?_
  refine x_sta H st37 (vs := [pa0, .int .i64 p.f_Time, .slice pB p.f_Book.length pd, .int .i64 p.f_Sure]) (h1 := one4 po0 rfl) fun w4 H => vs ?_
  refine x_lda H st37 ?_
  refine vs ?_
  refine x_callb H (implPostOk_ok _ _ p (H.rd h9) hs) fun w6 H => ?_
  cases hok : postOk p with
  | false =>
    refine vs ?_
    refine x_lda H st37 ?_
    refine vs ?_
    refine x_sta H st37 (vs := [pa0, .int .i64 p.f_Time, .slice pB p.f_Book.length pd, .int .i64 p.f_Sure]) (h1 := one4 po0 rfl) fun wz H => vs ?_
    have H := H.front (c := Ck.own (bytes 5) pf2 [.slice pB p.f_Book.length pd] p.f_Book)
    have H := H.front (c := Ck.own items pf0 [pa0] p.f_Queue)
    obtain ⟨fz, H⟩ := ownPost p H h1 h3
    rw [drop_bad (fun hh => by have := hh.1; rw [hok] at this; cases this)]
    exact ⟨_, _, rfl, res_cell H st37, _, _, rfl, H.head⟩
  | true =>
    refine vs ?_
    refine x_lda H st51 ?_
    refine vs ?_
    refine x_callb H (implItemOk_ok _ _ x (H.rd hx9) (by omega)) fun w7 H => ?_
    cases hio : itemOk x with
    | false =>
      refine vs ?_
      refine x_lda H st37 ?_
      refine vs ?_
      refine x_sta H st37 (vs := [pa0, .int .i64 p.f_Time, .slice pB p.f_Book.length pd, .int .i64 p.f_Sure]) (h1 := one4 po0 rfl) fun wz H => vs ?_
      have H := H.front (c := Ck.own (bytes 5) pf2 [.slice pB p.f_Book.length pd] p.f_Book)
      have H := H.front (c := Ck.own items pf0 [pa0] p.f_Queue)
      obtain ⟨fz, H⟩ := ownPost p H h1 h3
      rw [drop_bad (fun hh => by have := hh.2.1; rw [hio] at this; cases this)]
      exact ⟨_, _, rfl, res_cell H st37, _, _, rfl, H.head⟩
    | true =>
      refine vs ?_
      refine x_ld H sc3 ?_
      refine vs ?_
      refine x_ld H sc3 ?_
      by_cases hd : x.f_Due < p.f_Time
      · refine ve hd ?_
        refine x_lda H st37 ?_
        refine vs ?_
        refine x_sta H st37 (vs := [pa0, .int .i64 p.f_Time, .slice pB p.f_Book.length pd, .int .i64 p.f_Sure]) (h1 := one4 po0 rfl) fun wz H => vs ?_
        have H := H.front (c := Ck.own (bytes 5) pf2 [.slice pB p.f_Book.length pd] p.f_Book)
        have H := H.front (c := Ck.own items pf0 [pa0] p.f_Queue)
        obtain ⟨fz, H⟩ := ownPost p H h1 h3
        rw [drop_bad (fun hh => by have := hh.2.2; omega)]
        exact ⟨_, _, rfl, res_cell H st37, _, _, rfl, H.head⟩
      have hd2 : p.f_Time ≤ x.f_Due := by omega
      have hll := lineBytes_le (putLine x)
      have hql := postOk_len hok
      refine ve hd ?_
      refine x_ld H sc35 ?_
      refine vs ?_
      refine x_lda H st51 ?_
      refine vs ?_
      refine x_call (implPut_ok _ v0 _ _ x (H.rd h0) (H.rd hx9) hs'.1 hsx (by omega)) fun _ w8 ⟨vq, fq, e, S⟩ => ?_
      subst e
      have H := H.join S
      simp only [List.cons_append, List.nil_append] at H
      have oq := one1 (fp := fq) (x := (put p.f_Queue x).1) H (.head _)
      cases hput : (put p.f_Queue x).2 with
      | false =>
        refine vs ?_
        refine x_lda H st37 ?_
        refine vs ?_
        refine x_call (clonePost_ok _ _ p (H.rd h9) hs) fun _ wa R => ?_
        unfold PostR at R
        obtain ⟨ra0, rf0, ra2, rf2, rfl, S⟩ := R
        have H := H.join S
        simp only [List.cons_append, List.nil_append] at H
        have ro0 := one1 (fp := rf0) (x := p.f_Queue) H (.head _)
        obtain ⟨rB, rd, rfl, _⟩ := sl_open (H.own (fp := rf2) (x := p.f_Book) (.tail _ (.head _)))
        refine vs ?_
        refine x_sta H st37 (vs := [ra0, .int .i64 p.f_Time, .slice rB p.f_Book.length rd, .int .i64 p.f_Sure]) (h1 := one4 ro0 rfl) fun wz H => vs ?_
        have H := H.front (c := Ck.own (bytes 5) rf2 [.slice rB p.f_Book.length rd] p.f_Book)
        have H := H.front (c := Ck.own items rf0 [ra0] p.f_Queue)
        obtain ⟨fz, H⟩ := ownPost p H h1 h3
        rw [drop_full hok hio hd2 (fun hh => by have := hh.1; rw [hput] at this; cases this)]
        exact ⟨_, _, rfl, res_cell H st37, _, _, rfl, H.head⟩
      | true =>
        refine vs ?_
        refine x_ld H sc9 ?_
        refine vs ?_
        refine x_ld H sc3 ?_
        refine vs ?_
        refine x_ld H sc3 ?_
        refine vs ?_
        refine x_ld H sc22 ?_
        refine vs ?_
        refine x_build bl60 [.int .i64 1, .string ⟨x.f_Route.toArray⟩, .int .i64 x.f_Topic, .int .i64 x.f_Due, .slice A9 x.f_Bytes.length c9] ?_
        refine vs ?_
        have H := H.front (c := Ck.box g4 [pa0, .int .i64 p.f_Time, .slice pB p.f_Book.length pd, .int .i64 p.f_Sure] 37)
        have H := H.front (c := Ck.own (bytes 5) pf2 [.slice pB p.f_Book.length pd] p.f_Book)
        refine x_call (noted_ok [.int .i64 1, .string ⟨x.f_Route.toArray⟩, .int .i64 x.f_Topic, .int .i64 x.f_Due, .slice A9 x.f_Bytes.length c9] (putLine x) H (putLine_rd (H.rd hx9)) hsx'.1 hsx'.2 hs'.2) fun _ wb ⟨e, f8, v8, H⟩ => ?_
        subst e
        by_cases hf : p.f_Book.length + (lineBytes (putLine x)).length ≤ 12000
        rotate_left
        · rw [if_neg hf] at H
          refine ve hf ?_
          refine x_lda H st37 ?_
          refine vs ?_
          refine x_call (clonePost_ok _ _ p (H.rd h9) hs) fun _ wc R => ?_
          unfold PostR at R
          obtain ⟨ra0, rf0, ra2, rf2, rfl, S⟩ := R
          have H := H.join S
          simp only [List.cons_append, List.nil_append] at H
          have ro0 := one1 (fp := rf0) (x := p.f_Queue) H (.head _)
          obtain ⟨rB, rd, rfl, _⟩ := sl_open (H.own (fp := rf2) (x := p.f_Book) (.tail _ (.head _)))
          refine vs ?_
          refine x_sta H st37 (vs := [ra0, .int .i64 p.f_Time, .slice rB p.f_Book.length rd, .int .i64 p.f_Sure]) (h1 := one4 ro0 rfl) fun wz H => vs ?_
          have H := H.front (c := Ck.own (bytes 5) rf2 [.slice rB p.f_Book.length rd] p.f_Book)
          have H := H.front (c := Ck.own items rf0 [ra0] p.f_Queue)
          obtain ⟨fz, H⟩ := ownPost p H h1 h3
          rw [drop_full hok hio hd2 (fun hh => hf hh.2)]
          exact ⟨_, _, rfl, res_cell H st37, _, _, rfl, H.head⟩
        rw [if_pos hf] at H
        refine ve (show (p.f_Book.length + (lineBytes (putLine x)).length ≤ 12000) = True from eq_true hf) ?_
        have o8 := one1 H (.head _)
        refine x_st H sc35 (h1 := oq) fun wd H => vs ?_
        refine x_lda H st37 ?_
        refine vs ?_
        refine x_sta H st37 (vs := [vq, .int .i64 p.f_Time, v8, .int .i64 p.f_Sure]) (h1 := one4 oq o8) fun we H => vs ?_
        have H := H.front (c := Ck.own (bytes 5) f8 [v8] (p.f_Book ++ lineBytes (putLine x)))
        have H := H.front (c := Ck.own items fq [vq] (put p.f_Queue x).1)
        obtain ⟨fz, H⟩ := ownPost (⟨(put p.f_Queue x).1, p.f_Time, p.f_Book ++ lineBytes (putLine x), p.f_Sure⟩ : MPost) H h1 h3
        rw [drop_done hok hio hd2 hput hf]
        exact ⟨_, _, rfl, res_cell H st37, _, _, rfl, H.head⟩
theorem specDrop_ok (w : World) (cs : List Value) (p : MPost) (ds : List Value) (x : MItem) (h : kPost.rd w w.heap.size cs p) (hx : kItem.rd w w.heap.size ds x) (hs : smPost p) (hsx : smItem x) :
    ACalls Try.prog 29 #[.agg cs.toArray, .agg ds.toArray] w fun r w' => ∃ cs' fp, r = .tuple #[.agg cs'.toArray, .int .i64 (dropP p x).2] ∧ Sep w.heap.size w w' [Ck.own kPost fp cs' (dropP p x).1] := by
  have hs' := hs
  unfold smPost at hs'
  have h9 := h
  obtain ⟨v0, v2, rfl, h0, h1, h2, h3⟩ := kPost_open h
  obtain ⟨A2, c2, rfl, _⟩ := sl_open h2
  have H := Sep.start w
  have hx9 := hx
  have hsx' := hsx
  unfold smItem at hsx'
  obtain ⟨u3, rfl, q0, q1, q2, q3⟩ := kItem_open hx
  obtain ⟨A9, c9, rfl, _⟩ := sl_open q3
  refine body_of follows Try.func29 rfl rfl _ rfl (by kernel_rfl) (vs ?_)
  refine x_bx H [v0, .int .i64 p.f_Time, .slice A2 p.f_Book.length c2, .int .i64 p.f_Sure] fun g1 w1 H => vs ?_
  refine x_bx H [.string ⟨x.f_Route.toArray⟩, .int .i64 x.f_Topic, .int .i64 x.f_Due, .slice A9 x.f_Bytes.length c9] fun g9 w9 H => vs ?_
  refine x_al H st37 fun g2 w2 H => vs ?_
  refine x_lda H st37 ?_
  refine vs ?_
  refine x_call (l15Copy_ok _ _ p (H.rd h9) hs) fun _ w3 R => ?_
  unfold PostR at R
  obtain ⟨pa0, pf0, pa2, pf2, rfl, S⟩ := R
  have H := H.join S
  simp only [List.cons_append, List.nil_append] at H
  have po0 := one1 (fp := pf0) (x := p.f_Queue) H (.head _)
  obtain ⟨pB, pd, rfl, _⟩ := sl_open (H.own (fp := pf2) (x := p.f_Book) (.tail _ (.head _)))
  refine vs ?_
  refine x_al H st37 fun g4 w4 H => vs ?_
  refine x_sta H st37 (vs := [pa0, .int .i64 p.f_Time, .slice pB p.f_Book.length pd, .int .i64 p.f_Sure]) (h1 := one4 po0 rfl) fun w4 H => vs ?_
  refine x_lda H st37 ?_
  refine vs ?_
  refine x_callb H (specPostOk_ok _ _ p (H.rd h9) hs) fun w6 H => ?_
  cases hok : postOk p with
  | false =>
    refine vs ?_
    refine x_lda H st37 ?_
    refine vs ?_
    refine x_sta H st37 (vs := [pa0, .int .i64 p.f_Time, .slice pB p.f_Book.length pd, .int .i64 p.f_Sure]) (h1 := one4 po0 rfl) fun wz H => vs ?_
    have H := H.front (c := Ck.own (bytes 5) pf2 [.slice pB p.f_Book.length pd] p.f_Book)
    have H := H.front (c := Ck.own items pf0 [pa0] p.f_Queue)
    obtain ⟨fz, H⟩ := ownPost p H h1 h3
    rw [drop_bad (fun hh => by have := hh.1; rw [hok] at this; cases this)]
    exact ⟨_, _, rfl, res_cell H st37, _, _, rfl, H.head⟩
  | true =>
    refine vs ?_
    refine x_lda H st51 ?_
    refine vs ?_
    refine x_callb H (specItemOk_ok _ _ x (H.rd hx9) (by omega)) fun w7 H => ?_
    cases hio : itemOk x with
    | false =>
      refine vs ?_
      refine x_lda H st37 ?_
      refine vs ?_
      refine x_sta H st37 (vs := [pa0, .int .i64 p.f_Time, .slice pB p.f_Book.length pd, .int .i64 p.f_Sure]) (h1 := one4 po0 rfl) fun wz H => vs ?_
      have H := H.front (c := Ck.own (bytes 5) pf2 [.slice pB p.f_Book.length pd] p.f_Book)
      have H := H.front (c := Ck.own items pf0 [pa0] p.f_Queue)
      obtain ⟨fz, H⟩ := ownPost p H h1 h3
      rw [drop_bad (fun hh => by have := hh.2.1; rw [hio] at this; cases this)]
      exact ⟨_, _, rfl, res_cell H st37, _, _, rfl, H.head⟩
    | true =>
      refine vs ?_
      refine x_ld H sc3 ?_
      refine vs ?_
      refine x_ld H sc3 ?_
      by_cases hd : x.f_Due < p.f_Time
      · refine ve hd ?_
        refine x_lda H st37 ?_
        refine vs ?_
        refine x_sta H st37 (vs := [pa0, .int .i64 p.f_Time, .slice pB p.f_Book.length pd, .int .i64 p.f_Sure]) (h1 := one4 po0 rfl) fun wz H => vs ?_
        have H := H.front (c := Ck.own (bytes 5) pf2 [.slice pB p.f_Book.length pd] p.f_Book)
        have H := H.front (c := Ck.own items pf0 [pa0] p.f_Queue)
        obtain ⟨fz, H⟩ := ownPost p H h1 h3
        rw [drop_bad (fun hh => by have := hh.2.2; omega)]
        exact ⟨_, _, rfl, res_cell H st37, _, _, rfl, H.head⟩
      have hd2 : p.f_Time ≤ x.f_Due := by omega
      have hll := lineBytes_le (putLine x)
      have hql := postOk_len hok
      refine ve hd ?_
      refine x_ld H sc35 ?_
      refine vs ?_
      refine x_lda H st51 ?_
      refine vs ?_
      refine x_call (specPut_ok _ v0 _ _ x (H.rd h0) (H.rd hx9) hs'.1 hsx (by omega)) fun _ w8 ⟨vq, fq, e, S⟩ => ?_
      subst e
      have H := H.join S
      simp only [List.cons_append, List.nil_append] at H
      have oq := one1 (fp := fq) (x := (put p.f_Queue x).1) H (.head _)
      refine vs ?_
      refine cut_to (σ := Nat × Value × List Nat × Value × List Nat) (fun y => [(4, .pointer (some ⟨g2, 0, none⟩)), (6, .pointer (some ⟨g4, 0, none⟩)), (7, vq), (8, .bool (put p.f_Queue x).2), (9, .pointer (some ⟨y.1, 0, none⟩)), (10, .bool (decide (p.f_Book.length + (lineBytes (putLine x)).length ≤ 12000)))])
        (fun y w' => y.2.1.oneCell' = true ∧ y.2.2.2.1.oneCell' = true ∧ Sep w.heap.size w w' [Ck.box y.1 [y.2.1, .int .i64 p.f_Time, y.2.2.2.1, .int .i64 p.f_Sure] 37, Ck.own (bytes 5) y.2.2.2.2 [y.2.2.2.1] (p.f_Book ++ lineBytes (putLine x)), Ck.own items fq [vq] (put p.f_Queue x).1, Ck.box g4 [pa0, .int .i64 p.f_Time, .slice pB p.f_Book.length pd, .int .i64 p.f_Sure] 37, Ck.own items pf0 [pa0] p.f_Queue, Ck.own (bytes 5) pf2 [.slice pB p.f_Book.length pd] p.f_Book, Ck.box g2 [.slice none 0 0, .int .i64 0, .slice none 0 0, .int .i64 0] 37]) ?_ ?_
      · have J := Sep.start w8
        refine fork_draw w8.heap.size [] fun wa hh hba => ?_
        have J := J.go (hba _)
        have J3 := J
        refine rest_pre [(0, true), (2, true), (3, true), (4, true), (5, true), (6, true), (7, true), (8, true), (9, true), (10, true)] 8 ?_
        refine vs ?_
        refine q_ldaB H J3 st37 ?_
        refine vs ?_
        refine q_ldB H J3 sc9 ?_
        refine vs ?_
        refine q_ldB H J3 sc3 ?_
        refine vs ?_
        refine q_ldB H J3 sc3 ?_
        refine vs ?_
        refine q_ldB H J3 sc22 ?_
        refine vs ?_
        refine q_bld bl60 [.int .i64 1, .string ⟨x.f_Route.toArray⟩, .int .i64 x.f_Topic, .int .i64 x.f_Due, .slice A9 x.f_Bytes.length c9] ?_
        refine vs ?_
        refine rest_fork 1 15 7 ?_ ?_
        · refine vs ?_
          refine x_call (l15Copy_ok _ _ p (J.rd (H.rd h9)) hs) fun _ wk R => ?_
          unfold PostR at R
          obtain ⟨ra0, rf0, ra2, rf2, rfl, S⟩ := R
          have J := J.join S
          simp only [List.cons_append, List.nil_append] at J
          have ro0 := one1 (fp := rf0) (x := p.f_Queue) J (.head _)
          refine vs ?_
          refine ⟨kept_base J3 J, ?_⟩
          refine rest_fork 11 15 6 ?_ ?_
          · refine vs ?_
            have J := J.front (c := Ck.own (bytes 5) rf2 [ra2] p.f_Book)
            have J := J.front (c := Ck.own items rf0 [ra0] p.f_Queue)
            refine x_call (l15Noted_ok p.f_Time p.f_Sure [.int .i64 1, .string ⟨x.f_Route.toArray⟩, .int .i64 x.f_Topic, .int .i64 x.f_Due, .slice A9 x.f_Bytes.length c9] (putLine x) J (putLine_rd (H.rd hx9)) hsx'.1 hsx'.2 hs'.2) fun _ wl ⟨f8, v8, e, J⟩ => ?_
            subst e
            rw [putLine_ok hio, Bool.true_and]
            have o8 := one1 (fp := f8) (x := p.f_Book ++ lineBytes (putLine x)) J (.tail _ (.head _))
            refine vs ?_
            refine ⟨kept_base J3 J, ?_⟩
            refine rest_end [(12, true), (13, true), (14, true), (15, false), (16, false), (17, true)] ?_
            refine vs ?_
            refine qx_extract0 ?_
            refine vs ?_
            refine qx_extract1 ?_
            refine vs ?_
            refine x_al J st37 fun g5 wm J => vs ?_
            refine ⟨kept_base J3 J, ?_⟩
            refine x_sta J st37 (vs := [ra0, .int .i64 p.f_Time, v8, .int .i64 p.f_Sure]) (h1 := one4 ro0 o8) fun wn J => vs ?_
            refine ⟨kept_base J3 J, ?_⟩
            have H := H.join J
            simp only [List.cons_append, List.nil_append] at H
            have H := H.front (c := Ck.box g2 [.slice none 0 0, .int .i64 0, .slice none 0 0, .int .i64 0] 37)
            have H := H.front (c := Ck.own (bytes 5) pf2 [.slice pB p.f_Book.length pd] p.f_Book)
            have H := H.front (c := Ck.own items pf0 [pa0] p.f_Queue)
            have H := H.front (c := Ck.box g4 [pa0, .int .i64 p.f_Time, .slice pB p.f_Book.length pd, .int .i64 p.f_Sure] 37)
            have H := H.front (c := Ck.own items fq [vq] (put p.f_Queue x).1)
            have H := H.front (c := Ck.own (bytes 5) f8 [v8] (p.f_Book ++ lineBytes (putLine x)))
            have H := H.front (c := Ck.box g5 [ra0, .int .i64 p.f_Time, v8, .int .i64 p.f_Sure] 37)
            exact ⟨(g5, ra0, rf0, v8, f8), vs trivial, ro0, o8, Sep.left (L := [_, _, _, _, _, _, _]) H⟩
          · refine vs ?_
            refine x_al J st37 fun g5 wm J => vs ?_
            refine ⟨kept_base J3 J, ?_⟩
            refine rest_end [(11, false), (12, true), (13, true), (14, true), (16, false), (17, true)] ?_
            refine vs ?_
            have J := J.front (c := Ck.own (bytes 5) rf2 [ra2] p.f_Book)
            have J := J.front (c := Ck.own items rf0 [ra0] p.f_Queue)
            refine x_call (l15Noted_ok p.f_Time p.f_Sure [.int .i64 1, .string ⟨x.f_Route.toArray⟩, .int .i64 x.f_Topic, .int .i64 x.f_Due, .slice A9 x.f_Bytes.length c9] (putLine x) J (putLine_rd (H.rd hx9)) hsx'.1 hsx'.2 hs'.2) fun _ wl ⟨f8, v8, e, J⟩ => ?_
            subst e
            rw [putLine_ok hio, Bool.true_and]
            have o8 := one1 (fp := f8) (x := p.f_Book ++ lineBytes (putLine x)) J (.tail _ (.head _))
            refine vs ?_
            refine ⟨kept_base J3 J, ?_⟩
            refine qx_extract0 ?_
            refine vs ?_
            refine qx_extract1 ?_
            refine vs ?_
            refine x_sta J st37 (vs := [ra0, .int .i64 p.f_Time, v8, .int .i64 p.f_Sure]) (h1 := one4 ro0 o8) fun wn J => vs ?_
            refine ⟨kept_base J3 J, ?_⟩
            have H := H.join J
            simp only [List.cons_append, List.nil_append] at H
            have H := H.front (c := Ck.box g2 [.slice none 0 0, .int .i64 0, .slice none 0 0, .int .i64 0] 37)
            have H := H.front (c := Ck.own (bytes 5) pf2 [.slice pB p.f_Book.length pd] p.f_Book)
            have H := H.front (c := Ck.own items pf0 [pa0] p.f_Queue)
            have H := H.front (c := Ck.box g4 [pa0, .int .i64 p.f_Time, .slice pB p.f_Book.length pd, .int .i64 p.f_Sure] 37)
            have H := H.front (c := Ck.own items fq [vq] (put p.f_Queue x).1)
            have H := H.front (c := Ck.own (bytes 5) f8 [v8] (p.f_Book ++ lineBytes (putLine x)))
            have H := H.front (c := Ck.box g5 [ra0, .int .i64 p.f_Time, v8, .int .i64 p.f_Sure] 37)
            exact ⟨(g5, ra0, rf0, v8, f8), vs trivial, ro0, o8, Sep.left (L := [_, _, _, _, _, _, _]) H⟩
        · refine vs ?_
          refine x_al J st37 fun g5 wm J => vs ?_
          refine ⟨kept_base J3 J, ?_⟩
          refine rest_end [(1, false), (11, false), (12, true), (13, true), (14, true), (16, false), (17, true)] ?_
          refine vs ?_
          refine x_call (l15Copy_ok _ _ p (J.rd (H.rd h9)) hs) fun _ wk R => ?_
          unfold PostR at R
          obtain ⟨ra0, rf0, ra2, rf2, rfl, S⟩ := R
          have J := J.join S
          simp only [List.cons_append, List.nil_append] at J
          have ro0 := one1 (fp := rf0) (x := p.f_Queue) J (.head _)
          refine vs ?_
          refine ⟨kept_base J3 J, ?_⟩
          have J := J.front (c := Ck.own (bytes 5) rf2 [ra2] p.f_Book)
          have J := J.front (c := Ck.own items rf0 [ra0] p.f_Queue)
          refine x_call (l15Noted_ok p.f_Time p.f_Sure [.int .i64 1, .string ⟨x.f_Route.toArray⟩, .int .i64 x.f_Topic, .int .i64 x.f_Due, .slice A9 x.f_Bytes.length c9] (putLine x) J (putLine_rd (H.rd hx9)) hsx'.1 hsx'.2 hs'.2) fun _ wl ⟨f8, v8, e, J⟩ => ?_
          subst e
          rw [putLine_ok hio, Bool.true_and]
          have o8 := one1 (fp := f8) (x := p.f_Book ++ lineBytes (putLine x)) J (.tail _ (.head _))
          refine vs ?_
          refine ⟨kept_base J3 J, ?_⟩
          refine qx_extract0 ?_
          refine vs ?_
          refine qx_extract1 ?_
          refine vs ?_
          refine x_sta J st37 (vs := [ra0, .int .i64 p.f_Time, v8, .int .i64 p.f_Sure]) (h1 := one4 ro0 o8) fun wn J => vs ?_
          refine ⟨kept_base J3 J, ?_⟩
          have H := H.join J
          simp only [List.cons_append, List.nil_append] at H
          have H := H.front (c := Ck.box g2 [.slice none 0 0, .int .i64 0, .slice none 0 0, .int .i64 0] 37)
          have H := H.front (c := Ck.own (bytes 5) pf2 [.slice pB p.f_Book.length pd] p.f_Book)
          have H := H.front (c := Ck.own items pf0 [pa0] p.f_Queue)
          have H := H.front (c := Ck.box g4 [pa0, .int .i64 p.f_Time, .slice pB p.f_Book.length pd, .int .i64 p.f_Sure] 37)
          have H := H.front (c := Ck.own items fq [vq] (put p.f_Queue x).1)
          have H := H.front (c := Ck.own (bytes 5) f8 [v8] (p.f_Book ++ lineBytes (putLine x)))
          have H := H.front (c := Ck.box g5 [ra0, .int .i64 p.f_Time, v8, .int .i64 p.f_Sure] 37)
          exact ⟨(g5, ra0, rf0, v8, f8), vs trivial, ro0, o8, Sep.left (L := [_, _, _, _, _, _, _]) H⟩
      rintro ⟨g5, ra0, rf0, v8, f8⟩ s9 wf ⟨ro0, o8, H⟩
      dsimp only at ro0 o8 H
      cases hput : (put p.f_Queue x).2 with
      | false =>
        refine vs ?_
        refine x_lda H st37 ?_
        refine vs ?_
        refine x_sta H st37 (vs := [pa0, .int .i64 p.f_Time, .slice pB p.f_Book.length pd, .int .i64 p.f_Sure]) (h1 := one4 po0 rfl) fun wz H => vs ?_
        have H := H.front (c := Ck.own (bytes 5) pf2 [.slice pB p.f_Book.length pd] p.f_Book)
        have H := H.front (c := Ck.own items pf0 [pa0] p.f_Queue)
        obtain ⟨fz, H⟩ := ownPost p H h1 h3
        rw [drop_full hok hio hd2 (fun hh => by have := hh.1; rw [hput] at this; cases this)]
        exact ⟨_, _, rfl, res_cell H st37, _, _, rfl, H.head⟩
      | true =>
        by_cases hf : p.f_Book.length + (lineBytes (putLine x)).length ≤ 12000
        rotate_left
        · refine ve hf ?_
          refine x_lda H st37 ?_
          refine vs ?_
          refine x_sta H st37 (vs := [pa0, .int .i64 p.f_Time, .slice pB p.f_Book.length pd, .int .i64 p.f_Sure]) (h1 := one4 po0 rfl) fun wz H => vs ?_
          have H := H.front (c := Ck.own (bytes 5) pf2 [.slice pB p.f_Book.length pd] p.f_Book)
          have H := H.front (c := Ck.own items pf0 [pa0] p.f_Queue)
          obtain ⟨fz, H⟩ := ownPost p H h1 h3
          rw [drop_full hok hio hd2 (fun hh => hf hh.2)]
          exact ⟨_, _, rfl, res_cell H st37, _, _, rfl, H.head⟩
        refine ve (show (p.f_Book.length + (lineBytes (putLine x)).length ≤ 12000) = True from eq_true hf) ?_
        refine x_st H sc35 (h1 := oq) fun wd H => vs ?_
        refine x_lda H st37 ?_
        refine vs ?_
        refine x_sta H st37 (vs := [vq, .int .i64 p.f_Time, v8, .int .i64 p.f_Sure]) (h1 := one4 oq o8) fun we H => vs ?_
        have H := H.front (c := Ck.own (bytes 5) f8 [v8] (p.f_Book ++ lineBytes (putLine x)))
        have H := H.front (c := Ck.own items fq [vq] (put p.f_Queue x).1)
        obtain ⟨fz, H⟩ := ownPost (⟨(put p.f_Queue x).1, p.f_Time, p.f_Book ++ lineBytes (putLine x), p.f_Sure⟩ : MPost) H h1 h3
        rw [drop_done hok hio hd2 hput hf]
        exact ⟨_, _, rfl, res_cell H st37, _, _, rfl, H.head⟩
end Go.Proofs.Ytdljbekkckfmnaa.V
