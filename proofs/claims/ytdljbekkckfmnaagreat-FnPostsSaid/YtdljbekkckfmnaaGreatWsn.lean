/- Lists of lines; posts made sure of: both sides. Laid by a program. Time let go on at a post: both sides. Laid by a program. Items dropped at a post: both sides. Laid by a program. Items fetched at a post: both sides. Laid by a program. Posts that fall: both sides. Laid by a program. -/
import Derived.Test.YtdljbekkckfmnaaGreatWqr
namespace Go.Proofs.YtdljbekkckfmnaaGreat.V
open Go Go.RowKit
set_option maxRecDepth 100000
set_option maxHeartbeats 4000000
set_option linter.unusedSimpArgs false
set_option linter.unusedVariables false
set_option pp.deepTerms false
set_option pp.deepTerms.threshold 3

theorem linesGo_none {n : Nat} {x : List UInt8} (h : lineAt x = none) : linesGo n x = [] := by
  cases n with
  | zero => rfl
  | succ n => simp only [linesGo, h]
theorem linesGo_some {n m : Nat} {x : List UInt8} {l : MLine} (h : lineAt x = some (l, m)) (hn : 0 < n) : linesGo n x = lineBytes l :: linesGo (n - 1) (x.drop m) := by
  cases n with
  | zero => omega
  | succ n => simp only [linesGo, h, Nat.add_sub_cancel]
theorem linesGo_len : ∀ (n : Nat) (x : List UInt8), (linesGo n x).length ≤ n ∧ ∀ y ∈ linesGo n x, y.length ≤ 1578
  | 0, x => ⟨Nat.le_refl _, fun y hy => by simp [linesGo] at hy⟩
  | n + 1, x => by
    cases h : lineAt x with
    | none => rw [linesGo_none h]; exact ⟨by simp, fun y hy => by simp at hy⟩
    | some lm =>
      obtain ⟨l, m⟩ := lm
      rw [linesGo_some h (by omega)]
      have ih := linesGo_len n (x.drop m)
      refine ⟨by simp only [List.length_cons, Nat.add_sub_cancel]; omega, fun y hy => ?_⟩
      rcases List.mem_cons.1 hy with rfl | hy
      · exact lineBytes_le l
      · exact ih.2 y hy
theorem linesOf_sm (b : List UInt8) : (linesOf b).length ≤ 1048576 ∧ ∀ y ∈ linesOf b, y.length ≤ 1048576 := by
  have := linesGo_len 40 b
  exact ⟨by have := this.1; unfold linesOf; omega, fun y hy => by have := this.2 y hy; omega⟩
theorem implLinesOf_ok (w : World) (v : Value) (b : List UInt8) (h : (bytes 5).rd w w.heap.size [v] b) (hl : b.length ≤ 1048576) :
    ACalls Tryz.prog 20 #[v] w fun r w' => ∃ fp, Sep w.heap.size w w' [Ck.own (Kd.slice 22 (bytes 5)) fp [r] (linesOf b)] := by
  have H := Sep.start w
  refine body_of follows Tryz.func20 rfl rfl _ rfl (by kernel_rfl) (vs ?_)
  refine x_empO (d := bytes 5) H sl38 fun g1 w1 H => vs ?_
  refine loop_at (σ := Nat × List (List UInt8) × Value × List Nat) (fun x => [(0, v), (3, x.2.2.1), (4, .int .i64 (x.1 : Int))])
    (fun x w' => x.1 ≤ b.length ∧ x.2.1.length ≤ 40 ∧ linesOf b = x.2.1 ++ linesGo (40 - x.2.1.length) (b.drop x.1) ∧ Sep w.heap.size w w' [Ck.own (Kd.slice 22 (bytes 5)) x.2.2.2 [x.2.2.1] x.2.1])
    (fun x => b.length - x.1) (0, [], _, _) (vs trivial) ⟨Nat.zero_le _, Nat.zero_le _, rfl, H⟩ ?_
  rintro ⟨k, acc, v', fp⟩ s w2 ⟨hk, hacc, heq, H⟩
  dsimp only at hk hacc heq H
  obtain ⟨A', c', rfl, _⟩ := sl_open (H.own (.head _))
  by_cases hlt : (acc.length : Int) < 40
  rotate_left
  · refine ve hlt ?_
    have e0 : 40 - acc.length = 0 := by omega
    rw [e0] at heq
    rw [heq, show linesGo 0 (b.drop k) = [] from rfl, List.append_nil]
    exact ⟨_, H⟩
  refine ve hlt ?_
  refine x_call (implLineOf_ok w2 v b k (H.rd h) hk (by omega)) fun _ w3 R => ?_
  cases hla : lineAt (b.drop k) with
  | none =>
    unfold LineR at R
    rw [lineOf_none hla] at R
    obtain ⟨cs, fl, rfl, S⟩ := R
    have H := H.join S
    simp only [List.cons_append, List.nil_append] at H
    obtain ⟨u, rfl, _⟩ := kLine_open (H.own (.head _))
    refine vs ?_
    refine x_al H st73 fun g4 w4 H => vs ?_
    refine x_sta H st73 (h1 := Kd.one _ (H.own (.tail _ (.head _)))) fun w5 H => vs ?_
    rw [linesGo_none hla, List.append_nil] at heq
    rw [heq]
    exact ⟨_, H.only⟩
  | some ln =>
    obtain ⟨l, n⟩ := ln
    obtain ⟨hn18, hnl, hok, hlb⟩ := lineAt_len hla
    rw [List.length_drop] at hnl
    unfold LineR at R
    rw [lineOf_some hk hla] at R
    obtain ⟨cs, fl, rfl, S⟩ := R
    have H := H.join S
    simp only [List.cons_append, List.nil_append] at H
    rw [linesGo_some hla (by omega), List.drop_drop] at heq
    have hkn : k + n ≤ b.length := by omega
    have hrt := lineOk_route hok
    have hby := lineOk_bytes hok
    have hlo := H.own (.head _)
    have hone := Kd.one _ hlo
    obtain ⟨u, rfl, z0, z1, z2, z3, z4⟩ := kLine_open hlo
    refine vs ?_
    refine x_al H st73 fun g4 w4 H => vs ?_
    refine x_sta H st73 (h1 := hone) fun w5 H => vs ?_
    have H : Sep w.heap.size w w5 (Ck.box g4 [.int .i64 l.f_Kind, .string ⟨(l.f_Route).toArray⟩, .int .i64 l.f_Topic, .int .i64 l.f_Due, u] 73 :: _) := H
    refine x_lda H st73 ?_
    refine vs ?_
    refine x_callf H (implLineBytes_ok w5 _ l (H.own (.tail _ (.head _))) (by omega) (by omega)) fun r6 f6 w6 H => vs ?_
    have H := H.drop2.drop2
    refine x_lst1 sl38 H (cells_one (Kd.one _ (H.own (.head _)) _ (by simp))) rfl fun f7 v7 w7 H => vs ?_
    refine x_appO sl38 H rfl ?_ ?_ fun f8 v8 w8 H => vs ?_
    · simp only [List.length_cons, List.length_nil]; omega
    · simp only [List.length_cons, List.length_nil]; omega
    refine ⟨(k + n, acc ++ [lineBytes l], v8, f8), ⟨rfl, rfl⟩, ⟨hkn, ?_, ?_, H⟩, by show b.length - (k + n) < b.length - k; omega⟩
    · simp only [List.length_append, List.length_cons, List.length_nil]; omega
    · rw [heq, List.length_append, List.length_cons, List.length_nil, List.append_assoc, List.cons_append, List.nil_append]
      rfl
theorem specLinesOf_ok (w : World) (v : Value) (b : List UInt8) (h : (bytes 5).rd w w.heap.size [v] b) (hl : b.length ≤ 1048576) :
    ACalls Tryz.prog 54 #[v] w fun r w' => ∃ fp, Sep w.heap.size w w' [Ck.own (Kd.slice 22 (bytes 5)) fp [r] (linesOf b)] := by
  have H := Sep.start w
  refine body_of follows Tryz.func54 rfl rfl _ rfl (by kernel_rfl) (vs ?_)
  refine x_empO (d := bytes 5) H sl38 fun g1 w1 H => vs ?_
  refine loop_at (σ := Nat × List (List UInt8) × Value × List Nat) (fun x => [(0, v), (3, x.2.2.1), (4, .int .i64 (x.1 : Int))])
    (fun x w' => x.1 ≤ b.length ∧ x.2.1.length ≤ 40 ∧ linesOf b = x.2.1 ++ linesGo (40 - x.2.1.length) (b.drop x.1) ∧ Sep w.heap.size w w' [Ck.own (Kd.slice 22 (bytes 5)) x.2.2.2 [x.2.2.1] x.2.1])
    (fun x => b.length - x.1) (0, [], _, _) (vs trivial) ⟨Nat.zero_le _, Nat.zero_le _, rfl, H⟩ ?_
  rintro ⟨k, acc, v', fp⟩ s w2 ⟨hk, hacc, heq, H⟩
  dsimp only at hk hacc heq H
  obtain ⟨A', c', rfl, _⟩ := sl_open (H.own (.head _))
  by_cases hlt : (acc.length : Int) < 40
  rotate_left
  · refine ve hlt ?_
    have e0 : 40 - acc.length = 0 := by omega
    rw [e0] at heq
    rw [heq, show linesGo 0 (b.drop k) = [] from rfl, List.append_nil]
    exact ⟨_, H⟩
  refine ve hlt ?_
  refine x_call (specLineOf_ok w2 v b k (H.rd h) hk (by omega)) fun _ w3 R => ?_
  cases hla : lineAt (b.drop k) with
  | none =>
    unfold LineR at R
    rw [lineOf_none hla] at R
    obtain ⟨cs, fl, rfl, S⟩ := R
    have H := H.join S
    simp only [List.cons_append, List.nil_append] at H
    obtain ⟨u, rfl, _⟩ := kLine_open (H.own (.head _))
    refine vs ?_
    refine x_al H st73 fun g4 w4 H => vs ?_
    refine x_sta H st73 (h1 := Kd.one _ (H.own (.tail _ (.head _)))) fun w5 H => vs ?_
    rw [linesGo_none hla, List.append_nil] at heq
    rw [heq]
    exact ⟨_, H.only⟩
  | some ln =>
    obtain ⟨l, n⟩ := ln
    obtain ⟨hn18, hnl, hok, hlb⟩ := lineAt_len hla
    rw [List.length_drop] at hnl
    unfold LineR at R
    rw [lineOf_some hk hla] at R
    obtain ⟨cs, fl, rfl, S⟩ := R
    have H := H.join S
    simp only [List.cons_append, List.nil_append] at H
    rw [linesGo_some hla (by omega), List.drop_drop] at heq
    have hkn : k + n ≤ b.length := by omega
    have hrt := lineOk_route hok
    have hby := lineOk_bytes hok
    have hlo := H.own (.head _)
    have hone := Kd.one _ hlo
    obtain ⟨u, rfl, z0, z1, z2, z3, z4⟩ := kLine_open hlo
    refine vs ?_
    refine x_al H st73 fun g4 w4 H => vs ?_
    refine x_sta H st73 (h1 := hone) fun w5 H => vs ?_
    have H : Sep w.heap.size w w5 (Ck.box g4 [.int .i64 l.f_Kind, .string ⟨(l.f_Route).toArray⟩, .int .i64 l.f_Topic, .int .i64 l.f_Due, u] 73 :: _) := H
    refine x_lda H st73 ?_
    refine vs ?_
    refine x_callf H (specLineBytes_ok w5 _ l (H.own (.tail _ (.head _))) (by omega) (by omega)) fun r6 f6 w6 H => vs ?_
    have H := H.drop2.drop2
    refine x_lst1 sl38 H (cells_one (Kd.one _ (H.own (.head _)) _ (by simp))) rfl fun f7 v7 w7 H => vs ?_
    refine x_appO sl38 H rfl ?_ ?_ fun f8 v8 w8 H => vs ?_
    · simp only [List.length_cons, List.length_nil]; omega
    · simp only [List.length_cons, List.length_nil]; omega
    refine ⟨(k + n, acc ++ [lineBytes l], v8, f8), ⟨rfl, rfl⟩, ⟨hkn, ?_, ?_, H⟩, by show b.length - (k + n) < b.length - k; omega⟩
    · simp only [List.length_append, List.length_cons, List.length_nil]; omega
    · rw [heq, List.length_append, List.length_cons, List.length_nil, List.append_assoc, List.cons_append, List.nil_append]
      rfl
theorem implSync_ok (w : World) (cs : List Value) (p : MPost) (h : kPost.rd w w.heap.size cs p) (hs : smPost p) :
    ACalls Tryz.prog 30 #[.agg cs.toArray] w fun r w' => ∃ cs' fp, r = .agg cs'.toArray ∧ Sep w.heap.size w w' [Ck.own kPost fp cs' (syncP p)] := by
  have hs' := hs
  unfold smPost at hs'
  have h9 := h
  obtain ⟨v0, v2, rfl, h0, h1, h2, h3⟩ := kPost_open h
  obtain ⟨A2, c2, rfl, _⟩ := sl_open h2
  have H := Sep.start w
  refine body_of follows Tryz.func30 rfl rfl _ rfl (by kernel_rfl) (vs ?_)
  refine x_bx H [v0, .int .i64 p.f_Time, .slice A2 p.f_Book.length c2, .int .i64 p.f_Sure] fun g1 w1 H => vs ?_
  refine x_al H st26 fun g2 w2 H => vs ?_
  refine x_lda H st26 ?_
  refine vs ?_
  refine x_call (clonePost_ok w2 _ p (H.rd h9) hs) fun _ w3 R => ?_
  unfold PostR at R
  obtain ⟨a0, f0, a2, f2, rfl, S⟩ := R
  have H := H.join S
  simp only [List.cons_append, List.nil_append] at H
  have o0 := one1 (fp := f0) (x := p.f_Queue) H (.head _)
  obtain ⟨B2, d2, rfl, _⟩ := sl_open (H.own (fp := f2) (x := p.f_Book) (.tail _ (.head _)))
  refine vs ?_
  refine x_al H st26 fun g4 w4 H => vs ?_
  refine x_sta H st26 (vs := [a0, .int .i64 p.f_Time, .slice B2 p.f_Book.length d2, .int .i64 p.f_Sure]) (h1 := one4 o0 rfl) fun w5 H => vs ?_
  refine x_lda H st26 ?_
  refine vs ?_
  refine x_callb H (implPostOk_ok w5 _ p (H.rd h9) hs) fun w6 H => ?_
  cases hok : postOk p with
  | false =>
    refine vs ?_
    refine x_lda H st26 ?_
    refine vs ?_
    refine x_sta H st26 (vs := [a0, .int .i64 p.f_Time, .slice B2 p.f_Book.length d2, .int .i64 p.f_Sure]) (h1 := one4 o0 rfl) fun w7 H => vs ?_
    have H := H.front (c := Ck.own (bytes 5) f2 [.slice B2 p.f_Book.length d2] p.f_Book)
    have H := H.front (c := Ck.own items f0 [a0] p.f_Queue)
    obtain ⟨fp, H⟩ := ownPost p H h1 h3
    have e : syncP p = p := by unfold syncP; rw [if_neg (by rw [hok]; decide)]
    rw [e]
    exact ⟨_, _, rfl, res_cell H st26, _, _, rfl, H.head⟩
  | true =>
    refine vs ?_
    refine x_ld H sc22 ?_
    refine vs ?_
    refine x_st H sc3 fun w7 H => vs ?_
    refine x_lda H st26 ?_
    refine vs ?_
    refine x_sta H st26 (vs := [a0, .int .i64 p.f_Time, .slice B2 p.f_Book.length d2, .int .i64 (p.f_Book.length : Int)]) (h1 := one4 o0 rfl) fun w8 H => vs ?_
    have H := H.front (c := Ck.own (bytes 5) f2 [.slice B2 p.f_Book.length d2] p.f_Book)
    have H := H.front (c := Ck.own items f0 [a0] p.f_Queue)
    obtain ⟨fp, H⟩ := ownPost (⟨p.f_Queue, p.f_Time, p.f_Book, p.f_Book.length⟩ : MPost) H h1 (by dsimp only; omega)
    have e : syncP p = ⟨p.f_Queue, p.f_Time, p.f_Book, p.f_Book.length⟩ := by unfold syncP; rw [if_pos hok]
    rw [e]
    exact ⟨_, _, rfl, res_cell H st26, _, _, rfl, H.head⟩
theorem specSync_ok (w : World) (cs : List Value) (p : MPost) (h : kPost.rd w w.heap.size cs p) (hs : smPost p) :
    ACalls Tryz.prog 33 #[.agg cs.toArray] w fun r w' => ∃ cs' fp, r = .agg cs'.toArray ∧ Sep w.heap.size w w' [Ck.own kPost fp cs' (syncP p)] := by
  have hs' := hs
  unfold smPost at hs'
  have h9 := h
  obtain ⟨v0, v2, rfl, h0, h1, h2, h3⟩ := kPost_open h
  obtain ⟨A2, c2, rfl, _⟩ := sl_open h2
  have H := Sep.start w
  refine body_of follows Tryz.func33 rfl rfl _ rfl (by kernel_rfl) (vs ?_)
  refine x_bx H [v0, .int .i64 p.f_Time, .slice A2 p.f_Book.length c2, .int .i64 p.f_Sure] fun g1 w1 H => vs ?_
  refine x_al H st26 fun g2 w2 H => vs ?_
  refine x_lda H st26 ?_
  refine vs ?_
  refine x_call (l15Copy_ok w2 _ p (H.rd h9) hs) fun _ w3 R => ?_
  unfold PostR at R
  obtain ⟨a0, f0, a2, f2, rfl, S⟩ := R
  have H := H.join S
  simp only [List.cons_append, List.nil_append] at H
  have o0 := one1 (fp := f0) (x := p.f_Queue) H (.head _)
  obtain ⟨B2, d2, rfl, _⟩ := sl_open (H.own (fp := f2) (x := p.f_Book) (.tail _ (.head _)))
  refine vs ?_
  refine x_al H st26 fun g4 w4 H => vs ?_
  refine x_sta H st26 (vs := [a0, .int .i64 p.f_Time, .slice B2 p.f_Book.length d2, .int .i64 p.f_Sure]) (h1 := one4 o0 rfl) fun w5 H => vs ?_
  refine x_lda H st26 ?_
  refine vs ?_
  refine x_callb H (specPostOk_ok w5 _ p (H.rd h9) hs) fun w6 H => ?_
  cases hok : postOk p with
  | false =>
    refine vs ?_
    refine x_lda H st26 ?_
    refine vs ?_
    refine x_sta H st26 (vs := [a0, .int .i64 p.f_Time, .slice B2 p.f_Book.length d2, .int .i64 p.f_Sure]) (h1 := one4 o0 rfl) fun w7 H => vs ?_
    have H := H.front (c := Ck.own (bytes 5) f2 [.slice B2 p.f_Book.length d2] p.f_Book)
    have H := H.front (c := Ck.own items f0 [a0] p.f_Queue)
    obtain ⟨fp, H⟩ := ownPost p H h1 h3
    have e : syncP p = p := by unfold syncP; rw [if_neg (by rw [hok]; decide)]
    rw [e]
    exact ⟨_, _, rfl, res_cell H st26, _, _, rfl, H.head⟩
  | true =>
    refine vs ?_
    refine x_ld H sc22 ?_
    refine vs ?_
    refine x_st H sc3 fun w7 H => vs ?_
    refine x_lda H st26 ?_
    refine vs ?_
    refine x_sta H st26 (vs := [a0, .int .i64 p.f_Time, .slice B2 p.f_Book.length d2, .int .i64 (p.f_Book.length : Int)]) (h1 := one4 o0 rfl) fun w8 H => vs ?_
    have H := H.front (c := Ck.own (bytes 5) f2 [.slice B2 p.f_Book.length d2] p.f_Book)
    have H := H.front (c := Ck.own items f0 [a0] p.f_Queue)
    obtain ⟨fp, H⟩ := ownPost (⟨p.f_Queue, p.f_Time, p.f_Book, p.f_Book.length⟩ : MPost) H h1 (by dsimp only; omega)
    have e : syncP p = ⟨p.f_Queue, p.f_Time, p.f_Book, p.f_Book.length⟩ := by unfold syncP; rw [if_pos hok]
    rw [e]
    exact ⟨_, _, rfl, res_cell H st26, _, _, rfl, H.head⟩
theorem syncP_tot {p : MPost} (hs : smPost p) : smPost (syncP p) := by
  unfold syncP
  split
  · exact hs
  · exact hs

theorem tick_bad {p : MPost} {now : Int} (h : ¬ (postOk p = true ∧ p.f_Time ≤ now ∧ now ≤ 100000)) : tickP p now = (p, 1) := by
  unfold tickP
  rw [if_neg]
  simp only [Bool.and_eq_true, decide_eq_true_eq]; exact h
theorem tick_full {p : MPost} {now : Int} (h : postOk p = true) (h2 : p.f_Time ≤ now ∧ now ≤ 100000) (h3 : ¬ p.f_Book.length + (lineBytes (timeLine now)).length ≤ 12000) : tickP p now = (p, 2) := by
  unfold tickP
  rw [if_pos (by rw [h, decide_eq_true h2]; rfl), if_neg (by unfold fits; rw [decide_eq_false h3]; decide)]
theorem tick_done {p : MPost} {now : Int} (h : postOk p = true) (h2 : p.f_Time ≤ now ∧ now ≤ 100000) (h3 : p.f_Book.length + (lineBytes (timeLine now)).length ≤ 12000) : tickP p now = (⟨due p.f_Queue now, now, p.f_Book ++ lineBytes (timeLine now), p.f_Sure⟩, 0) := by
  unfold tickP
  rw [if_pos (by rw [h, decide_eq_true h2]; rfl), if_pos (by unfold fits; rw [decide_eq_true h3])]
theorem timeLine_ok {n : Int} (h : 0 ≤ n ∧ n ≤ 100000) : lineOk (timeLine n) = true := by
  rw [lineOk_3 rfl]
  have e : decide (0 ≤ (timeLine n).f_Due ∧ (timeLine n).f_Due ≤ 100000) = true := decide_eq_true h
  rw [e]; rfl
theorem sm_due {q : List MItem} {n : Int} (h : smItemS q) : smItemS (due q n) := sm_filter h
theorem tickP_sm {p : MPost} {now : Int} (hs : smPost p) : smPost (tickP p now).1 := by
  unfold tickP
  split
  · split
    · rename_i h1 h2
      unfold fits at h2
      simp only [decide_eq_true_eq] at h2
      exact ⟨sm_due hs.1, by show (p.f_Book ++ lineBytes (timeLine now)).length ≤ 1048576; rw [List.length_append]; omega⟩
    · exact hs
  · exact hs
theorem timeLine_rd (w : World) (n : Nat) {t : Int} (h : 0 ≤ t ∧ t ≤ 100000) : kLine.rd w n [.int .i64 3, .string ⟨#[]⟩, .int .i64 0, .int .i64 t, .slice none 0 0] (timeLine t) :=
  kLine_of (timeLine t) (by show (-9223372036854775808 : Int) ≤ 3 ∧ (3 : Int) < 9223372036854775808; decide) (by show ([] : List UInt8).length ≤ 9223372036854775807; decide) (by show (-9223372036854775808 : Int) ≤ 0 ∧ (0 : Int) < 9223372036854775808; decide) (by show (-9223372036854775808 : Int) ≤ t ∧ t < 9223372036854775808; omega) (Kd.own_rd _ (sl_zero w) (by simp))
theorem implTick_ok (w : World) (cs : List Value) (p : MPost) (now : Int) (h : kPost.rd w w.heap.size cs p) (hs : smPost p) (hn : -9223372036854775808 ≤ now ∧ now < 9223372036854775808) :
    ACalls Tryz.prog 17 #[.agg cs.toArray, .int .i64 now] w fun r w' => ∃ cs' fp, r = .tuple #[.agg cs'.toArray, .int .i64 (tickP p now).2] ∧ Sep w.heap.size w w' [Ck.own kPost fp cs' (tickP p now).1] := by
  have hs' := hs
  unfold smPost at hs'
  have h9 := h
  obtain ⟨v0, v2, rfl, h0, h1, h2, h3⟩ := kPost_open h
  obtain ⟨A2, c2, rfl, _⟩ := sl_open h2
  have H := Sep.start w
  refine body_of follows Tryz.func17 rfl rfl _ rfl (by kernel_rfl) (vs ?_)
  refine x_bx H [v0, .int .i64 p.f_Time, .slice A2 p.f_Book.length c2, .int .i64 p.f_Sure] fun g1 w1 H => vs ?_
  refine x_al H st26 fun g2 w2 H => vs ?_
  refine x_lda H st26 ?_
  refine vs ?_
  refine x_call (clonePost_ok _ _ p (H.rd h9) hs) fun _ w3 R => ?_
  unfold PostR at R
  obtain ⟨pa0, pf0, pa2, pf2, rfl, S⟩ := R
  have H := H.join S
  simp only [List.cons_append, List.nil_append] at H
  have po0 := one1 (fp := pf0) (x := p.f_Queue) H (.head _)
  obtain ⟨pB, pd, rfl, _⟩ := sl_open (H.own (fp := pf2) (x := p.f_Book) (.tail _ (.head _)))
  refine vs ?_
  refine x_al H st26 fun g4 w4 H => vs ?_
  refine x_sta H st26 (vs := [pa0, .int .i64 p.f_Time, .slice pB p.f_Book.length pd, .int .i64 p.f_Sure]) (h1 := one4 po0 rfl) fun w4 H => vs ?_
  refine x_lda H st26 ?_
  refine vs ?_
  refine x_callb H (implPostOk_ok _ _ p (H.rd h9) hs) fun w6 H => ?_
  cases hok : postOk p with
  | false =>
    refine vs ?_
    refine x_lda H st26 ?_
    refine vs ?_
    refine x_sta H st26 (vs := [pa0, .int .i64 p.f_Time, .slice pB p.f_Book.length pd, .int .i64 p.f_Sure]) (h1 := one4 po0 rfl) fun wz H => vs ?_
    have H := H.front (c := Ck.own (bytes 5) pf2 [.slice pB p.f_Book.length pd] p.f_Book)
    have H := H.front (c := Ck.own items pf0 [pa0] p.f_Queue)
    obtain ⟨fz, H⟩ := ownPost p H h1 h3
    rw [tick_bad (fun hh => by have := hh.1; rw [hok] at this; cases this)]
    exact ⟨_, _, rfl, res_cell H st26, _, _, rfl, H.head⟩
  | true =>
    refine vs ?_
    refine x_ld H sc3 ?_
    refine vs ?_
    refine x_callw (in_ok w6 _ _ _) ?_
    by_cases hr : p.f_Time ≤ now ∧ now ≤ 100000
    rotate_left
    · refine ve hr ?_
      refine x_lda H st26 ?_
      refine vs ?_
      refine x_sta H st26 (vs := [pa0, .int .i64 p.f_Time, .slice pB p.f_Book.length pd, .int .i64 p.f_Sure]) (h1 := one4 po0 rfl) fun wz H => vs ?_
      have H := H.front (c := Ck.own (bytes 5) pf2 [.slice pB p.f_Book.length pd] p.f_Book)
      have H := H.front (c := Ck.own items pf0 [pa0] p.f_Queue)
      obtain ⟨fz, H⟩ := ownPost p H h1 h3
      rw [tick_bad (fun hh => hr hh.2)]
      exact ⟨_, _, rfl, res_cell H st26, _, _, rfl, H.head⟩
    have hpt := (postOk_iff.1 hok).1.2.1
    have hnr : 0 ≤ now ∧ now ≤ 100000 := by omega
    have hll := lineBytes_le (timeLine now)
    refine ve hr ?_
    refine x_build bl73 [.int .i64 3, .string ⟨#[]⟩, .int .i64 0, .int .i64 now, .slice none 0 0] ?_
    refine vs ?_
    have H := H.front (c := Ck.box g4 [pa0, .int .i64 p.f_Time, .slice pB p.f_Book.length pd, .int .i64 p.f_Sure] 26)
    have H := H.front (c := Ck.own (bytes 5) pf2 [.slice pB p.f_Book.length pd] p.f_Book)
    refine x_call (noted_ok [.int .i64 3, .string ⟨#[]⟩, .int .i64 0, .int .i64 now, .slice none 0 0] (timeLine now) H (timeLine_rd _ _ hnr) (by show ([] : List UInt8).length ≤ 1048576; decide) (by show ([] : List UInt8).length ≤ 1048576; decide) hs'.2) fun _ w8 ⟨e, f8, v8, H⟩ => ?_
    subst e
    by_cases hf : p.f_Book.length + (lineBytes (timeLine now)).length ≤ 12000
    rotate_left
    · rw [if_neg hf] at H
      refine ve hf ?_
      refine x_lda H st26 ?_
      refine vs ?_
      refine x_call (clonePost_ok _ _ p (H.rd h9) hs) fun _ w9 R => ?_
      unfold PostR at R
      obtain ⟨ra0, rf0, ra2, rf2, rfl, S⟩ := R
      have H := H.join S
      simp only [List.cons_append, List.nil_append] at H
      have ro0 := one1 (fp := rf0) (x := p.f_Queue) H (.head _)
      obtain ⟨rB, rd, rfl, _⟩ := sl_open (H.own (fp := rf2) (x := p.f_Book) (.tail _ (.head _)))
      refine vs ?_
      refine x_sta H st26 (vs := [ra0, .int .i64 p.f_Time, .slice rB p.f_Book.length rd, .int .i64 p.f_Sure]) (h1 := one4 ro0 rfl) fun wz H => vs ?_
      have H := H.front (c := Ck.own (bytes 5) rf2 [.slice rB p.f_Book.length rd] p.f_Book)
      have H := H.front (c := Ck.own items rf0 [ra0] p.f_Queue)
      obtain ⟨fz, H⟩ := ownPost p H h1 h3
      rw [tick_full hok hr hf]
      exact ⟨_, _, rfl, res_cell H st26, _, _, rfl, H.head⟩
    rw [if_pos hf] at H
    refine ve (show (p.f_Book.length + (lineBytes (timeLine now)).length ≤ 12000) = True from eq_true hf) ?_
    have o8 := one1 H (.head _)
    refine x_st H sc3 fun w9 H => vs ?_
    refine x_ld H sc24 ?_
    refine vs ?_
    refine x_callf H (implDue_ok w9 v0 _ now (H.rd h0) hs'.1) fun r10 f10 w10 H => vs ?_
    have o10 := one1 H (.head _)
    refine x_st H sc24 (h1 := o10) fun w11 H => vs ?_
    refine x_lda H st26 ?_
    refine vs ?_
    refine x_sta H st26 (vs := [r10, .int .i64 now, v8, .int .i64 p.f_Sure]) (h1 := one4 o10 o8) fun w12 H => vs ?_
    have H := H.front (c := Ck.own (bytes 5) f8 [v8] (p.f_Book ++ lineBytes (timeLine now)))
    have H := H.front (c := Ck.own items f10 [r10] (due p.f_Queue now))
    obtain ⟨fz, H⟩ := ownPost (⟨due p.f_Queue now, now, p.f_Book ++ lineBytes (timeLine now), p.f_Sure⟩ : MPost) H hn h3
    rw [tick_done hok hr hf]
    exact ⟨_, _, rfl, res_cell H st26, _, _, rfl, H.head⟩
theorem specTick_ok (w : World) (cs : List Value) (p : MPost) (now : Int) (h : kPost.rd w w.heap.size cs p) (hs : smPost p) (hn : -9223372036854775808 ≤ now ∧ now < 9223372036854775808) :
    ACalls Tryz.prog 27 #[.agg cs.toArray, .int .i64 now] w fun r w' => ∃ cs' fp, r = .tuple #[.agg cs'.toArray, .int .i64 (tickP p now).2] ∧ Sep w.heap.size w w' [Ck.own kPost fp cs' (tickP p now).1] := by
  have hs' := hs
  unfold smPost at hs'
  have h9 := h
  obtain ⟨v0, v2, rfl, h0, h1, h2, h3⟩ := kPost_open h
  obtain ⟨A2, c2, rfl, _⟩ := sl_open h2
  have H := Sep.start w
  refine body_of follows Tryz.func27 rfl rfl _ rfl (by kernel_rfl) (vs ?_)
  refine x_bx H [v0, .int .i64 p.f_Time, .slice A2 p.f_Book.length c2, .int .i64 p.f_Sure] fun g1 w1 H => vs ?_
  refine x_al H st26 fun g2 w2 H => vs ?_
  refine x_lda H st26 ?_
  refine vs ?_
  refine x_call (l15Copy_ok _ _ p (H.rd h9) hs) fun _ w3 R => ?_
  unfold PostR at R
  obtain ⟨pa0, pf0, pa2, pf2, rfl, S⟩ := R
  have H := H.join S
  simp only [List.cons_append, List.nil_append] at H
  have po0 := one1 (fp := pf0) (x := p.f_Queue) H (.head _)
  obtain ⟨pB, pd, rfl, _⟩ := sl_open (H.own (fp := pf2) (x := p.f_Book) (.tail _ (.head _)))
  refine vs ?_
  refine x_al H st26 fun g4 w4 H => vs ?_
  refine x_sta H st26 (vs := [pa0, .int .i64 p.f_Time, .slice pB p.f_Book.length pd, .int .i64 p.f_Sure]) (h1 := one4 po0 rfl) fun w4 H => vs ?_
  refine x_lda H st26 ?_
  refine vs ?_
  refine x_callb H (specPostOk_ok _ _ p (H.rd h9) hs) fun w6 H => ?_
  cases hok : postOk p with
  | false =>
    refine vs ?_
    refine x_lda H st26 ?_
    refine vs ?_
    refine x_sta H st26 (vs := [pa0, .int .i64 p.f_Time, .slice pB p.f_Book.length pd, .int .i64 p.f_Sure]) (h1 := one4 po0 rfl) fun wz H => vs ?_
    have H := H.front (c := Ck.own (bytes 5) pf2 [.slice pB p.f_Book.length pd] p.f_Book)
    have H := H.front (c := Ck.own items pf0 [pa0] p.f_Queue)
    obtain ⟨fz, H⟩ := ownPost p H h1 h3
    rw [tick_bad (fun hh => by have := hh.1; rw [hok] at this; cases this)]
    exact ⟨_, _, rfl, res_cell H st26, _, _, rfl, H.head⟩
  | true =>
    refine vs ?_
    refine x_ld H sc3 ?_
    refine vs ?_
    refine x_callw (l1In_ok w6 _ _ _) ?_
    by_cases hr : p.f_Time ≤ now ∧ now ≤ 100000
    rotate_left
    · refine ve hr ?_
      refine x_lda H st26 ?_
      refine vs ?_
      refine x_sta H st26 (vs := [pa0, .int .i64 p.f_Time, .slice pB p.f_Book.length pd, .int .i64 p.f_Sure]) (h1 := one4 po0 rfl) fun wz H => vs ?_
      have H := H.front (c := Ck.own (bytes 5) pf2 [.slice pB p.f_Book.length pd] p.f_Book)
      have H := H.front (c := Ck.own items pf0 [pa0] p.f_Queue)
      obtain ⟨fz, H⟩ := ownPost p H h1 h3
      rw [tick_bad (fun hh => hr hh.2)]
      exact ⟨_, _, rfl, res_cell H st26, _, _, rfl, H.head⟩
    have hpt := (postOk_iff.1 hok).1.2.1
    have hnr : 0 ≤ now ∧ now ≤ 100000 := by omega
    have hll := lineBytes_le (timeLine now)
    refine ve hr ?_
    refine x_lda H st26 ?_
    refine vs ?_
    refine x_call (l15Copy_ok _ _ p (H.rd h9) hs) fun _ w9 R => ?_
    unfold PostR at R
    obtain ⟨ra0, rf0, ra2, rf2, rfl, S⟩ := R
    have H := H.join S
    simp only [List.cons_append, List.nil_append] at H
    have ro0 := one1 (fp := rf0) (x := p.f_Queue) H (.head _)
    obtain ⟨rB, rd, rfl, _⟩ := sl_open (H.own (fp := rf2) (x := p.f_Book) (.tail _ (.head _)))
    refine vs ?_
    refine x_build bl73 [.int .i64 3, .string ⟨#[]⟩, .int .i64 0, .int .i64 now, .slice none 0 0] ?_
    refine vs ?_
    refine x_call (l15Noted_ok p.f_Time p.f_Sure [.int .i64 3, .string ⟨#[]⟩, .int .i64 0, .int .i64 now, .slice none 0 0] (timeLine now) H (timeLine_rd _ _ hnr) (by show ([] : List UInt8).length ≤ 1048576; decide) (by show ([] : List UInt8).length ≤ 1048576; decide) hs'.2) fun _ w8 ⟨f8, v8, e, H⟩ => ?_
    subst e
    rw [timeLine_ok hnr, Bool.true_and]
    have o8 := one1 (fp := f8) (x := p.f_Book ++ lineBytes (timeLine now)) H (.tail _ (.head _))
    refine vs ?_
    refine x_al H st26 fun g7 w10 H => vs ?_
    refine x_sta H st26 (vs := [ra0, .int .i64 p.f_Time, v8, .int .i64 p.f_Sure]) (h1 := one4 ro0 o8) fun w11 H => vs ?_
    by_cases hf : p.f_Book.length + (lineBytes (timeLine now)).length ≤ 12000
    rotate_left
    · refine ve hf ?_
      refine x_lda H st26 ?_
      refine vs ?_
      refine x_sta H st26 (vs := [pa0, .int .i64 p.f_Time, .slice pB p.f_Book.length pd, .int .i64 p.f_Sure]) (h1 := one4 po0 rfl) fun wz H => vs ?_
      have H := H.front (c := Ck.own (bytes 5) pf2 [.slice pB p.f_Book.length pd] p.f_Book)
      have H := H.front (c := Ck.own items pf0 [pa0] p.f_Queue)
      obtain ⟨fz, H⟩ := ownPost p H h1 h3
      rw [tick_full hok hr hf]
      exact ⟨_, _, rfl, res_cell H st26, _, _, rfl, H.head⟩
    refine ve (show (p.f_Book.length + (lineBytes (timeLine now)).length ≤ 12000) = True from eq_true hf) ?_
    refine x_ld H sc24 ?_
    refine vs ?_
    refine x_callf H (specDue_ok w11 v0 _ now (H.rd h0) hs'.1) fun r10 f10 w12 H => vs ?_
    have o10 := one1 H (.head _)
    refine x_st H sc24 (h1 := o10) fun w13 H => vs ?_
    refine x_st H sc3 fun w14 H => vs ?_
    refine x_lda H st26 ?_
    refine vs ?_
    refine x_sta H st26 (vs := [r10, .int .i64 now, v8, .int .i64 p.f_Sure]) (h1 := one4 o10 o8) fun w15 H => vs ?_
    have H := H.front (c := Ck.own (bytes 5) f8 [v8] (p.f_Book ++ lineBytes (timeLine now)))
    have H := H.front (c := Ck.own items f10 [r10] (due p.f_Queue now))
    obtain ⟨fz, H⟩ := ownPost (⟨due p.f_Queue now, now, p.f_Book ++ lineBytes (timeLine now), p.f_Sure⟩ : MPost) H hn h3
    rw [tick_done hok hr hf]
    exact ⟨_, _, rfl, res_cell H st26, _, _, rfl, H.head⟩

theorem drop_bad {p : MPost} {x : MItem} (h : ¬ (postOk p = true ∧ itemOk x = true ∧ p.f_Time ≤ x.f_Due)) : dropP p x = (p, 1) := by
  unfold dropP
  rw [if_neg]
  simp only [Bool.and_eq_true, decide_eq_true_eq, and_assoc]; exact h
theorem drop_full {p : MPost} {x : MItem} (h : postOk p = true) (h1 : itemOk x = true) (h2 : p.f_Time ≤ x.f_Due) (h3 : ¬ ((put p.f_Queue x).2 = true ∧ p.f_Book.length + (lineBytes (putLine x)).length ≤ 12000)) : dropP p x = (p, 2) := by
  unfold dropP
  rw [if_pos (by rw [h, h1, decide_eq_true h2]; rfl), if_neg]
  unfold fits
  simp only [Bool.and_eq_true, decide_eq_true_eq]; exact h3
theorem drop_done {p : MPost} {x : MItem} (h : postOk p = true) (h1 : itemOk x = true) (h2 : p.f_Time ≤ x.f_Due) (h3 : (put p.f_Queue x).2 = true) (h4 : p.f_Book.length + (lineBytes (putLine x)).length ≤ 12000) : dropP p x = (⟨(put p.f_Queue x).1, p.f_Time, p.f_Book ++ lineBytes (putLine x), p.f_Sure⟩, 0) := by
  unfold dropP
  rw [if_pos (by rw [h, h1, decide_eq_true h2]; rfl), if_pos (by unfold fits; rw [h3, decide_eq_true h4]; rfl)]
theorem dropP_sm {p : MPost} {x : MItem} (hs : smPost p) : smPost (dropP p x).1 := by
  unfold dropP
  split
  · rename_i h0
    split
    · rename_i h1
      unfold fits at h1
      simp only [Bool.and_eq_true, decide_eq_true_eq] at h0 h1
      have hq : smItemS (put p.f_Queue x).1 := by
        unfold put
        split
        · rename_i hq
          exact ⟨by have := (queueOk_iff.1 hq).1; show (putL p.f_Queue x).length ≤ _; omega, fun y hy => itemOk_sm (queueOk_item hq y hy)⟩
        · exact hs.1
      exact ⟨hq, by show (p.f_Book ++ lineBytes (putLine x)).length ≤ 1048576; rw [List.length_append]; omega⟩
    · exact hs
  · exact hs
theorem putLine_ok {x : MItem} (h : itemOk x = true) : lineOk (putLine x) = true := by
  rw [lineOk_1 rfl]; exact h
theorem putLine_rd {w : World} {n : Nat} {x : MItem} {v : Value} (h : kItem.rd w n [.string ⟨x.f_Route.toArray⟩, .int .i64 x.f_Topic, .int .i64 x.f_Due, v] x) : kLine.rd w n [.int .i64 1, .string ⟨x.f_Route.toArray⟩, .int .i64 x.f_Topic, .int .i64 x.f_Due, v] (putLine x) := by
  obtain ⟨u, e, q0, q1, q2, q3⟩ := kItem_open h
  simp only [List.cons.injEq, and_true, true_and] at e
  subst e
  exact kLine_of (putLine x) (by show (-9223372036854775808 : Int) ≤ 1 ∧ (1 : Int) < 9223372036854775808; decide) q0 q1 q2 q3
theorem qx_extract0 {P : Program} {m : Nat} {w : World} {KQ : Value → Prop} {G : List (Nat × Nat)} {tq : Tg (m, G, w, KQ)} {v0 v1 : Value} (h : KQ v0) : QS P m G w KQ tq (Instr.extract (.tuple #[v0, v1]) 0) :=
  QS_of (fun w _ => by simp [Instr.extract]) h
theorem qx_extract1 {P : Program} {m : Nat} {w : World} {KQ : Value → Prop} {G : List (Nat × Nat)} {tq : Tg (m, G, w, KQ)} {v0 v1 : Value} (h : KQ v1) : QS P m G w KQ tq (Instr.extract (.tuple #[v0, v1]) 1) :=
  QS_of (fun w _ => by simp [Instr.extract]) h
theorem implDrop_ok (w : World) (cs : List Value) (p : MPost) (ds : List Value) (x : MItem) (h : kPost.rd w w.heap.size cs p) (hx : kItem.rd w w.heap.size ds x) (hs : smPost p) (hsx : smItem x) :
    ACalls Tryz.prog 15 #[.agg cs.toArray, .agg ds.toArray] w fun r w' => ∃ cs' fp, r = .tuple #[.agg cs'.toArray, .int .i64 (dropP p x).2] ∧ Sep w.heap.size w w' [Ck.own kPost fp cs' (dropP p x).1] := by
  have hs' := hs
  unfold smPost at hs'
  have h9 := h
  obtain ⟨v0, v2, rfl, h0, h1, h2, h3⟩ := kPost_open h
  obtain ⟨A2, c2, rfl, _⟩ := sl_open h2
  have H := Sep.start w
  have hx9 := hx
  have hsx' := hsx
  unfold smItem at hsx'
  obtain ⟨u3, rfl, q0, q1, q2, q3⟩ := kItem_open hx
  obtain ⟨A9, c9, rfl, _⟩ := sl_open q3
  refine body_of follows Tryz.func15 rfl rfl _ rfl (by kernel_rfl) (vs ?_)
  refine x_bx H [v0, .int .i64 p.f_Time, .slice A2 p.f_Book.length c2, .int .i64 p.f_Sure] fun g1 w1 H => vs ?_
  refine x_bx H [.string ⟨x.f_Route.toArray⟩, .int .i64 x.f_Topic, .int .i64 x.f_Due, .slice A9 x.f_Bytes.length c9] fun g9 w9 H => vs ?_
  refine x_al H st26 fun g2 w2 H => vs ?_
  refine x_lda H st26 ?_
  refine vs ?_
  refine x_call (clonePost_ok _ _ p (H.rd h9) hs) fun _ w3 R => ?_
  unfold PostR at R
  obtain ⟨pa0, pf0, pa2, pf2, rfl, S⟩ := R
  have H := H.join S
  simp only [List.cons_append, List.nil_append] at H
  have po0 := one1 (fp := pf0) (x := p.f_Queue) H (.head _)
  obtain ⟨pB, pd, rfl, _⟩ := sl_open (H.own (fp := pf2) (x := p.f_Book) (.tail _ (.head _)))
  refine vs ?_
  refine x_al H st26 fun g4 w4 H => vs ?_
  refine x_sta H st26 (vs := [pa0, .int .i64 p.f_Time, .slice pB p.f_Book.length pd, .int .i64 p.f_Sure]) (h1 := one4 po0 rfl) fun w4 H => vs ?_
  refine x_lda H st26 ?_
  refine vs ?_
  refine x_callb H (implPostOk_ok _ _ p (H.rd h9) hs) fun w6 H => ?_
  cases hok : postOk p with
  | false =>
    refine vs ?_
    refine x_lda H st26 ?_
    refine vs ?_
    refine x_sta H st26 (vs := [pa0, .int .i64 p.f_Time, .slice pB p.f_Book.length pd, .int .i64 p.f_Sure]) (h1 := one4 po0 rfl) fun wz H => vs ?_
    have H := H.front (c := Ck.own (bytes 5) pf2 [.slice pB p.f_Book.length pd] p.f_Book)
    have H := H.front (c := Ck.own items pf0 [pa0] p.f_Queue)
    obtain ⟨fz, H⟩ := ownPost p H h1 h3
    rw [drop_bad (fun hh => by have := hh.1; rw [hok] at this; cases this)]
    exact ⟨_, _, rfl, res_cell H st26, _, _, rfl, H.head⟩
  | true =>
    refine vs ?_
    refine x_lda H st32 ?_
    refine vs ?_
    refine x_callb H (implItemOk_ok _ _ x (H.rd hx9) (by omega)) fun w7 H => ?_
    cases hio : itemOk x with
    | false =>
      refine vs ?_
      refine x_lda H st26 ?_
      refine vs ?_
      refine x_sta H st26 (vs := [pa0, .int .i64 p.f_Time, .slice pB p.f_Book.length pd, .int .i64 p.f_Sure]) (h1 := one4 po0 rfl) fun wz H => vs ?_
      have H := H.front (c := Ck.own (bytes 5) pf2 [.slice pB p.f_Book.length pd] p.f_Book)
      have H := H.front (c := Ck.own items pf0 [pa0] p.f_Queue)
      obtain ⟨fz, H⟩ := ownPost p H h1 h3
      rw [drop_bad (fun hh => by have := hh.2.1; rw [hio] at this; cases this)]
      exact ⟨_, _, rfl, res_cell H st26, _, _, rfl, H.head⟩
    | true =>
      refine vs ?_
      refine x_ld H sc3 ?_
      refine vs ?_
      refine x_ld H sc3 ?_
      by_cases hd : x.f_Due < p.f_Time
      · refine ve hd ?_
        refine x_lda H st26 ?_
        refine vs ?_
        refine x_sta H st26 (vs := [pa0, .int .i64 p.f_Time, .slice pB p.f_Book.length pd, .int .i64 p.f_Sure]) (h1 := one4 po0 rfl) fun wz H => vs ?_
        have H := H.front (c := Ck.own (bytes 5) pf2 [.slice pB p.f_Book.length pd] p.f_Book)
        have H := H.front (c := Ck.own items pf0 [pa0] p.f_Queue)
        obtain ⟨fz, H⟩ := ownPost p H h1 h3
        rw [drop_bad (fun hh => by have := hh.2.2; omega)]
        exact ⟨_, _, rfl, res_cell H st26, _, _, rfl, H.head⟩
      have hd2 : p.f_Time ≤ x.f_Due := by omega
      have hll := lineBytes_le (putLine x)
      have hql := postOk_len hok
      refine ve hd ?_
      refine x_ld H sc24 ?_
      refine vs ?_
      refine x_lda H st32 ?_
      refine vs ?_
      refine x_call (implPut_ok _ v0 _ _ x (H.rd h0) (H.rd hx9) hs'.1 hsx (by omega)) fun _ w8 ⟨vq, fq, e, S⟩ => ?_
      subst e
      have H := H.join S
      simp only [List.cons_append, List.nil_append] at H
      have oq := one1 (fp := fq) (x := (put p.f_Queue x).1) H (.head _)
      cases hput : (put p.f_Queue x).2 with
      | false =>
        refine vs ?_
        refine x_lda H st26 ?_
        refine vs ?_
        refine x_call (clonePost_ok _ _ p (H.rd h9) hs) fun _ wa R => ?_
        unfold PostR at R
        obtain ⟨ra0, rf0, ra2, rf2, rfl, S⟩ := R
        have H := H.join S
        simp only [List.cons_append, List.nil_append] at H
        have ro0 := one1 (fp := rf0) (x := p.f_Queue) H (.head _)
        obtain ⟨rB, rd, rfl, _⟩ := sl_open (H.own (fp := rf2) (x := p.f_Book) (.tail _ (.head _)))
        refine vs ?_
        refine x_sta H st26 (vs := [ra0, .int .i64 p.f_Time, .slice rB p.f_Book.length rd, .int .i64 p.f_Sure]) (h1 := one4 ro0 rfl) fun wz H => vs ?_
        have H := H.front (c := Ck.own (bytes 5) rf2 [.slice rB p.f_Book.length rd] p.f_Book)
        have H := H.front (c := Ck.own items rf0 [ra0] p.f_Queue)
        obtain ⟨fz, H⟩ := ownPost p H h1 h3
        rw [drop_full hok hio hd2 (fun hh => by have := hh.1; rw [hput] at this; cases this)]
        exact ⟨_, _, rfl, res_cell H st26, _, _, rfl, H.head⟩
      | true =>
        refine vs ?_
        refine x_ld H sc9 ?_
        refine vs ?_
        refine x_ld H sc3 ?_
        refine vs ?_
        refine x_ld H sc3 ?_
        refine vs ?_
        refine x_ld H sc22 ?_
        refine vs ?_
        refine x_build bl73 [.int .i64 1, .string ⟨x.f_Route.toArray⟩, .int .i64 x.f_Topic, .int .i64 x.f_Due, .slice A9 x.f_Bytes.length c9] ?_
        refine vs ?_
        have H := H.front (c := Ck.box g4 [pa0, .int .i64 p.f_Time, .slice pB p.f_Book.length pd, .int .i64 p.f_Sure] 26)
        have H := H.front (c := Ck.own (bytes 5) pf2 [.slice pB p.f_Book.length pd] p.f_Book)
        refine x_call (noted_ok [.int .i64 1, .string ⟨x.f_Route.toArray⟩, .int .i64 x.f_Topic, .int .i64 x.f_Due, .slice A9 x.f_Bytes.length c9] (putLine x) H (putLine_rd (H.rd hx9)) hsx'.1 hsx'.2 hs'.2) fun _ wb ⟨e, f8, v8, H⟩ => ?_
        subst e
        by_cases hf : p.f_Book.length + (lineBytes (putLine x)).length ≤ 12000
        rotate_left
        · rw [if_neg hf] at H
          refine ve hf ?_
          refine x_lda H st26 ?_
          refine vs ?_
          refine x_call (clonePost_ok _ _ p (H.rd h9) hs) fun _ wc R => ?_
          unfold PostR at R
          obtain ⟨ra0, rf0, ra2, rf2, rfl, S⟩ := R
          have H := H.join S
          simp only [List.cons_append, List.nil_append] at H
          have ro0 := one1 (fp := rf0) (x := p.f_Queue) H (.head _)
          obtain ⟨rB, rd, rfl, _⟩ := sl_open (H.own (fp := rf2) (x := p.f_Book) (.tail _ (.head _)))
          refine vs ?_
          refine x_sta H st26 (vs := [ra0, .int .i64 p.f_Time, .slice rB p.f_Book.length rd, .int .i64 p.f_Sure]) (h1 := one4 ro0 rfl) fun wz H => vs ?_
          have H := H.front (c := Ck.own (bytes 5) rf2 [.slice rB p.f_Book.length rd] p.f_Book)
          have H := H.front (c := Ck.own items rf0 [ra0] p.f_Queue)
          obtain ⟨fz, H⟩ := ownPost p H h1 h3
          rw [drop_full hok hio hd2 (fun hh => hf hh.2)]
          exact ⟨_, _, rfl, res_cell H st26, _, _, rfl, H.head⟩
        rw [if_pos hf] at H
        refine ve (show (p.f_Book.length + (lineBytes (putLine x)).length ≤ 12000) = True from eq_true hf) ?_
        have o8 := one1 H (.head _)
        refine x_st H sc24 (h1 := oq) fun wd H => vs ?_
        refine x_lda H st26 ?_
        refine vs ?_
        refine x_sta H st26 (vs := [vq, .int .i64 p.f_Time, v8, .int .i64 p.f_Sure]) (h1 := one4 oq o8) fun we H => vs ?_
        have H := H.front (c := Ck.own (bytes 5) f8 [v8] (p.f_Book ++ lineBytes (putLine x)))
        have H := H.front (c := Ck.own items fq [vq] (put p.f_Queue x).1)
        obtain ⟨fz, H⟩ := ownPost (⟨(put p.f_Queue x).1, p.f_Time, p.f_Book ++ lineBytes (putLine x), p.f_Sure⟩ : MPost) H h1 h3
        rw [drop_done hok hio hd2 hput hf]
        exact ⟨_, _, rfl, res_cell H st26, _, _, rfl, H.head⟩
theorem specDrop_ok (w : World) (cs : List Value) (p : MPost) (ds : List Value) (x : MItem) (h : kPost.rd w w.heap.size cs p) (hx : kItem.rd w w.heap.size ds x) (hs : smPost p) (hsx : smItem x) :
    ACalls Tryz.prog 23 #[.agg cs.toArray, .agg ds.toArray] w fun r w' => ∃ cs' fp, r = .tuple #[.agg cs'.toArray, .int .i64 (dropP p x).2] ∧ Sep w.heap.size w w' [Ck.own kPost fp cs' (dropP p x).1] := by
  have hs' := hs
  unfold smPost at hs'
  have h9 := h
  obtain ⟨v0, v2, rfl, h0, h1, h2, h3⟩ := kPost_open h
  obtain ⟨A2, c2, rfl, _⟩ := sl_open h2
  have H := Sep.start w
  have hx9 := hx
  have hsx' := hsx
  unfold smItem at hsx'
  obtain ⟨u3, rfl, q0, q1, q2, q3⟩ := kItem_open hx
  obtain ⟨A9, c9, rfl, _⟩ := sl_open q3
  refine body_of follows Tryz.func23 rfl rfl _ rfl (by kernel_rfl) (vs ?_)
  refine x_bx H [v0, .int .i64 p.f_Time, .slice A2 p.f_Book.length c2, .int .i64 p.f_Sure] fun g1 w1 H => vs ?_
  refine x_bx H [.string ⟨x.f_Route.toArray⟩, .int .i64 x.f_Topic, .int .i64 x.f_Due, .slice A9 x.f_Bytes.length c9] fun g9 w9 H => vs ?_
  refine x_al H st26 fun g2 w2 H => vs ?_
  refine x_lda H st26 ?_
  refine vs ?_
  refine x_call (l15Copy_ok _ _ p (H.rd h9) hs) fun _ w3 R => ?_
  unfold PostR at R
  obtain ⟨pa0, pf0, pa2, pf2, rfl, S⟩ := R
  have H := H.join S
  simp only [List.cons_append, List.nil_append] at H
  have po0 := one1 (fp := pf0) (x := p.f_Queue) H (.head _)
  obtain ⟨pB, pd, rfl, _⟩ := sl_open (H.own (fp := pf2) (x := p.f_Book) (.tail _ (.head _)))
  refine vs ?_
  refine x_al H st26 fun g4 w4 H => vs ?_
  refine x_sta H st26 (vs := [pa0, .int .i64 p.f_Time, .slice pB p.f_Book.length pd, .int .i64 p.f_Sure]) (h1 := one4 po0 rfl) fun w4 H => vs ?_
  refine x_lda H st26 ?_
  refine vs ?_
  refine x_callb H (specPostOk_ok _ _ p (H.rd h9) hs) fun w6 H => ?_
  cases hok : postOk p with
  | false =>
    refine vs ?_
    refine x_lda H st26 ?_
    refine vs ?_
    refine x_sta H st26 (vs := [pa0, .int .i64 p.f_Time, .slice pB p.f_Book.length pd, .int .i64 p.f_Sure]) (h1 := one4 po0 rfl) fun wz H => vs ?_
    have H := H.front (c := Ck.own (bytes 5) pf2 [.slice pB p.f_Book.length pd] p.f_Book)
    have H := H.front (c := Ck.own items pf0 [pa0] p.f_Queue)
    obtain ⟨fz, H⟩ := ownPost p H h1 h3
    rw [drop_bad (fun hh => by have := hh.1; rw [hok] at this; cases this)]
    exact ⟨_, _, rfl, res_cell H st26, _, _, rfl, H.head⟩
  | true =>
    refine vs ?_
    refine x_lda H st32 ?_
    refine vs ?_
    refine x_callb H (specItemOk_ok _ _ x (H.rd hx9) (by omega)) fun w7 H => ?_
    cases hio : itemOk x with
    | false =>
      refine vs ?_
      refine x_lda H st26 ?_
      refine vs ?_
      refine x_sta H st26 (vs := [pa0, .int .i64 p.f_Time, .slice pB p.f_Book.length pd, .int .i64 p.f_Sure]) (h1 := one4 po0 rfl) fun wz H => vs ?_
      have H := H.front (c := Ck.own (bytes 5) pf2 [.slice pB p.f_Book.length pd] p.f_Book)
      have H := H.front (c := Ck.own items pf0 [pa0] p.f_Queue)
      obtain ⟨fz, H⟩ := ownPost p H h1 h3
      rw [drop_bad (fun hh => by have := hh.2.1; rw [hio] at this; cases this)]
      exact ⟨_, _, rfl, res_cell H st26, _, _, rfl, H.head⟩
    | true =>
      refine vs ?_
      refine x_ld H sc3 ?_
      refine vs ?_
      refine x_ld H sc3 ?_
      by_cases hd : x.f_Due < p.f_Time
      · refine ve hd ?_
        refine x_lda H st26 ?_
        refine vs ?_
        refine x_sta H st26 (vs := [pa0, .int .i64 p.f_Time, .slice pB p.f_Book.length pd, .int .i64 p.f_Sure]) (h1 := one4 po0 rfl) fun wz H => vs ?_
        have H := H.front (c := Ck.own (bytes 5) pf2 [.slice pB p.f_Book.length pd] p.f_Book)
        have H := H.front (c := Ck.own items pf0 [pa0] p.f_Queue)
        obtain ⟨fz, H⟩ := ownPost p H h1 h3
        rw [drop_bad (fun hh => by have := hh.2.2; omega)]
        exact ⟨_, _, rfl, res_cell H st26, _, _, rfl, H.head⟩
      have hd2 : p.f_Time ≤ x.f_Due := by omega
      have hll := lineBytes_le (putLine x)
      have hql := postOk_len hok
      refine ve hd ?_
      refine x_ld H sc24 ?_
      refine vs ?_
      refine x_lda H st32 ?_
      refine vs ?_
      refine x_call (specPut_ok _ v0 _ _ x (H.rd h0) (H.rd hx9) hs'.1 hsx (by omega)) fun _ w8 ⟨vq, fq, e, S⟩ => ?_
      subst e
      have H := H.join S
      simp only [List.cons_append, List.nil_append] at H
      have oq := one1 (fp := fq) (x := (put p.f_Queue x).1) H (.head _)
      refine vs ?_
      refine cut_to (σ := Nat × Value × List Nat × Value × List Nat) (fun y => [(4, .pointer (some ⟨g2, 0, none⟩)), (6, .pointer (some ⟨g4, 0, none⟩)), (7, vq), (8, .bool (put p.f_Queue x).2), (9, .pointer (some ⟨y.1, 0, none⟩)), (10, .bool (decide (p.f_Book.length + (lineBytes (putLine x)).length ≤ 12000)))])
        (fun y w' => y.2.1.oneCell' = true ∧ y.2.2.2.1.oneCell' = true ∧ Sep w.heap.size w w' [Ck.box y.1 [y.2.1, .int .i64 p.f_Time, y.2.2.2.1, .int .i64 p.f_Sure] 26, Ck.own (bytes 5) y.2.2.2.2 [y.2.2.2.1] (p.f_Book ++ lineBytes (putLine x)), Ck.own items fq [vq] (put p.f_Queue x).1, Ck.box g4 [pa0, .int .i64 p.f_Time, .slice pB p.f_Book.length pd, .int .i64 p.f_Sure] 26, Ck.own items pf0 [pa0] p.f_Queue, Ck.own (bytes 5) pf2 [.slice pB p.f_Book.length pd] p.f_Book, Ck.box g2 [.slice none 0 0, .int .i64 0, .slice none 0 0, .int .i64 0] 26]) ?_ ?_
      · have J := Sep.start w8
        refine fork_draw w8.heap.size [] fun wa hh hba => ?_
        have J := J.go (hba _)
        have J3 := J
        refine rest_pre [(0, true), (2, true), (3, true), (4, true), (5, true), (6, true), (7, true), (8, true), (9, true), (10, true)] 8 ?_
        refine vs ?_
        refine q_ldaB H J3 st26 ?_
        refine vs ?_
        refine q_ldB H J3 sc9 ?_
        refine vs ?_
        refine q_ldB H J3 sc3 ?_
        refine vs ?_
        refine q_ldB H J3 sc3 ?_
        refine vs ?_
        refine q_ldB H J3 sc22 ?_
        refine vs ?_
        refine q_bld bl73 [.int .i64 1, .string ⟨x.f_Route.toArray⟩, .int .i64 x.f_Topic, .int .i64 x.f_Due, .slice A9 x.f_Bytes.length c9] ?_
        refine vs ?_
        refine rest_fork 1 15 7 ?_ ?_
        · refine vs ?_
          refine x_call (l15Copy_ok _ _ p (J.rd (H.rd h9)) hs) fun _ wk R => ?_
          unfold PostR at R
          obtain ⟨ra0, rf0, ra2, rf2, rfl, S⟩ := R
          have J := J.join S
          simp only [List.cons_append, List.nil_append] at J
          have ro0 := one1 (fp := rf0) (x := p.f_Queue) J (.head _)
          refine vs ?_
          refine ⟨kept_base J3 J, ?_⟩
          refine rest_fork 11 15 6 ?_ ?_
          · refine vs ?_
            have J := J.front (c := Ck.own (bytes 5) rf2 [ra2] p.f_Book)
            have J := J.front (c := Ck.own items rf0 [ra0] p.f_Queue)
            refine x_call (l15Noted_ok p.f_Time p.f_Sure [.int .i64 1, .string ⟨x.f_Route.toArray⟩, .int .i64 x.f_Topic, .int .i64 x.f_Due, .slice A9 x.f_Bytes.length c9] (putLine x) J (putLine_rd (H.rd hx9)) hsx'.1 hsx'.2 hs'.2) fun _ wl ⟨f8, v8, e, J⟩ => ?_
            subst e
            rw [putLine_ok hio, Bool.true_and]
            have o8 := one1 (fp := f8) (x := p.f_Book ++ lineBytes (putLine x)) J (.tail _ (.head _))
            refine vs ?_
            refine ⟨kept_base J3 J, ?_⟩
            refine rest_end [(12, true), (13, true), (14, true), (15, false), (16, false), (17, true)] ?_
            refine vs ?_
            refine qx_extract0 ?_
            refine vs ?_
            refine qx_extract1 ?_
            refine vs ?_
            refine x_al J st26 fun g5 wm J => vs ?_
            refine ⟨kept_base J3 J, ?_⟩
            refine x_sta J st26 (vs := [ra0, .int .i64 p.f_Time, v8, .int .i64 p.f_Sure]) (h1 := one4 ro0 o8) fun wn J => vs ?_
            refine ⟨kept_base J3 J, ?_⟩
            have H := H.join J
            simp only [List.cons_append, List.nil_append] at H
            have H := H.front (c := Ck.box g2 [.slice none 0 0, .int .i64 0, .slice none 0 0, .int .i64 0] 26)
            have H := H.front (c := Ck.own (bytes 5) pf2 [.slice pB p.f_Book.length pd] p.f_Book)
            have H := H.front (c := Ck.own items pf0 [pa0] p.f_Queue)
            have H := H.front (c := Ck.box g4 [pa0, .int .i64 p.f_Time, .slice pB p.f_Book.length pd, .int .i64 p.f_Sure] 26)
            have H := H.front (c := Ck.own items fq [vq] (put p.f_Queue x).1)
            have H := H.front (c := Ck.own (bytes 5) f8 [v8] (p.f_Book ++ lineBytes (putLine x)))
            have H := H.front (c := Ck.box g5 [ra0, .int .i64 p.f_Time, v8, .int .i64 p.f_Sure] 26)
            exact ⟨(g5, ra0, rf0, v8, f8), vs trivial, ro0, o8, Sep.left (L := [_, _, _, _, _, _, _]) H⟩
          · refine vs ?_
            refine x_al J st26 fun g5 wm J => vs ?_
            refine ⟨kept_base J3 J, ?_⟩
            refine rest_end [(11, false), (12, true), (13, true), (14, true), (16, false), (17, true)] ?_
            refine vs ?_
            have J := J.front (c := Ck.own (bytes 5) rf2 [ra2] p.f_Book)
            have J := J.front (c := Ck.own items rf0 [ra0] p.f_Queue)
            refine x_call (l15Noted_ok p.f_Time p.f_Sure [.int .i64 1, .string ⟨x.f_Route.toArray⟩, .int .i64 x.f_Topic, .int .i64 x.f_Due, .slice A9 x.f_Bytes.length c9] (putLine x) J (putLine_rd (H.rd hx9)) hsx'.1 hsx'.2 hs'.2) fun _ wl ⟨f8, v8, e, J⟩ => ?_
            subst e
            rw [putLine_ok hio, Bool.true_and]
            have o8 := one1 (fp := f8) (x := p.f_Book ++ lineBytes (putLine x)) J (.tail _ (.head _))
            refine vs ?_
            refine ⟨kept_base J3 J, ?_⟩
            refine qx_extract0 ?_
            refine vs ?_
            refine qx_extract1 ?_
            refine vs ?_
            refine x_sta J st26 (vs := [ra0, .int .i64 p.f_Time, v8, .int .i64 p.f_Sure]) (h1 := one4 ro0 o8) fun wn J => vs ?_
            refine ⟨kept_base J3 J, ?_⟩
            have H := H.join J
            simp only [List.cons_append, List.nil_append] at H
            have H := H.front (c := Ck.box g2 [.slice none 0 0, .int .i64 0, .slice none 0 0, .int .i64 0] 26)
            have H := H.front (c := Ck.own (bytes 5) pf2 [.slice pB p.f_Book.length pd] p.f_Book)
            have H := H.front (c := Ck.own items pf0 [pa0] p.f_Queue)
            have H := H.front (c := Ck.box g4 [pa0, .int .i64 p.f_Time, .slice pB p.f_Book.length pd, .int .i64 p.f_Sure] 26)
            have H := H.front (c := Ck.own items fq [vq] (put p.f_Queue x).1)
            have H := H.front (c := Ck.own (bytes 5) f8 [v8] (p.f_Book ++ lineBytes (putLine x)))
            have H := H.front (c := Ck.box g5 [ra0, .int .i64 p.f_Time, v8, .int .i64 p.f_Sure] 26)
            exact ⟨(g5, ra0, rf0, v8, f8), vs trivial, ro0, o8, Sep.left (L := [_, _, _, _, _, _, _]) H⟩
        · refine vs ?_
          refine x_al J st26 fun g5 wm J => vs ?_
          refine ⟨kept_base J3 J, ?_⟩
          refine rest_end [(1, false), (11, false), (12, true), (13, true), (14, true), (16, false), (17, true)] ?_
          refine vs ?_
          refine x_call (l15Copy_ok _ _ p (J.rd (H.rd h9)) hs) fun _ wk R => ?_
          unfold PostR at R
          obtain ⟨ra0, rf0, ra2, rf2, rfl, S⟩ := R
          have J := J.join S
          simp only [List.cons_append, List.nil_append] at J
          have ro0 := one1 (fp := rf0) (x := p.f_Queue) J (.head _)
          refine vs ?_
          refine ⟨kept_base J3 J, ?_⟩
          have J := J.front (c := Ck.own (bytes 5) rf2 [ra2] p.f_Book)
          have J := J.front (c := Ck.own items rf0 [ra0] p.f_Queue)
          refine x_call (l15Noted_ok p.f_Time p.f_Sure [.int .i64 1, .string ⟨x.f_Route.toArray⟩, .int .i64 x.f_Topic, .int .i64 x.f_Due, .slice A9 x.f_Bytes.length c9] (putLine x) J (putLine_rd (H.rd hx9)) hsx'.1 hsx'.2 hs'.2) fun _ wl ⟨f8, v8, e, J⟩ => ?_
          subst e
          rw [putLine_ok hio, Bool.true_and]
          have o8 := one1 (fp := f8) (x := p.f_Book ++ lineBytes (putLine x)) J (.tail _ (.head _))
          refine vs ?_
          refine ⟨kept_base J3 J, ?_⟩
          refine qx_extract0 ?_
          refine vs ?_
          refine qx_extract1 ?_
          refine vs ?_
          refine x_sta J st26 (vs := [ra0, .int .i64 p.f_Time, v8, .int .i64 p.f_Sure]) (h1 := one4 ro0 o8) fun wn J => vs ?_
          refine ⟨kept_base J3 J, ?_⟩
          have H := H.join J
          simp only [List.cons_append, List.nil_append] at H
          have H := H.front (c := Ck.box g2 [.slice none 0 0, .int .i64 0, .slice none 0 0, .int .i64 0] 26)
          have H := H.front (c := Ck.own (bytes 5) pf2 [.slice pB p.f_Book.length pd] p.f_Book)
          have H := H.front (c := Ck.own items pf0 [pa0] p.f_Queue)
          have H := H.front (c := Ck.box g4 [pa0, .int .i64 p.f_Time, .slice pB p.f_Book.length pd, .int .i64 p.f_Sure] 26)
          have H := H.front (c := Ck.own items fq [vq] (put p.f_Queue x).1)
          have H := H.front (c := Ck.own (bytes 5) f8 [v8] (p.f_Book ++ lineBytes (putLine x)))
          have H := H.front (c := Ck.box g5 [ra0, .int .i64 p.f_Time, v8, .int .i64 p.f_Sure] 26)
          exact ⟨(g5, ra0, rf0, v8, f8), vs trivial, ro0, o8, Sep.left (L := [_, _, _, _, _, _, _]) H⟩
      rintro ⟨g5, ra0, rf0, v8, f8⟩ s9 wf ⟨ro0, o8, H⟩
      dsimp only at ro0 o8 H
      cases hput : (put p.f_Queue x).2 with
      | false =>
        refine vs ?_
        refine x_lda H st26 ?_
        refine vs ?_
        refine x_sta H st26 (vs := [pa0, .int .i64 p.f_Time, .slice pB p.f_Book.length pd, .int .i64 p.f_Sure]) (h1 := one4 po0 rfl) fun wz H => vs ?_
        have H := H.front (c := Ck.own (bytes 5) pf2 [.slice pB p.f_Book.length pd] p.f_Book)
        have H := H.front (c := Ck.own items pf0 [pa0] p.f_Queue)
        obtain ⟨fz, H⟩ := ownPost p H h1 h3
        rw [drop_full hok hio hd2 (fun hh => by have := hh.1; rw [hput] at this; cases this)]
        exact ⟨_, _, rfl, res_cell H st26, _, _, rfl, H.head⟩
      | true =>
        by_cases hf : p.f_Book.length + (lineBytes (putLine x)).length ≤ 12000
        rotate_left
        · refine ve hf ?_
          refine x_lda H st26 ?_
          refine vs ?_
          refine x_sta H st26 (vs := [pa0, .int .i64 p.f_Time, .slice pB p.f_Book.length pd, .int .i64 p.f_Sure]) (h1 := one4 po0 rfl) fun wz H => vs ?_
          have H := H.front (c := Ck.own (bytes 5) pf2 [.slice pB p.f_Book.length pd] p.f_Book)
          have H := H.front (c := Ck.own items pf0 [pa0] p.f_Queue)
          obtain ⟨fz, H⟩ := ownPost p H h1 h3
          rw [drop_full hok hio hd2 (fun hh => hf hh.2)]
          exact ⟨_, _, rfl, res_cell H st26, _, _, rfl, H.head⟩
        refine ve (show (p.f_Book.length + (lineBytes (putLine x)).length ≤ 12000) = True from eq_true hf) ?_
        refine x_st H sc24 (h1 := oq) fun wd H => vs ?_
        refine x_lda H st26 ?_
        refine vs ?_
        refine x_sta H st26 (vs := [vq, .int .i64 p.f_Time, v8, .int .i64 p.f_Sure]) (h1 := one4 oq o8) fun we H => vs ?_
        have H := H.front (c := Ck.own (bytes 5) f8 [v8] (p.f_Book ++ lineBytes (putLine x)))
        have H := H.front (c := Ck.own items fq [vq] (put p.f_Queue x).1)
        obtain ⟨fz, H⟩ := ownPost (⟨(put p.f_Queue x).1, p.f_Time, p.f_Book ++ lineBytes (putLine x), p.f_Sure⟩ : MPost) H h1 h3
        rw [drop_done hok hio hd2 hput hf]
        exact ⟨_, _, rfl, res_cell H st26, _, _, rfl, H.head⟩

theorem fetch_bad {p : MPost} {r : List UInt8} (h : ¬ (postOk p = true ∧ isRoute r = true)) : fetchP p r = (p, zItem, 1) := by
  unfold fetchP
  rw [if_neg]
  simp only [Bool.and_eq_true]; exact h
theorem fetch_none {p : MPost} {r : List UInt8} (h : postOk p = true) (h1 : isRoute r = true) (h2 : (takeQ p.f_Queue r).2.2 = false) : fetchP p r = (p, zItem, 3) := by
  unfold fetchP
  rw [if_pos (by rw [h, h1]; rfl), if_neg (by rw [h2]; decide)]
theorem fetch_full {p : MPost} {r : List UInt8} (h : postOk p = true) (h1 : isRoute r = true) (h2 : (takeQ p.f_Queue r).2.2 = true) (h3 : ¬ p.f_Book.length + (lineBytes (takeLine r)).length ≤ 12000) : fetchP p r = (p, zItem, 2) := by
  unfold fetchP
  rw [if_pos (by rw [h, h1]; rfl), if_pos h2, if_neg (by unfold fits; rw [decide_eq_false h3]; decide)]
theorem fetch_done {p : MPost} {r : List UInt8} (h : postOk p = true) (h1 : isRoute r = true) (h2 : (takeQ p.f_Queue r).2.2 = true) (h3 : p.f_Book.length + (lineBytes (takeLine r)).length ≤ 12000) : fetchP p r = (⟨(takeQ p.f_Queue r).2.1, p.f_Time, p.f_Book ++ lineBytes (takeLine r), p.f_Sure⟩, (takeQ p.f_Queue r).1, 0) := by
  unfold fetchP
  rw [if_pos (by rw [h, h1]; rfl), if_pos h2, if_pos (by unfold fits; rw [decide_eq_true h3])]
theorem takeLine_ok {r : List UInt8} (h : isRoute r = true) : lineOk (takeLine r) = true := by
  rw [lineOk_2 rfl]
  have e : isRoute (takeLine r).f_Route = true := h
  rw [e]; rfl
theorem takeLine_rd (w : World) (n : Nat) {r : List UInt8} (h : r.length ≤ 9223372036854775807) : kLine.rd w n [.int .i64 2, .string ⟨r.toArray⟩, .int .i64 0, .int .i64 0, .slice none 0 0] (takeLine r) :=
  kLine_of (takeLine r) (by show (-9223372036854775808 : Int) ≤ 2 ∧ (2 : Int) < 9223372036854775808; decide) h (by show (-9223372036854775808 : Int) ≤ 0 ∧ (0 : Int) < 9223372036854775808; decide) (by show (-9223372036854775808 : Int) ≤ 0 ∧ (0 : Int) < 9223372036854775808; decide) (Kd.own_rd _ (sl_zero w) (by simp))
theorem smItem_z : smItem zItem := by unfold smItem zItem; decide
theorem takeQ_sm {q : List MItem} {r : List UInt8} (hs : smItemS q) : smItem (takeQ q r).1 ∧ smItemS (takeQ q r).2.1 := by
  unfold takeQ
  split
  · refine ⟨?_, sm_erase hs _⟩
    show smItem (itAt q _)
    unfold itAt
    rw [List.getD_eq_getElem?_getD]
    rename_i i _
    by_cases h : i < q.length
    · rw [List.getElem?_eq_getElem h, Option.getD_some]; exact hs.2 _ (List.getElem_mem h)
    · rw [List.getElem?_eq_none (by omega), Option.getD_none]; exact smItem_z
  · exact ⟨smItem_z, hs⟩
theorem fetchP_sm {p : MPost} {r : List UInt8} (hs : smPost p) : smPost (fetchP p r).1 ∧ smItem (fetchP p r).2.1 := by
  have ht := takeQ_sm (r := r) hs.1
  unfold fetchP
  split
  · split
    · split
      · rename_i h2
        unfold fits at h2
        simp only [decide_eq_true_eq] at h2
        exact ⟨⟨ht.2, by show (p.f_Book ++ lineBytes (takeLine r)).length ≤ 1048576; rw [List.length_append]; omega⟩, ht.1⟩
      · exact ⟨hs, smItem_z⟩
    · exact ⟨hs, smItem_z⟩
  · exact ⟨hs, smItem_z⟩
theorem implFetch_ok (w : World) (cs : List Value) (p : MPost) (r : List UInt8) (h : kPost.rd w w.heap.size cs p) (hs : smPost p) (hrl : r.length ≤ 1048576) :
    ACalls Tryz.prog 16 #[.agg cs.toArray, .string ⟨r.toArray⟩] w fun z w' => ∃ cs' fp ds' fi, z = .tuple #[.agg cs'.toArray, .agg ds'.toArray, .int .i64 (fetchP p r).2.2] ∧ Sep w.heap.size w w' [Ck.own kPost fp cs' (fetchP p r).1, Ck.own kItem fi ds' (fetchP p r).2.1] := by
  have hs' := hs
  unfold smPost at hs'
  have h9 := h
  obtain ⟨v0, v2, rfl, h0, h1, h2, h3⟩ := kPost_open h
  obtain ⟨A2, c2, rfl, _⟩ := sl_open h2
  have H := Sep.start w
  refine body_of follows Tryz.func16 rfl rfl _ rfl (by kernel_rfl) (vs ?_)
  refine x_bx H [v0, .int .i64 p.f_Time, .slice A2 p.f_Book.length c2, .int .i64 p.f_Sure] fun g1 w1 H => vs ?_
  refine x_al H st26 fun g2 w2 H => vs ?_
  refine x_al H st32 fun g8 w9 H => vs ?_
  refine x_lda H st26 ?_
  refine vs ?_
  refine x_call (clonePost_ok _ _ p (H.rd h9) hs) fun _ w3 R => ?_
  unfold PostR at R
  obtain ⟨pa0, pf0, pa2, pf2, rfl, S⟩ := R
  have H := H.join S
  simp only [List.cons_append, List.nil_append] at H
  have po0 := one1 (fp := pf0) (x := p.f_Queue) H (.head _)
  obtain ⟨pB, pd, rfl, _⟩ := sl_open (H.own (fp := pf2) (x := p.f_Book) (.tail _ (.head _)))
  refine vs ?_
  refine x_al H st26 fun g4 w4 H => vs ?_
  refine x_sta H st26 (vs := [pa0, .int .i64 p.f_Time, .slice pB p.f_Book.length pd, .int .i64 p.f_Sure]) (h1 := one4 po0 rfl) fun w4 H => vs ?_
  refine x_lda H st26 ?_
  refine vs ?_
  refine x_callb H (implPostOk_ok _ _ p (H.rd h9) hs) fun w6 H => ?_
  cases hok : postOk p with
  | false =>
    refine vs ?_
    refine x_lda H st26 ?_
    refine vs ?_
    refine x_build bl32 [.string ⟨#[]⟩, .int .i64 0, .int .i64 0, .slice none 0 0] ?_
    refine vs ?_
    refine x_sta H st26 (vs := [pa0, .int .i64 p.f_Time, .slice pB p.f_Book.length pd, .int .i64 p.f_Sure]) (h1 := one4 po0 rfl) fun wz H => vs ?_
    have H := H.nothing (kItem_zero wz)
    refine x_sta H st32 (vs := [.string ⟨#[]⟩, .int .i64 0, .int .i64 0, .slice none 0 0]) (h1 := Kd.one _ (H.own (.head _))) fun wy H => vs ?_
    have H := H.front (c := Ck.own kItem [] [.string ⟨#[]⟩, .int .i64 0, .int .i64 0, .slice none 0 0] zItem)
    have H := H.front (c := Ck.own (bytes 5) pf2 [.slice pB p.f_Book.length pd] p.f_Book)
    have H := H.front (c := Ck.own items pf0 [pa0] p.f_Queue)
    obtain ⟨fz, H⟩ := ownPost p H h1 h3
    rw [fetch_bad (fun hh => by have := hh.1; rw [hok] at this; cases this)]
    exact ⟨_, _, rfl, res_cell H st26, _, _, rfl, res_cell H st32, _, _, _, _, rfl, H.two .here .here⟩
  | true =>
    refine vs ?_
    refine x_callb H (implIsRoute_ok w6 r (by omega)) fun w7 H => ?_
    cases hro : isRoute r with
    | false =>
      refine vs ?_
      refine x_lda H st26 ?_
      refine vs ?_
      refine x_build bl32 [.string ⟨#[]⟩, .int .i64 0, .int .i64 0, .slice none 0 0] ?_
      refine vs ?_
      refine x_sta H st26 (vs := [pa0, .int .i64 p.f_Time, .slice pB p.f_Book.length pd, .int .i64 p.f_Sure]) (h1 := one4 po0 rfl) fun wz H => vs ?_
      have H := H.nothing (kItem_zero wz)
      refine x_sta H st32 (vs := [.string ⟨#[]⟩, .int .i64 0, .int .i64 0, .slice none 0 0]) (h1 := Kd.one _ (H.own (.head _))) fun wy H => vs ?_
      have H := H.front (c := Ck.own kItem [] [.string ⟨#[]⟩, .int .i64 0, .int .i64 0, .slice none 0 0] zItem)
      have H := H.front (c := Ck.own (bytes 5) pf2 [.slice pB p.f_Book.length pd] p.f_Book)
      have H := H.front (c := Ck.own items pf0 [pa0] p.f_Queue)
      obtain ⟨fz, H⟩ := ownPost p H h1 h3
      rw [fetch_bad (fun hh => by have := hh.2; rw [hro] at this; cases this)]
      exact ⟨_, _, rfl, res_cell H st26, _, _, rfl, res_cell H st32, _, _, _, _, rfl, H.two .here .here⟩
    | true =>
      have hll := lineBytes_le (takeLine r)
      refine vs ?_
      refine x_ld H sc24 ?_
      refine vs ?_
      refine x_call (implTake_ok _ v0 _ r (H.rd h0) hs'.1) fun _ w8 ⟨ds, fi, vq, fq, e, S⟩ => ?_
      subst e
      have H := H.join S
      simp only [List.cons_append, List.nil_append] at H
      have oq := one1 (fp := fq) (x := (takeQ p.f_Queue r).2.1) H (.head _)
      have oi0 := Kd.one _ (H.own (fp := fi) (x := (takeQ p.f_Queue r).1) (.tail _ (.head _)))
      obtain ⟨u5, e5, _⟩ := kItem_open (H.own (fp := fi) (x := (takeQ p.f_Queue r).1) (.tail _ (.head _)))
      subst e5
      refine vs ?_
      refine x_al H st32 fun g6 wa H => vs ?_
      refine x_sta H st32 (h1 := oi0) fun wb H => ?_
      cases htk : (takeQ p.f_Queue r).2.2 with
      | false =>
        refine vs ?_
        refine x_lda H st26 ?_
        refine vs ?_
        refine x_build bl32 [.string ⟨#[]⟩, .int .i64 0, .int .i64 0, .slice none 0 0] ?_
        refine vs ?_
        refine x_sta H st26 (vs := [pa0, .int .i64 p.f_Time, .slice pB p.f_Book.length pd, .int .i64 p.f_Sure]) (h1 := one4 po0 rfl) fun wz H => vs ?_
        have H := H.nothing (kItem_zero wz)
        refine x_sta H st32 (vs := [.string ⟨#[]⟩, .int .i64 0, .int .i64 0, .slice none 0 0]) (h1 := Kd.one _ (H.own (.head _))) fun wy H => vs ?_
        have H := H.front (c := Ck.own kItem [] [.string ⟨#[]⟩, .int .i64 0, .int .i64 0, .slice none 0 0] zItem)
        have H := H.front (c := Ck.own (bytes 5) pf2 [.slice pB p.f_Book.length pd] p.f_Book)
        have H := H.front (c := Ck.own items pf0 [pa0] p.f_Queue)
        obtain ⟨fz, H⟩ := ownPost p H h1 h3
        rw [fetch_none hok hro htk]
        exact ⟨_, _, rfl, res_cell H st26, _, _, rfl, res_cell H st32, _, _, _, _, rfl, H.two .here .here⟩
      | true =>
        refine vs ?_
        refine x_build bl73 [.int .i64 2, .string ⟨r.toArray⟩, .int .i64 0, .int .i64 0, .slice none 0 0] ?_
        refine vs ?_
        have H := H.front (c := Ck.box g4 [pa0, .int .i64 p.f_Time, .slice pB p.f_Book.length pd, .int .i64 p.f_Sure] 26)
        have H := H.front (c := Ck.own (bytes 5) pf2 [.slice pB p.f_Book.length pd] p.f_Book)
        refine x_call (noted_ok [.int .i64 2, .string ⟨r.toArray⟩, .int .i64 0, .int .i64 0, .slice none 0 0] (takeLine r) H (takeLine_rd _ _ (by omega)) hrl (by show ([] : List UInt8).length ≤ 1048576; decide) hs'.2) fun _ wc ⟨e, f8, v8, H⟩ => ?_
        subst e
        by_cases hf : p.f_Book.length + (lineBytes (takeLine r)).length ≤ 12000
        rotate_left
        · rw [if_neg hf] at H
          refine ve hf ?_
          refine x_lda H st26 ?_
          refine vs ?_
          refine x_call (clonePost_ok _ _ p (H.rd h9) hs) fun _ wd R => ?_
          unfold PostR at R
          obtain ⟨ra0, rf0, ra2, rf2, rfl, S⟩ := R
          have H := H.join S
          simp only [List.cons_append, List.nil_append] at H
          have ro0 := one1 (fp := rf0) (x := p.f_Queue) H (.head _)
          obtain ⟨rB, rd, rfl, _⟩ := sl_open (H.own (fp := rf2) (x := p.f_Book) (.tail _ (.head _)))
          refine vs ?_
          refine x_build bl32 [.string ⟨#[]⟩, .int .i64 0, .int .i64 0, .slice none 0 0] ?_
          refine vs ?_
          refine x_sta H st26 (vs := [ra0, .int .i64 p.f_Time, .slice rB p.f_Book.length rd, .int .i64 p.f_Sure]) (h1 := one4 ro0 rfl) fun wz H => vs ?_
          have H := H.nothing (kItem_zero wz)
          refine x_sta H st32 (vs := [.string ⟨#[]⟩, .int .i64 0, .int .i64 0, .slice none 0 0]) (h1 := Kd.one _ (H.own (.head _))) fun wy H => vs ?_
          have H := H.front (c := Ck.own kItem [] [.string ⟨#[]⟩, .int .i64 0, .int .i64 0, .slice none 0 0] zItem)
          have H := H.front (c := Ck.own (bytes 5) rf2 [.slice rB p.f_Book.length rd] p.f_Book)
          have H := H.front (c := Ck.own items rf0 [ra0] p.f_Queue)
          obtain ⟨fz, H⟩ := ownPost p H h1 h3
          rw [fetch_full hok hro htk hf]
          exact ⟨_, _, rfl, res_cell H st26, _, _, rfl, res_cell H st32, _, _, _, _, rfl, H.two .here .here⟩
        rw [if_pos hf] at H
        refine ve (show (p.f_Book.length + (lineBytes (takeLine r)).length ≤ 12000) = True from eq_true hf) ?_
        have o8 := one1 H (.head _)
        refine x_st H sc24 (h1 := oq) fun wf H => vs ?_
        have oi := Kd.one _ (H.own (fp := fi) (x := (takeQ p.f_Queue r).1) (by repeat (first | exact List.mem_cons_self | apply List.mem_cons_of_mem)))
        have ne1 : g4 ≠ g2 := H.boxne (cs := [vq, .int .i64 p.f_Time, v8, .int .i64 p.f_Sure]) (cs' := [.slice none 0 0, .int .i64 0, .slice none 0 0, .int .i64 0]) (t := 26) (t' := 26)
        have ne2 : g4 ≠ g8 := H.boxne (cs := [vq, .int .i64 p.f_Time, v8, .int .i64 p.f_Sure]) (cs' := [.string ⟨#[]⟩, .int .i64 0, .int .i64 0, .slice none 0 0]) (t := 26) (t' := 32)
        have ne3 : g6 ≠ g2 := H.boxne (cs := [.string ⟨(takeQ p.f_Queue r).1.f_Route.toArray⟩, .int .i64 (takeQ p.f_Queue r).1.f_Topic, .int .i64 (takeQ p.f_Queue r).1.f_Due, u5]) (cs' := [.slice none 0 0, .int .i64 0, .slice none 0 0, .int .i64 0]) (t := 32) (t' := 26)
        have ne4 : g6 ≠ g8 := H.boxne (cs := [.string ⟨(takeQ p.f_Queue r).1.f_Route.toArray⟩, .int .i64 (takeQ p.f_Queue r).1.f_Topic, .int .i64 (takeQ p.f_Queue r).1.f_Due, u5]) (cs' := [.string ⟨#[]⟩, .int .i64 0, .int .i64 0, .slice none 0 0]) (t := 32) (t' := 32)
        refine draw_of [(0, true), (1, true), (2, false), (3, false), (4, true)] wf.heap.size [(g2, 0), (g8, 0)] fun wj hh hbj => vs ?_
        have H := H.go (hbj _)
        have hwj : wj.heap.size = wf.heap.size := by rw [hh]
        rw [← hwj]
        have qa : ∀ k, (g4, k) ∉ [(g2, 0), (g8, 0)] := fun k hk => by simp only [List.mem_cons, List.not_mem_nil, or_false, Prod.mk.injEq] at hk; omega
        have qb : ∀ k, (g6, k) ∉ [(g2, 0), (g8, 0)] := fun k hk => by simp only [List.mem_cons, List.not_mem_nil, or_false, Prod.mk.injEq] at hk; omega
        have z0 : ∀ g t, (g, t) ∈ [(g2, 0), (g8, 0)] → t = 0 := fun g t ht => by simp only [List.mem_cons, List.not_mem_nil, or_false, Prod.mk.injEq] at ht; omega
        refine q_ldaG H st26 qa (cs := [vq, .int .i64 p.f_Time, v8, .int .i64 p.f_Sure]) ?_
        refine vs ?_
        refine q_ldaG H st32 qb (cs := [.string ⟨(takeQ p.f_Queue r).1.f_Route.toArray⟩, .int .i64 (takeQ p.f_Queue r).1.f_Topic, .int .i64 (takeQ p.f_Queue r).1.f_Due, u5]) ?_
        refine vs ?_
        refine x_staD H st26 (vs := [vq, .int .i64 p.f_Time, v8, .int .i64 p.f_Sure]) (fun wk H hc1 => vs ?_) (h1 := one4 oq o8)
        have k1 := kept_chg (G := [(g2, 0), (g8, 0)]) (Kept.refl wj.heap.size _ wj) hc1 (fun b hb => by simp only [List.mem_singleton] at hb; subst hb; exact .head _) (Nat.le_refl _) z0
        refine ⟨k1, ?_⟩
        refine x_staD H st32 (vs := [.string ⟨(takeQ p.f_Queue r).1.f_Route.toArray⟩, .int .i64 (takeQ p.f_Queue r).1.f_Topic, .int .i64 (takeQ p.f_Queue r).1.f_Due, u5]) (fun wl H hc2 => vs ?_) (h1 := oi)
        refine ⟨kept_chg k1 hc2 (fun b hb => by simp only [List.mem_singleton] at hb; subst hb; exact .tail _ (.head _)) hc1.size z0, ?_⟩
        have H := H.front (c := Ck.own kItem fi [.string ⟨(takeQ p.f_Queue r).1.f_Route.toArray⟩, .int .i64 (takeQ p.f_Queue r).1.f_Topic, .int .i64 (takeQ p.f_Queue r).1.f_Due, u5] (takeQ p.f_Queue r).1)
        have H := H.front (c := Ck.own (bytes 5) f8 [v8] (p.f_Book ++ lineBytes (takeLine r)))
        have H := H.front (c := Ck.own items fq [vq] (takeQ p.f_Queue r).2.1)
        obtain ⟨fz, H⟩ := ownPost (⟨(takeQ p.f_Queue r).2.1, p.f_Time, p.f_Book ++ lineBytes (takeLine r), p.f_Sure⟩ : MPost) H h1 h3
        rw [fetch_done hok hro htk hf]
        exact ⟨_, _, rfl, res_cell H st26, _, _, rfl, res_cell H st32, _, _, _, _, rfl, H.two .here .here⟩
theorem specFetch_ok (w : World) (cs : List Value) (p : MPost) (r : List UInt8) (h : kPost.rd w w.heap.size cs p) (hs : smPost p) (hrl : r.length ≤ 1048576) :
    ACalls Tryz.prog 25 #[.agg cs.toArray, .string ⟨r.toArray⟩] w fun z w' => ∃ cs' fp ds' fi, z = .tuple #[.agg cs'.toArray, .agg ds'.toArray, .int .i64 (fetchP p r).2.2] ∧ Sep w.heap.size w w' [Ck.own kPost fp cs' (fetchP p r).1, Ck.own kItem fi ds' (fetchP p r).2.1] := by
  have hs' := hs
  unfold smPost at hs'
  have h9 := h
  obtain ⟨v0, v2, rfl, h0, h1, h2, h3⟩ := kPost_open h
  obtain ⟨A2, c2, rfl, _⟩ := sl_open h2
  have H := Sep.start w
  refine body_of follows Tryz.func25 rfl rfl _ rfl (by kernel_rfl) (vs ?_)
  refine x_bx H [v0, .int .i64 p.f_Time, .slice A2 p.f_Book.length c2, .int .i64 p.f_Sure] fun g1 w1 H => vs ?_
  refine x_al H st26 fun g2 w2 H => vs ?_
  refine x_al H st32 fun g8 w9 H => vs ?_
  refine x_lda H st26 ?_
  refine vs ?_
  refine x_call (l15Copy_ok _ _ p (H.rd h9) hs) fun _ w3 R => ?_
  unfold PostR at R
  obtain ⟨pa0, pf0, pa2, pf2, rfl, S⟩ := R
  have H := H.join S
  simp only [List.cons_append, List.nil_append] at H
  have po0 := one1 (fp := pf0) (x := p.f_Queue) H (.head _)
  obtain ⟨pB, pd, rfl, _⟩ := sl_open (H.own (fp := pf2) (x := p.f_Book) (.tail _ (.head _)))
  refine vs ?_
  refine x_al H st26 fun g4 w4 H => vs ?_
  refine x_sta H st26 (vs := [pa0, .int .i64 p.f_Time, .slice pB p.f_Book.length pd, .int .i64 p.f_Sure]) (h1 := one4 po0 rfl) fun w4 H => vs ?_
  refine x_lda H st26 ?_
  refine vs ?_
  refine x_callb H (specPostOk_ok _ _ p (H.rd h9) hs) fun w6 H => ?_
  cases hok : postOk p with
  | false =>
    refine vs ?_
    refine x_lda H st26 ?_
    refine vs ?_
    refine x_build bl32 [.string ⟨#[]⟩, .int .i64 0, .int .i64 0, .slice none 0 0] ?_
    refine vs ?_
    refine x_sta H st26 (vs := [pa0, .int .i64 p.f_Time, .slice pB p.f_Book.length pd, .int .i64 p.f_Sure]) (h1 := one4 po0 rfl) fun wz H => vs ?_
    have H := H.nothing (kItem_zero wz)
    refine x_sta H st32 (vs := [.string ⟨#[]⟩, .int .i64 0, .int .i64 0, .slice none 0 0]) (h1 := Kd.one _ (H.own (.head _))) fun wy H => vs ?_
    have H := H.front (c := Ck.own kItem [] [.string ⟨#[]⟩, .int .i64 0, .int .i64 0, .slice none 0 0] zItem)
    have H := H.front (c := Ck.own (bytes 5) pf2 [.slice pB p.f_Book.length pd] p.f_Book)
    have H := H.front (c := Ck.own items pf0 [pa0] p.f_Queue)
    obtain ⟨fz, H⟩ := ownPost p H h1 h3
    rw [fetch_bad (fun hh => by have := hh.1; rw [hok] at this; cases this)]
    exact ⟨_, _, rfl, res_cell H st26, _, _, rfl, res_cell H st32, _, _, _, _, rfl, H.two .here .here⟩
  | true =>
    refine vs ?_
    refine x_callb H (specIsRoute_ok w6 r (by omega)) fun w7 H => ?_
    cases hro : isRoute r with
    | false =>
      refine vs ?_
      refine x_lda H st26 ?_
      refine vs ?_
      refine x_build bl32 [.string ⟨#[]⟩, .int .i64 0, .int .i64 0, .slice none 0 0] ?_
      refine vs ?_
      refine x_sta H st26 (vs := [pa0, .int .i64 p.f_Time, .slice pB p.f_Book.length pd, .int .i64 p.f_Sure]) (h1 := one4 po0 rfl) fun wz H => vs ?_
      have H := H.nothing (kItem_zero wz)
      refine x_sta H st32 (vs := [.string ⟨#[]⟩, .int .i64 0, .int .i64 0, .slice none 0 0]) (h1 := Kd.one _ (H.own (.head _))) fun wy H => vs ?_
      have H := H.front (c := Ck.own kItem [] [.string ⟨#[]⟩, .int .i64 0, .int .i64 0, .slice none 0 0] zItem)
      have H := H.front (c := Ck.own (bytes 5) pf2 [.slice pB p.f_Book.length pd] p.f_Book)
      have H := H.front (c := Ck.own items pf0 [pa0] p.f_Queue)
      obtain ⟨fz, H⟩ := ownPost p H h1 h3
      rw [fetch_bad (fun hh => by have := hh.2; rw [hro] at this; cases this)]
      exact ⟨_, _, rfl, res_cell H st26, _, _, rfl, res_cell H st32, _, _, _, _, rfl, H.two .here .here⟩
    | true =>
      have hll := lineBytes_le (takeLine r)
      refine vs ?_
      refine x_ld H sc24 ?_
      refine vs ?_
      refine x_call (specTake_ok _ v0 _ r (H.rd h0) hs'.1) fun _ w8 ⟨ds, fi, vq, fq, e, S⟩ => ?_
      subst e
      have H := H.join S
      simp only [List.cons_append, List.nil_append] at H
      have oq := one1 (fp := fq) (x := (takeQ p.f_Queue r).2.1) H (.head _)
      have oi0 := Kd.one _ (H.own (fp := fi) (x := (takeQ p.f_Queue r).1) (.tail _ (.head _)))
      obtain ⟨u5, e5, _⟩ := kItem_open (H.own (fp := fi) (x := (takeQ p.f_Queue r).1) (.tail _ (.head _)))
      subst e5
      refine vs ?_
      refine x_al H st32 fun g6 wa H => vs ?_
      refine x_sta H st32 (h1 := oi0) fun wb H => ?_
      cases htk : (takeQ p.f_Queue r).2.2 with
      | false =>
        refine vs ?_
        refine x_lda H st26 ?_
        refine vs ?_
        refine x_build bl32 [.string ⟨#[]⟩, .int .i64 0, .int .i64 0, .slice none 0 0] ?_
        refine vs ?_
        refine x_sta H st26 (vs := [pa0, .int .i64 p.f_Time, .slice pB p.f_Book.length pd, .int .i64 p.f_Sure]) (h1 := one4 po0 rfl) fun wz H => vs ?_
        have H := H.nothing (kItem_zero wz)
        refine x_sta H st32 (vs := [.string ⟨#[]⟩, .int .i64 0, .int .i64 0, .slice none 0 0]) (h1 := Kd.one _ (H.own (.head _))) fun wy H => vs ?_
        have H := H.front (c := Ck.own kItem [] [.string ⟨#[]⟩, .int .i64 0, .int .i64 0, .slice none 0 0] zItem)
        have H := H.front (c := Ck.own (bytes 5) pf2 [.slice pB p.f_Book.length pd] p.f_Book)
        have H := H.front (c := Ck.own items pf0 [pa0] p.f_Queue)
        obtain ⟨fz, H⟩ := ownPost p H h1 h3
        rw [fetch_none hok hro htk]
        exact ⟨_, _, rfl, res_cell H st26, _, _, rfl, res_cell H st32, _, _, _, _, rfl, H.two .here .here⟩
      | true =>
        refine vs ?_
        refine x_lda H st26 ?_
        refine vs ?_
        refine x_call (l15Copy_ok _ _ p (H.rd h9) hs) fun _ wc R => ?_
        unfold PostR at R
        obtain ⟨ra0, rf0, ra2, rf2, rfl, S⟩ := R
        have H := H.join S
        simp only [List.cons_append, List.nil_append] at H
        have ro0 := one1 (fp := rf0) (x := p.f_Queue) H (.head _)
        refine vs ?_
        refine x_build bl73 [.int .i64 2, .string ⟨r.toArray⟩, .int .i64 0, .int .i64 0, .slice none 0 0] ?_
        refine vs ?_
        refine x_call (l15Noted_ok p.f_Time p.f_Sure [.int .i64 2, .string ⟨r.toArray⟩, .int .i64 0, .int .i64 0, .slice none 0 0] (takeLine r) H (takeLine_rd _ _ (by omega)) hrl (by show ([] : List UInt8).length ≤ 1048576; decide) hs'.2) fun _ wd ⟨f8, v8, e, H⟩ => ?_
        subst e
        rw [takeLine_ok hro, Bool.true_and]
        have o8 := one1 (fp := f8) (x := p.f_Book ++ lineBytes (takeLine r)) H (.tail _ (.head _))
        refine vs ?_
        refine x_al H st26 fun g7 we H => vs ?_
        refine x_sta H st26 (vs := [ra0, .int .i64 p.f_Time, v8, .int .i64 p.f_Sure]) (h1 := one4 ro0 o8) fun wf H => vs ?_
        by_cases hf : p.f_Book.length + (lineBytes (takeLine r)).length ≤ 12000
        rotate_left
        · refine ve hf ?_
          refine x_lda H st26 ?_
          refine vs ?_
          refine x_build bl32 [.string ⟨#[]⟩, .int .i64 0, .int .i64 0, .slice none 0 0] ?_
          refine vs ?_
          refine x_sta H st26 (vs := [pa0, .int .i64 p.f_Time, .slice pB p.f_Book.length pd, .int .i64 p.f_Sure]) (h1 := one4 po0 rfl) fun wz H => vs ?_
          have H := H.nothing (kItem_zero wz)
          refine x_sta H st32 (vs := [.string ⟨#[]⟩, .int .i64 0, .int .i64 0, .slice none 0 0]) (h1 := Kd.one _ (H.own (.head _))) fun wy H => vs ?_
          have H := H.front (c := Ck.own kItem [] [.string ⟨#[]⟩, .int .i64 0, .int .i64 0, .slice none 0 0] zItem)
          have H := H.front (c := Ck.own (bytes 5) pf2 [.slice pB p.f_Book.length pd] p.f_Book)
          have H := H.front (c := Ck.own items pf0 [pa0] p.f_Queue)
          obtain ⟨fz, H⟩ := ownPost p H h1 h3
          rw [fetch_full hok hro htk hf]
          exact ⟨_, _, rfl, res_cell H st26, _, _, rfl, res_cell H st32, _, _, _, _, rfl, H.two .here .here⟩
        refine ve (show (p.f_Book.length + (lineBytes (takeLine r)).length ≤ 12000) = True from eq_true hf) ?_
        refine x_st H sc24 (h1 := oq) fun wg H => vs ?_
        have oi := Kd.one _ (H.own (fp := fi) (x := (takeQ p.f_Queue r).1) (by repeat (first | exact List.mem_cons_self | apply List.mem_cons_of_mem)))
        have ne1 : g7 ≠ g2 := H.boxne (cs := [vq, .int .i64 p.f_Time, v8, .int .i64 p.f_Sure]) (cs' := [.slice none 0 0, .int .i64 0, .slice none 0 0, .int .i64 0]) (t := 26) (t' := 26)
        have ne2 : g7 ≠ g8 := H.boxne (cs := [vq, .int .i64 p.f_Time, v8, .int .i64 p.f_Sure]) (cs' := [.string ⟨#[]⟩, .int .i64 0, .int .i64 0, .slice none 0 0]) (t := 26) (t' := 32)
        have ne3 : g6 ≠ g2 := H.boxne (cs := [.string ⟨(takeQ p.f_Queue r).1.f_Route.toArray⟩, .int .i64 (takeQ p.f_Queue r).1.f_Topic, .int .i64 (takeQ p.f_Queue r).1.f_Due, u5]) (cs' := [.slice none 0 0, .int .i64 0, .slice none 0 0, .int .i64 0]) (t := 32) (t' := 26)
        have ne4 : g6 ≠ g8 := H.boxne (cs := [.string ⟨(takeQ p.f_Queue r).1.f_Route.toArray⟩, .int .i64 (takeQ p.f_Queue r).1.f_Topic, .int .i64 (takeQ p.f_Queue r).1.f_Due, u5]) (cs' := [.string ⟨#[]⟩, .int .i64 0, .int .i64 0, .slice none 0 0]) (t := 32) (t' := 32)
        refine draw_of [(0, true), (1, true), (2, false), (3, false), (4, true)] wg.heap.size [(g2, 0), (g8, 0)] fun wj hh hbj => vs ?_
        have H := H.go (hbj _)
        have hwj : wj.heap.size = wg.heap.size := by rw [hh]
        rw [← hwj]
        have qa : ∀ k, (g7, k) ∉ [(g2, 0), (g8, 0)] := fun k hk => by simp only [List.mem_cons, List.not_mem_nil, or_false, Prod.mk.injEq] at hk; omega
        have qb : ∀ k, (g6, k) ∉ [(g2, 0), (g8, 0)] := fun k hk => by simp only [List.mem_cons, List.not_mem_nil, or_false, Prod.mk.injEq] at hk; omega
        have z0 : ∀ g t, (g, t) ∈ [(g2, 0), (g8, 0)] → t = 0 := fun g t ht => by simp only [List.mem_cons, List.not_mem_nil, or_false, Prod.mk.injEq] at ht; omega
        refine q_ldaG H st26 qa (cs := [vq, .int .i64 p.f_Time, v8, .int .i64 p.f_Sure]) ?_
        refine vs ?_
        refine q_ldaG H st32 qb (cs := [.string ⟨(takeQ p.f_Queue r).1.f_Route.toArray⟩, .int .i64 (takeQ p.f_Queue r).1.f_Topic, .int .i64 (takeQ p.f_Queue r).1.f_Due, u5]) ?_
        refine vs ?_
        refine x_staD H st26 (vs := [vq, .int .i64 p.f_Time, v8, .int .i64 p.f_Sure]) (fun wk H hc1 => vs ?_) (h1 := one4 oq o8)
        have k1 := kept_chg (G := [(g2, 0), (g8, 0)]) (Kept.refl wj.heap.size _ wj) hc1 (fun b hb => by simp only [List.mem_singleton] at hb; subst hb; exact .head _) (Nat.le_refl _) z0
        refine ⟨k1, ?_⟩
        refine x_staD H st32 (vs := [.string ⟨(takeQ p.f_Queue r).1.f_Route.toArray⟩, .int .i64 (takeQ p.f_Queue r).1.f_Topic, .int .i64 (takeQ p.f_Queue r).1.f_Due, u5]) (fun wl H hc2 => vs ?_) (h1 := oi)
        refine ⟨kept_chg k1 hc2 (fun b hb => by simp only [List.mem_singleton] at hb; subst hb; exact .tail _ (.head _)) hc1.size z0, ?_⟩
        have H := H.front (c := Ck.own kItem fi [.string ⟨(takeQ p.f_Queue r).1.f_Route.toArray⟩, .int .i64 (takeQ p.f_Queue r).1.f_Topic, .int .i64 (takeQ p.f_Queue r).1.f_Due, u5] (takeQ p.f_Queue r).1)
        have H := H.front (c := Ck.own (bytes 5) f8 [v8] (p.f_Book ++ lineBytes (takeLine r)))
        have H := H.front (c := Ck.own items fq [vq] (takeQ p.f_Queue r).2.1)
        obtain ⟨fz, H⟩ := ownPost (⟨(takeQ p.f_Queue r).2.1, p.f_Time, p.f_Book ++ lineBytes (takeLine r), p.f_Sure⟩ : MPost) H h1 h3
        rw [fetch_done hok hro htk hf]
        exact ⟨_, _, rfl, res_cell H st26, _, _, rfl, res_cell H st32, _, _, _, _, rfl, H.two .here .here⟩

section
variable {P : Program} {w : World} {K : Value → World → Prop} {tg : Tg K}
theorem x_minB {ts : Array TypeId} {ty : TypeId} {a b : Int} (h : K (.int .i64 (min a b)) w) : Builtin' P K tg .min ts ty [.int .i64 a, .int .i64 b] w := by
  show vS P (Builtin.min_ ts ty #[.int .i64 a, .int .i64 b]) w K
  refine vS_run (v := .int .i64 (min a b)) ?_ h
  by_cases hab : b < a
  · have : ¬ (a ≤ b) := by omega
    simp [Builtin.min_, Builtin.min2, Int.min_def, hab, this]
  · have : a ≤ b := by omega
    simp [Builtin.min_, Builtin.min2, Int.min_def, hab, this]
theorem x_maxB {ts : Array TypeId} {ty : TypeId} {a b : Int} (h : K (.int .i64 (max a b)) w) : Builtin' P K tg .max ts ty [.int .i64 a, .int .i64 b] w := by
  show vS P (Builtin.max_ ts ty #[.int .i64 a, .int .i64 b]) w K
  refine vS_run (v := .int .i64 (max a b)) ?_ h
  by_cases hab : a < b
  · have : a ≤ b := by omega
    simp [Builtin.max_, Builtin.max2, Int.max_def, hab, this]
  · by_cases he : a = b
    · subst he; simp [Builtin.max_, Builtin.max2, Int.max_def]
    · have : ¬ (a ≤ b) := by omega
      simp [Builtin.max_, Builtin.max2, Int.max_def, hab, this]
end
/-- How much of a book is left. -/
def kkB (s L keep : Int) : Nat := (s + max 0 (min keep (L - s))).toNat
theorem kkB_le {s : Int} {n : Nat} {keep : Int} (h : 0 ≤ s ∧ s ≤ (n : Int)) : kkB s (n : Int) keep ≤ n := by unfold kkB; omega
theorem fall_d {s L : Int} (h : 0 ≤ s ∧ s ≤ L) (hL : L ≤ 12000) : w64 (L - s) = L - s := by unfold w64; omega
theorem fall_1 {s L keep : Int} (h : 0 ≤ s ∧ s ≤ L) (hL : L ≤ 12000) : w64 (s + max 0 (min keep (L - s))) = (kkB s L keep : Int) := by unfold w64 kkB; omega
theorem fall_2 {s L keep : Int} (h : 0 ≤ s ∧ s ≤ L) (hL : L ≤ 12000) : w64 (s + min (max keep 0) (L - s)) = (kkB s L keep : Int) := by unfold w64 kkB; omega
theorem fall_bad {p : MPost} {keep : Int} (h : postOk p = false) : fallP p keep = p := by unfold fallP; rw [if_neg (by rw [h]; decide)]
theorem fall_ok {p : MPost} {keep : Int} (h : postOk p = true) : fallP p keep = ⟨(play (p.f_Book.take (kkB p.f_Sure p.f_Book.length keep))).1, (play (p.f_Book.take (kkB p.f_Sure p.f_Book.length keep))).2.1, (p.f_Book.take (kkB p.f_Sure p.f_Book.length keep)).take (play (p.f_Book.take (kkB p.f_Sure p.f_Book.length keep))).2.2, ((play (p.f_Book.take (kkB p.f_Sure p.f_Book.length keep))).2.2 : Int)⟩ := by unfold fallP; rw [if_pos h]; rfl
theorem playGo_fits (m : Nat) : ∀ (x : List UInt8) (q : List MItem) (now : Int) (k : Nat), x.length ≤ m → QI q → (0 ≤ now ∧ now ≤ 100000) →
    QI (playGo x q now k).1 ∧ (0 ≤ (playGo x q now k).2.1 ∧ (playGo x q now k).2.1 ≤ 100000) ∧ (playGo x q now k).2.2 ≤ k + x.length := by
  induction m with
  | zero =>
    intro x q now k hx hq hn
    have e : lineAt x = none := by
      cases h : lineAt x with
      | none => rfl
      | some y => obtain ⟨l, n⟩ := y; have := lineAt_len h; omega
    rw [playGo_none e]
    exact ⟨hq, hn, Nat.le_add_right _ _⟩
  | succ m ih =>
    intro x q now k hx hq hn
    cases h : lineAt x with
    | none => rw [playGo_none h]; exact ⟨hq, hn, Nat.le_add_right _ _⟩
    | some y =>
      obtain ⟨l, n⟩ := y
      obtain ⟨h18, hnl, hok, _⟩ := lineAt_len h
      rw [playGo_some h]
      have := ih (x.drop n) (lineStep q now l).1 (lineStep q now l).2 (k + n) (by rw [List.length_drop]; omega) (QI_step hq) (now_step hok hn)
      refine ⟨this.1, this.2.1, ?_⟩
      have h3 := this.2.2
      rw [List.length_drop] at h3; omega
theorem play_fits (x : List UInt8) : QI (play x).1 ∧ (0 ≤ (play x).2.1 ∧ (play x).2.1 ≤ 100000) ∧ (play x).2.2 ≤ x.length := by
  have := playGo_fits x.length x [] 0 0 (Nat.le_refl _) QI_nil (by decide)
  unfold play; simpa using this
theorem fallP_sm {p : MPost} {keep : Int} (hs : smPost p) : smPost (fallP p keep) := by
  cases h : postOk p with
  | false => rw [fall_bad h]; exact hs
  | true =>
    rw [fall_ok h]
    refine ⟨(play_fits _).1.sm, ?_⟩
    have := (postOk_iff.1 h).1.2.2.1
    show ((p.f_Book.take _).take _).length ≤ 1048576
    rw [List.length_take, List.length_take]; omega
theorem implFallTo_ok (w : World) (cs : List Value) (p : MPost) (keep : Int) (h : kPost.rd w w.heap.size cs p) (hs : smPost p) :
    ACalls Tryz.prog 37 #[.agg cs.toArray, .int .i64 keep] w fun r w' => ∃ cs' fp, r = .agg cs'.toArray ∧ Sep w.heap.size w w' [Ck.own kPost fp cs' (fallP p keep)] := by
  have hs' := hs
  unfold smPost at hs'
  have h9 := h
  obtain ⟨v0, v2, rfl, h0, h1, h2, h3⟩ := kPost_open h
  obtain ⟨A2, c2, rfl, _⟩ := sl_open h2
  have H := Sep.start w
  refine body_of follows Tryz.func37 rfl rfl _ rfl (by kernel_rfl) (vs ?_)
  refine x_bx H [v0, .int .i64 p.f_Time, .slice A2 p.f_Book.length c2, .int .i64 p.f_Sure] fun g1 w1 H => vs ?_
  refine x_al H st26 fun g2 w2 H => vs ?_
  refine x_lda H st26 ?_
  refine vs ?_
  refine x_callb H (implPostOk_ok _ _ p (H.rd h9) hs) fun w6 H => ?_
  cases hok : postOk p with
  | false =>
    refine vs ?_
    refine x_lda H st26 ?_
    refine vs ?_
    refine x_call (clonePost_ok _ _ p (H.rd h9) hs) fun _ w3 R => ?_
    unfold PostR at R
    obtain ⟨pa0, pf0, pa2, pf2, rfl, S⟩ := R
    have H := H.join S
    simp only [List.cons_append, List.nil_append] at H
    have po0 := one1 (fp := pf0) (x := p.f_Queue) H (.head _)
    obtain ⟨pB, pd, rfl, _⟩ := sl_open (H.own (fp := pf2) (x := p.f_Book) (.tail _ (.head _)))
    refine vs ?_
    refine x_sta H st26 (vs := [pa0, .int .i64 p.f_Time, .slice pB p.f_Book.length pd, .int .i64 p.f_Sure]) (h1 := one4 po0 rfl) fun wz H => vs ?_
    have H := H.front (c := Ck.own (bytes 5) pf2 [.slice pB p.f_Book.length pd] p.f_Book)
    have H := H.front (c := Ck.own items pf0 [pa0] p.f_Queue)
    obtain ⟨fz, H⟩ := ownPost p H h1 h3
    rw [fall_bad hok]
    exact ⟨_, _, rfl, res_cell H st26, _, _, rfl, H.head⟩
  | true =>
    have hS := (postOk_iff.1 hok).1.2.2.2
    have hL := (postOk_iff.1 hok).1.2.2.1
    have hkk : (kkB p.f_Sure p.f_Book.length keep) ≤ p.f_Book.length := kkB_le hS
    obtain ⟨pq, pn, pm⟩ := play_fits (p.f_Book.take (kkB p.f_Sure p.f_Book.length keep))
    have hpl : (p.f_Book.take (kkB p.f_Sure p.f_Book.length keep)).length ≤ 12000 := by rw [List.length_take]; omega
    refine vs ?_
    refine x_ld H sc22 ?_
    refine vs ?_
    refine x_ld H sc3 ?_
    refine vs ?_
    refine x_ld H sc22 ?_
    refine vs ?_
    refine x_ld H sc3 ?_
    refine ve (fall_d hS (by omega)) ?_
    refine x_minB ?_
    refine vs ?_
    refine x_maxB ?_
    refine ve (fall_1 (keep := keep) hS (by omega)) ?_
    refine x_toN sl22 rfl (kkB p.f_Sure p.f_Book.length keep) h2 rfl hkk fun v4 hv4 => vs ?_
    refine x_call (implPlay_ok _ v4 _ (H.rd hv4) (by omega)) fun _ w7 ⟨vq, fq, e, S⟩ => ?_
    subst e
    have H := H.join S
    simp only [List.cons_append, List.nil_append] at H
    refine vs ?_
    refine x_toN sl22 rfl (play (p.f_Book.take (kkB p.f_Sure p.f_Book.length keep))).2.2 hv4 rfl pm fun v8 hv8 => vs ?_
    refine x_callf H (cloneBy_ok _ v8 _ (H.rd hv8) (by rw [List.length_take]; omega)) fun r9 f9 w9 H => vs ?_
    obtain ⟨Aq, cq, rfl, _⟩ := sl_open (H.own (fp := fq) (x := (play (p.f_Book.take (kkB p.f_Sure p.f_Book.length keep))).1) (by repeat (first | exact List.mem_cons_self | apply List.mem_cons_of_mem)))
    obtain ⟨Ab, cb, rfl, _⟩ := sl_open (H.own (fp := f9) (x := (p.f_Book.take (kkB p.f_Sure p.f_Book.length keep)).take (play (p.f_Book.take (kkB p.f_Sure p.f_Book.length keep))).2.2) (by repeat (first | exact List.mem_cons_self | apply List.mem_cons_of_mem)))
    refine x_build bl26 [.slice Aq (play (p.f_Book.take (kkB p.f_Sure p.f_Book.length keep))).1.length cq, .int .i64 (play (p.f_Book.take (kkB p.f_Sure p.f_Book.length keep))).2.1, .slice Ab ((p.f_Book.take (kkB p.f_Sure p.f_Book.length keep)).take (play (p.f_Book.take (kkB p.f_Sure p.f_Book.length keep))).2.2).length cb, .int .i64 ((play (p.f_Book.take (kkB p.f_Sure p.f_Book.length keep))).2.2 : Int)] ?_
    refine vs ?_
    refine x_sta H st26 (vs := [.slice Aq (play (p.f_Book.take (kkB p.f_Sure p.f_Book.length keep))).1.length cq, .int .i64 (play (p.f_Book.take (kkB p.f_Sure p.f_Book.length keep))).2.1, .slice Ab ((p.f_Book.take (kkB p.f_Sure p.f_Book.length keep)).take (play (p.f_Book.take (kkB p.f_Sure p.f_Book.length keep))).2.2).length cb, .int .i64 ((play (p.f_Book.take (kkB p.f_Sure p.f_Book.length keep))).2.2 : Int)]) (h1 := one4 rfl rfl) fun wz H => vs ?_
    have H := H.front (c := Ck.own (bytes 5) f9 [.slice Ab ((p.f_Book.take (kkB p.f_Sure p.f_Book.length keep)).take (play (p.f_Book.take (kkB p.f_Sure p.f_Book.length keep))).2.2).length cb] ((p.f_Book.take (kkB p.f_Sure p.f_Book.length keep)).take (play (p.f_Book.take (kkB p.f_Sure p.f_Book.length keep))).2.2))
    have H := H.front (c := Ck.own items fq [.slice Aq (play (p.f_Book.take (kkB p.f_Sure p.f_Book.length keep))).1.length cq] (play (p.f_Book.take (kkB p.f_Sure p.f_Book.length keep))).1)
    obtain ⟨fz, H⟩ := ownPost (⟨(play (p.f_Book.take (kkB p.f_Sure p.f_Book.length keep))).1, (play (p.f_Book.take (kkB p.f_Sure p.f_Book.length keep))).2.1, (p.f_Book.take (kkB p.f_Sure p.f_Book.length keep)).take (play (p.f_Book.take (kkB p.f_Sure p.f_Book.length keep))).2.2, ((play (p.f_Book.take (kkB p.f_Sure p.f_Book.length keep))).2.2 : Int)⟩ : MPost) H (by dsimp only; omega) (by dsimp only; omega)
    rw [fall_ok hok]
    exact ⟨_, _, rfl, res_cell H st26, _, _, rfl, H.head⟩
end Go.Proofs.YtdljbekkckfmnaaGreat.V
