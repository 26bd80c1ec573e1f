/- Lists of lines; posts made sure of: both sides. Laid by a program. -/
import Derived.Test.YtdljbekkckfmnaaGreatWqr
namespace Go.Proofs.YtdljbekkckfmnaaGreat.V
open Go Go.RowKit
set_option maxRecDepth 100000
set_option maxHeartbeats 4000000
set_option linter.unusedSimpArgs false
set_option linter.unusedVariables false
set_option pp.deepTerms false
set_option pp.deepTerms.threshold 3

theorem linesGo_none {n : Nat} {x : List UInt8} (h : lineAt x = none) : linesGo n x = [] := by
  cases n with
  | zero => rfl
  | succ n => simp only [linesGo, h]
theorem linesGo_some {n m : Nat} {x : List UInt8} {l : MLine} (h : lineAt x = some (l, m)) (hn : 0 < n) : linesGo n x = lineBytes l :: linesGo (n - 1) (x.drop m) := by
  cases n with
  | zero => omega
  | succ n => simp only [linesGo, h, Nat.add_sub_cancel]
theorem linesGo_len : ∀ (n : Nat) (x : List UInt8), (linesGo n x).length ≤ n ∧ ∀ y ∈ linesGo n x, y.length ≤ 1578
  | 0, x => ⟨Nat.le_refl _, fun y hy => by simp [linesGo] at hy⟩
  | n + 1, x => by
    cases h : lineAt x with
    | none => rw [linesGo_none h]; exact ⟨by simp, fun y hy => by simp at hy⟩
    | some lm =>
      obtain ⟨l, m⟩ := lm
      rw [linesGo_some h (by omega)]
      have ih := linesGo_len n (x.drop m)
      refine ⟨by simp only [List.length_cons, Nat.add_sub_cancel]; omega, fun y hy => ?_⟩
      rcases List.mem_cons.1 hy with rfl | hy
      · exact lineBytes_le l
      · exact ih.2 y hy
theorem linesOf_sm (b : List UInt8) : (linesOf b).length ≤ 1048576 ∧ ∀ y ∈ linesOf b, y.length ≤ 1048576 := by
  have := linesGo_len 40 b
  exact ⟨by have := this.1; unfold linesOf; omega, fun y hy => by have := this.2 y hy; omega⟩
theorem implLinesOf_ok (w : World) (v : Value) (b : List UInt8) (h : (bytes 5).rd w w.heap.size [v] b) (hl : b.length ≤ 1048576) :
    ACalls Tryz.prog 20 #[v] w fun r w' => ∃ fp, Sep w.heap.size w w' [Ck.own (Kd.slice 22 (bytes 5)) fp [r] (linesOf b)] := by
  have H := Sep.start w
  refine body_of follows Tryz.func20 rfl rfl _ rfl (by kernel_rfl) (vs ?_)
  refine x_empO (d := bytes 5) H sl38 fun g1 w1 H => vs ?_
  refine loop_at (σ := Nat × List (List UInt8) × Value × List Nat) (fun x => [(0, v), (3, x.2.2.1), (4, .int .i64 (x.1 : Int))])
    (fun x w' => x.1 ≤ b.length ∧ x.2.1.length ≤ 40 ∧ linesOf b = x.2.1 ++ linesGo (40 - x.2.1.length) (b.drop x.1) ∧ Sep w.heap.size w w' [Ck.own (Kd.slice 22 (bytes 5)) x.2.2.2 [x.2.2.1] x.2.1])
    (fun x => b.length - x.1) (0, [], _, _) (vs trivial) ⟨Nat.zero_le _, Nat.zero_le _, rfl, H⟩ ?_
  rintro ⟨k, acc, v', fp⟩ s w2 ⟨hk, hacc, heq, H⟩
  dsimp only at hk hacc heq H
  obtain ⟨A', c', rfl, _⟩ := sl_open (H.own (.head _))
  by_cases hlt : (acc.length : Int) < 40
  rotate_left
  · refine ve hlt ?_
    have e0 : 40 - acc.length = 0 := by omega
    rw [e0] at heq
    rw [heq, show linesGo 0 (b.drop k) = [] from rfl, List.append_nil]
    exact ⟨_, H⟩
  refine ve hlt ?_
  refine x_call (implLineOf_ok w2 v b k (H.rd h) hk (by omega)) fun _ w3 R => ?_
  cases hla : lineAt (b.drop k) with
  | none =>
    unfold LineR at R
    rw [lineOf_none hla] at R
    obtain ⟨cs, fl, rfl, S⟩ := R
    have H := H.join S
    simp only [List.cons_append, List.nil_append] at H
    obtain ⟨u, rfl, _⟩ := kLine_open (H.own (.head _))
    refine vs ?_
    refine x_al H st73 fun g4 w4 H => vs ?_
    refine x_sta H st73 (h1 := Kd.one _ (H.own (.tail _ (.head _)))) fun w5 H => vs ?_
    rw [linesGo_none hla, List.append_nil] at heq
    rw [heq]
    exact ⟨_, H.only⟩
  | some ln =>
    obtain ⟨l, n⟩ := ln
    obtain ⟨hn18, hnl, hok, hlb⟩ := lineAt_len hla
    rw [List.length_drop] at hnl
    unfold LineR at R
    rw [lineOf_some hk hla] at R
    obtain ⟨cs, fl, rfl, S⟩ := R
    have H := H.join S
    simp only [List.cons_append, List.nil_append] at H
    rw [linesGo_some hla (by omega), List.drop_drop] at heq
    have hkn : k + n ≤ b.length := by omega
    have hrt := lineOk_route hok
    have hby := lineOk_bytes hok
    have hlo := H.own (.head _)
    have hone := Kd.one _ hlo
    obtain ⟨u, rfl, z0, z1, z2, z3, z4⟩ := kLine_open hlo
    refine vs ?_
    refine x_al H st73 fun g4 w4 H => vs ?_
    refine x_sta H st73 (h1 := hone) fun w5 H => vs ?_
    have H : Sep w.heap.size w w5 (Ck.box g4 [.int .i64 l.f_Kind, .string ⟨(l.f_Route).toArray⟩, .int .i64 l.f_Topic, .int .i64 l.f_Due, u] 73 :: _) := H
    refine x_lda H st73 ?_
    refine vs ?_
    refine x_callf H (implLineBytes_ok w5 _ l (H.own (.tail _ (.head _))) (by omega) (by omega)) fun r6 f6 w6 H => vs ?_
    have H := H.drop2.drop2
    refine x_lst1 sl38 H (cells_one (Kd.one _ (H.own (.head _)) _ (by simp))) rfl fun f7 v7 w7 H => vs ?_
    refine x_appO sl38 H rfl ?_ ?_ fun f8 v8 w8 H => vs ?_
    · simp only [List.length_cons, List.length_nil]; omega
    · simp only [List.length_cons, List.length_nil]; omega
    refine ⟨(k + n, acc ++ [lineBytes l], v8, f8), ⟨rfl, rfl⟩, ⟨hkn, ?_, ?_, H⟩, by show b.length - (k + n) < b.length - k; omega⟩
    · simp only [List.length_append, List.length_cons, List.length_nil]; omega
    · rw [heq, List.length_append, List.length_cons, List.length_nil, List.append_assoc, List.cons_append, List.nil_append]
      rfl
theorem specLinesOf_ok (w : World) (v : Value) (b : List UInt8) (h : (bytes 5).rd w w.heap.size [v] b) (hl : b.length ≤ 1048576) :
    ACalls Tryz.prog 54 #[v] w fun r w' => ∃ fp, Sep w.heap.size w w' [Ck.own (Kd.slice 22 (bytes 5)) fp [r] (linesOf b)] := by
  have H := Sep.start w
  refine body_of follows Tryz.func54 rfl rfl _ rfl (by kernel_rfl) (vs ?_)
  refine x_empO (d := bytes 5) H sl38 fun g1 w1 H => vs ?_
  refine loop_at (σ := Nat × List (List UInt8) × Value × List Nat) (fun x => [(0, v), (3, x.2.2.1), (4, .int .i64 (x.1 : Int))])
    (fun x w' => x.1 ≤ b.length ∧ x.2.1.length ≤ 40 ∧ linesOf b = x.2.1 ++ linesGo (40 - x.2.1.length) (b.drop x.1) ∧ Sep w.heap.size w w' [Ck.own (Kd.slice 22 (bytes 5)) x.2.2.2 [x.2.2.1] x.2.1])
    (fun x => b.length - x.1) (0, [], _, _) (vs trivial) ⟨Nat.zero_le _, Nat.zero_le _, rfl, H⟩ ?_
  rintro ⟨k, acc, v', fp⟩ s w2 ⟨hk, hacc, heq, H⟩
  dsimp only at hk hacc heq H
  obtain ⟨A', c', rfl, _⟩ := sl_open (H.own (.head _))
  by_cases hlt : (acc.length : Int) < 40
  rotate_left
  · refine ve hlt ?_
    have e0 : 40 - acc.length = 0 := by omega
    rw [e0] at heq
    rw [heq, show linesGo 0 (b.drop k) = [] from rfl, List.append_nil]
    exact ⟨_, H⟩
  refine ve hlt ?_
  refine x_call (specLineOf_ok w2 v b k (H.rd h) hk (by omega)) fun _ w3 R => ?_
  cases hla : lineAt (b.drop k) with
  | none =>
    unfold LineR at R
    rw [lineOf_none hla] at R
    obtain ⟨cs, fl, rfl, S⟩ := R
    have H := H.join S
    simp only [List.cons_append, List.nil_append] at H
    obtain ⟨u, rfl, _⟩ := kLine_open (H.own (.head _))
    refine vs ?_
    refine x_al H st73 fun g4 w4 H => vs ?_
    refine x_sta H st73 (h1 := Kd.one _ (H.own (.tail _ (.head _)))) fun w5 H => vs ?_
    rw [linesGo_none hla, List.append_nil] at heq
    rw [heq]
    exact ⟨_, H.only⟩
  | some ln =>
    obtain ⟨l, n⟩ := ln
    obtain ⟨hn18, hnl, hok, hlb⟩ := lineAt_len hla
    rw [List.length_drop] at hnl
    unfold LineR at R
    rw [lineOf_some hk hla] at R
    obtain ⟨cs, fl, rfl, S⟩ := R
    have H := H.join S
    simp only [List.cons_append, List.nil_append] at H
    rw [linesGo_some hla (by omega), List.drop_drop] at heq
    have hkn : k + n ≤ b.length := by omega
    have hrt := lineOk_route hok
    have hby := lineOk_bytes hok
    have hlo := H.own (.head _)
    have hone := Kd.one _ hlo
    obtain ⟨u, rfl, z0, z1, z2, z3, z4⟩ := kLine_open hlo
    refine vs ?_
    refine x_al H st73 fun g4 w4 H => vs ?_
    refine x_sta H st73 (h1 := hone) fun w5 H => vs ?_
    have H : Sep w.heap.size w w5 (Ck.box g4 [.int .i64 l.f_Kind, .string ⟨(l.f_Route).toArray⟩, .int .i64 l.f_Topic, .int .i64 l.f_Due, u] 73 :: _) := H
    refine x_lda H st73 ?_
    refine vs ?_
    refine x_callf H (specLineBytes_ok w5 _ l (H.own (.tail _ (.head _))) (by omega) (by omega)) fun r6 f6 w6 H => vs ?_
    have H := H.drop2.drop2
    refine x_lst1 sl38 H (cells_one (Kd.one _ (H.own (.head _)) _ (by simp))) rfl fun f7 v7 w7 H => vs ?_
    refine x_appO sl38 H rfl ?_ ?_ fun f8 v8 w8 H => vs ?_
    · simp only [List.length_cons, List.length_nil]; omega
    · simp only [List.length_cons, List.length_nil]; omega
    refine ⟨(k + n, acc ++ [lineBytes l], v8, f8), ⟨rfl, rfl⟩, ⟨hkn, ?_, ?_, H⟩, by show b.length - (k + n) < b.length - k; omega⟩
    · simp only [List.length_append, List.length_cons, List.length_nil]; omega
    · rw [heq, List.length_append, List.length_cons, List.length_nil, List.append_assoc, List.cons_append, List.nil_append]
      rfl
theorem implSync_ok (w : World) (cs : List Value) (p : MPost) (h : kPost.rd w w.heap.size cs p) (hs : smPost p) :
    ACalls Tryz.prog 30 #[.agg cs.toArray] w fun r w' => ∃ cs' fp, r = .agg cs'.toArray ∧ Sep w.heap.size w w' [Ck.own kPost fp cs' (syncP p)] := by
  have hs' := hs
  unfold smPost at hs'
  have h9 := h
  obtain ⟨v0, v2, rfl, h0, h1, h2, h3⟩ := kPost_open h
  obtain ⟨A2, c2, rfl, _⟩ := sl_open h2
  have H := Sep.start w
  refine body_of follows Tryz.func30 rfl rfl _ rfl (by kernel_rfl) (vs ?_)
  refine x_bx H [v0, .int .i64 p.f_Time, .slice A2 p.f_Book.length c2, .int .i64 p.f_Sure] fun g1 w1 H => vs ?_
  refine x_al H st26 fun g2 w2 H => vs ?_
  refine x_lda H st26 ?_
  refine vs ?_
  refine x_call (clonePost_ok w2 _ p (H.rd h9) hs) fun _ w3 R => ?_
  unfold PostR at R
  obtain ⟨a0, f0, a2, f2, rfl, S⟩ := R
  have H := H.join S
  simp only [List.cons_append, List.nil_append] at H
  have o0 := one1 (fp := f0) (x := p.f_Queue) H (.head _)
  obtain ⟨B2, d2, rfl, _⟩ := sl_open (H.own (fp := f2) (x := p.f_Book) (.tail _ (.head _)))
  refine vs ?_
  refine x_al H st26 fun g4 w4 H => vs ?_
  refine x_sta H st26 (vs := [a0, .int .i64 p.f_Time, .slice B2 p.f_Book.length d2, .int .i64 p.f_Sure]) (h1 := one4 o0 rfl) fun w5 H => vs ?_
  refine x_lda H st26 ?_
  refine vs ?_
  refine x_callb H (implPostOk_ok w5 _ p (H.rd h9) hs) fun w6 H => ?_
  cases hok : postOk p with
  | false =>
    refine vs ?_
    refine x_lda H st26 ?_
    refine vs ?_
    refine x_sta H st26 (vs := [a0, .int .i64 p.f_Time, .slice B2 p.f_Book.length d2, .int .i64 p.f_Sure]) (h1 := one4 o0 rfl) fun w7 H => vs ?_
    have H := H.front (c := Ck.own (bytes 5) f2 [.slice B2 p.f_Book.length d2] p.f_Book)
    have H := H.front (c := Ck.own items f0 [a0] p.f_Queue)
    obtain ⟨fp, H⟩ := ownPost p H h1 h3
    have e : syncP p = p := by unfold syncP; rw [if_neg (by rw [hok]; decide)]
    rw [e]
    exact ⟨_, _, rfl, res_cell H st26, _, _, rfl, H.head⟩
  | true =>
    refine vs ?_
    refine x_ld H sc22 ?_
    refine vs ?_
    refine x_st H sc3 fun w7 H => vs ?_
    refine x_lda H st26 ?_
    refine vs ?_
    refine x_sta H st26 (vs := [a0, .int .i64 p.f_Time, .slice B2 p.f_Book.length d2, .int .i64 (p.f_Book.length : Int)]) (h1 := one4 o0 rfl) fun w8 H => vs ?_
    have H := H.front (c := Ck.own (bytes 5) f2 [.slice B2 p.f_Book.length d2] p.f_Book)
    have H := H.front (c := Ck.own items f0 [a0] p.f_Queue)
    obtain ⟨fp, H⟩ := ownPost (⟨p.f_Queue, p.f_Time, p.f_Book, p.f_Book.length⟩ : MPost) H h1 (by dsimp only; omega)
    have e : syncP p = ⟨p.f_Queue, p.f_Time, p.f_Book, p.f_Book.length⟩ := by unfold syncP; rw [if_pos hok]
    rw [e]
    exact ⟨_, _, rfl, res_cell H st26, _, _, rfl, H.head⟩
theorem specSync_ok (w : World) (cs : List Value) (p : MPost) (h : kPost.rd w w.heap.size cs p) (hs : smPost p) :
    ACalls Tryz.prog 33 #[.agg cs.toArray] w fun r w' => ∃ cs' fp, r = .agg cs'.toArray ∧ Sep w.heap.size w w' [Ck.own kPost fp cs' (syncP p)] := by
  have hs' := hs
  unfold smPost at hs'
  have h9 := h
  obtain ⟨v0, v2, rfl, h0, h1, h2, h3⟩ := kPost_open h
  obtain ⟨A2, c2, rfl, _⟩ := sl_open h2
  have H := Sep.start w
  refine body_of follows Tryz.func33 rfl rfl _ rfl (by kernel_rfl) (vs ?_)
  refine x_bx H [v0, .int .i64 p.f_Time, .slice A2 p.f_Book.length c2, .int .i64 p.f_Sure] fun g1 w1 H => vs ?_
  refine x_al H st26 fun g2 w2 H => vs ?_
  refine x_lda H st26 ?_
  refine vs ?_
  refine x_call (l15Copy_ok w2 _ p (H.rd h9) hs) fun _ w3 R => ?_
  unfold PostR at R
  obtain ⟨a0, f0, a2, f2, rfl, S⟩ := R
  have H := H.join S
  simp only [List.cons_append, List.nil_append] at H
  have o0 := one1 (fp := f0) (x := p.f_Queue) H (.head _)
  obtain ⟨B2, d2, rfl, _⟩ := sl_open (H.own (fp := f2) (x := p.f_Book) (.tail _ (.head _)))
  refine vs ?_
  refine x_al H st26 fun g4 w4 H => vs ?_
  refine x_sta H st26 (vs := [a0, .int .i64 p.f_Time, .slice B2 p.f_Book.length d2, .int .i64 p.f_Sure]) (h1 := one4 o0 rfl) fun w5 H => vs ?_
  refine x_lda H st26 ?_
  refine vs ?_
  refine x_callb H (specPostOk_ok w5 _ p (H.rd h9) hs) fun w6 H => ?_
  cases hok : postOk p with
  | false =>
    refine vs ?_
    refine x_lda H st26 ?_
    refine vs ?_
    refine x_sta H st26 (vs := [a0, .int .i64 p.f_Time, .slice B2 p.f_Book.length d2, .int .i64 p.f_Sure]) (h1 := one4 o0 rfl) fun w7 H => vs ?_
    have H := H.front (c := Ck.own (bytes 5) f2 [.slice B2 p.f_Book.length d2] p.f_Book)
    have H := H.front (c := Ck.own items f0 [a0] p.f_Queue)
    obtain ⟨fp, H⟩ := ownPost p H h1 h3
    have e : syncP p = p := by unfold syncP; rw [if_neg (by rw [hok]; decide)]
    rw [e]
    exact ⟨_, _, rfl, res_cell H st26, _, _, rfl, H.head⟩
  | true =>
    refine vs ?_
    refine x_ld H sc22 ?_
    refine vs ?_
    refine x_st H sc3 fun w7 H => vs ?_
    refine x_lda H st26 ?_
    refine vs ?_
    refine x_sta H st26 (vs := [a0, .int .i64 p.f_Time, .slice B2 p.f_Book.length d2, .int .i64 (p.f_Book.length : Int)]) (h1 := one4 o0 rfl) fun w8 H => vs ?_
    have H := H.front (c := Ck.own (bytes 5) f2 [.slice B2 p.f_Book.length d2] p.f_Book)
    have H := H.front (c := Ck.own items f0 [a0] p.f_Queue)
    obtain ⟨fp, H⟩ := ownPost (⟨p.f_Queue, p.f_Time, p.f_Book, p.f_Book.length⟩ : MPost) H h1 (by dsimp only; omega)
    have e : syncP p = ⟨p.f_Queue, p.f_Time, p.f_Book, p.f_Book.length⟩ := by unfold syncP; rw [if_pos hok]
    rw [e]
    exact ⟨_, _, rfl, res_cell H st26, _, _, rfl, H.head⟩
theorem syncP_tot {p : MPost} (hs : smPost p) : smPost (syncP p) := by
  unfold syncP
  split
  · exact hs
  · exact hs
end Go.Proofs.YtdljbekkckfmnaaGreat.V
