/- Books played: both sides. -/
import Derived.Test.YtdljbekkckfmnaaGreatWqm
import Derived.Test.YtdljbekkckfmnaaGreatWqn
namespace Go.Proofs.YtdljbekkckfmnaaGreat.V
open Go Go.RowKit
set_option maxRecDepth 100000
set_option maxHeartbeats 4000000
set_option linter.unusedSimpArgs false
set_option linter.unusedVariables false
set_option pp.deepTerms false
set_option pp.deepTerms.threshold 3

/-- A queue as a book leaves it. -/
def QI (q : List MItem) : Prop := q.length ≤ 10 ∧ ∀ x ∈ q, itemOk x = true
theorem itemOk_sm {x : MItem} (h : itemOk x = true) : smItem x := by
  have h2 := itemOk_iff.1 h
  have h3 : x.f_Route.length = 16 := by
    have := h2.1
    unfold isRoute at this
    simp only [Bool.and_eq_true, decide_eq_true_eq] at this
    exact this.2
  exact ⟨by omega, by have := h2.2.2.2; omega⟩
theorem QI.sm {q : List MItem} (h : QI q) : smItemS q := ⟨by have := h.1; omega, fun y hy => itemOk_sm (h.2 y hy)⟩
theorem QI_nil : QI [] := ⟨by simp, fun x hx => by simp at hx⟩
theorem QI_put {q : List MItem} {x : MItem} (h : QI q) : QI (put q x).1 := by
  unfold put
  split
  · rename_i hq
    exact ⟨(queueOk_iff.1 hq).1, queueOk_item hq⟩
  · exact h
theorem QI_take {q : List MItem} {r : List UInt8} (h : QI q) : QI (takeQ q r).2.1 := by
  unfold takeQ
  split
  · exact ⟨Nat.le_trans (List.length_eraseIdx_le ..) h.1, fun x hx => h.2 x (List.mem_of_mem_eraseIdx hx)⟩
  · exact h
theorem QI_due {q : List MItem} {n : Int} (h : QI q) : QI (due q n) :=
  ⟨Nat.le_trans (List.length_filter_le ..) h.1, fun x hx => h.2 x (List.mem_filter.1 hx).1⟩
theorem QI_step {q : List MItem} {n : Int} {l : MLine} (h : QI q) : QI (lineStep q n l).1 := by
  unfold lineStep
  split
  · exact QI_put h
  · split
    · exact QI_take h
    · split
      · split
        · exact QI_due h
        · exact h
      · exact h
theorem now_step {q : List MItem} {n : Int} {l : MLine} (hl : lineOk l = true) (h : 0 ≤ n ∧ n ≤ 100000) : 0 ≤ (lineStep q n l).2 ∧ (lineStep q n l).2 ≤ 100000 := by
  unfold lineStep
  split
  · exact h
  · split
    · exact h
    · split
      · split
        · exact lineOk_due hl
        · exact h
      · exact h
theorem lineOk_route {l : MLine} (h : lineOk l = true) : l.f_Route.length ≤ 16 := by
  have key : ∀ s, isRoute s = true → s.length = 16 := fun s hs => by
    unfold isRoute at hs
    simp only [Bool.and_eq_true, decide_eq_true_eq] at hs
    exact hs.2
  rcases lineOk_kind h with k | k | k
  · rw [lineOk_1 k] at h
    have := key _ (itemOk_iff.1 h).1
    have e : (itemOf l).f_Route = l.f_Route := rfl
    rw [e] at this; omega
  · rw [lineOk_2 k] at h
    simp only [Bool.and_eq_true] at h
    have := key _ h.1.1.1; omega
  · rw [lineOk_3 k] at h
    simp only [Bool.and_eq_true, decide_eq_true_eq] at h
    rw [h.1.1.2]; simp
theorem step_1 {q : List MItem} {n : Int} {l : MLine} (k : l.f_Kind = 1) : lineStep q n l = ((put q (itemOf l)).1, n) := by unfold lineStep; rw [if_pos k]
theorem step_2 {q : List MItem} {n : Int} {l : MLine} (k : l.f_Kind = 2) : lineStep q n l = ((takeQ q l.f_Route).2.1, n) := by unfold lineStep; rw [if_neg (by omega), if_pos k]
theorem step_3 {q : List MItem} {n : Int} {l : MLine} (k : l.f_Kind = 3) (h : n ≤ l.f_Due) : lineStep q n l = (due q l.f_Due, l.f_Due) := by unfold lineStep; rw [if_neg (by omega), if_neg (by omega), if_pos k, if_pos h]
theorem step_3n {q : List MItem} {n : Int} {l : MLine} (k : l.f_Kind = 3) (h : ¬ n ≤ l.f_Due) : lineStep q n l = (q, n) := by unfold lineStep; rw [if_neg (by omega), if_neg (by omega), if_pos k, if_neg h]
theorem itemOf_sm {l : MLine} (h : lineOk l = true) : smItem (itemOf l) := ⟨by have := lineOk_route h; show l.f_Route.length ≤ _; omega, by have := lineOk_bytes h; show l.f_Bytes.length ≤ _; omega⟩

theorem implPlay_ok (w : World) (v : Value) (b : List UInt8) (h : (bytes 5).rd w w.heap.size [v] b) (hl : b.length ≤ 1073741824) :
    ACalls Tryz.prog 68 #[v] w fun r w' => ∃ v' fp, r = .tuple #[v', .int .i64 (play b).2.1, .int .i64 ((play b).2.2 : Int)] ∧ Sep w.heap.size w w' [Ck.own items fp [v'] (play b).1] := by
  have H := Sep.start w
  refine body_of follows Tryz.func68 rfl rfl _ rfl (by kernel_rfl) (vs ?_)
  refine x_empO (d := kItem) H sl24 fun g1 w1 H => vs ?_
  refine loop_at (σ := List MItem × Int × Nat × Value × List Nat) (fun x => [(0, v), (5, x.2.2.2.1), (6, .int .i64 x.2.1), (7, .int .i64 (x.2.2.1 : Int))])
    (fun x w' => x.2.2.1 ≤ b.length ∧ playGo (b.drop x.2.2.1) x.1 x.2.1 x.2.2.1 = play b ∧ QI x.1 ∧ (0 ≤ x.2.1 ∧ x.2.1 ≤ 100000) ∧ Sep w.heap.size w w' [Ck.own items x.2.2.2.2 [x.2.2.2.1] x.1])
    (fun x => b.length - x.2.2.1) ([], 0, 0, _, _) (vs trivial) ⟨Nat.zero_le _, rfl, QI_nil, ⟨Int.le_refl 0, by show (0 : Int) ≤ 100000; decide⟩, H⟩ ?_
  rintro ⟨q, now, k, v', fp⟩ s w2 ⟨hk, hgo, hq, hn, H⟩
  dsimp only at hk hgo hq hn H
  refine vs ?_
  refine x_call (implLineOf_ok w2 v b k (H.rd h) hk hl) fun _ w3 R => ?_
  cases hla : lineAt (b.drop k) with
  | none =>
    unfold LineR at R
    rw [lineOf_none hla] at R
    obtain ⟨cs, fl, rfl, S⟩ := R
    have H := H.join S
    simp only [List.cons_append, List.nil_append] at H
    obtain ⟨u, rfl, _⟩ := kLine_open (H.own (.head _))
    refine vs ?_
    refine x_al H st73 fun g4 w4 H => vs ?_
    refine x_sta H st73 (h1 := Kd.one _ (H.own (.tail _ (.head _)))) fun w5 H => vs ?_
    rw [← hgo, playGo_none hla]
    exact ⟨_, _, rfl, H.only⟩
  | some ln =>
    obtain ⟨l, n⟩ := ln
    obtain ⟨hn18, hnl, hok, hlb⟩ := lineAt_len hla
    rw [List.length_drop] at hnl
    unfold LineR at R
    rw [lineOf_some hk hla] at R
    obtain ⟨cs, fl, rfl, S⟩ := R
    have H := H.join S
    simp only [List.cons_append, List.nil_append] at H
    rw [playGo_some hla, List.drop_drop] at hgo
    have hqi := QI_step (n := now) (l := l) hq
    have hns := now_step (q := q) hok hn
    have hlo := H.own (.head _)
    have hone := Kd.one _ hlo
    have hkn : k + n ≤ b.length := by omega
    have hrt := lineOk_route hok
    have hby := lineOk_bytes hok
    obtain ⟨u, rfl, z0, z1, z2, z3, z4⟩ := kLine_open hlo
    refine vs ?_
    refine x_al H st73 fun g4 w4 H => vs ?_
    refine x_sta H st73 (h1 := hone) fun w5 H => vs ?_
    have H : Sep w.heap.size w w5 (Ck.box g4 [.int .i64 l.f_Kind, .string ⟨(l.f_Route).toArray⟩, .int .i64 l.f_Topic, .int .i64 l.f_Due, u] 73 :: _) := H
    have hlo := H.own (.tail _ (.head _))
    refine x_ld H sc3 ?_
    by_cases k1 : l.f_Kind = 1
    · refine ve (eq_true k1) ?_
      refine x_lda H st73 ?_
      refine vs ?_
      refine x_call (itemOf_ok w5 _ l hlo (by omega)) fun _ w6 ⟨cs6, f6, e, S⟩ => ?_
      subst e
      have H := H.join S
      simp only [List.cons_append, List.nil_append] at H
      refine vs ?_
      refine x_call (implPut_ok w6 v' q _ (itemOf l) (H.own (.tail _ (.tail _ (.tail _ (.head _))))) (H.own (.head _)) hq.sm (itemOf_sm hok) (by have := hq.1; omega)) fun _ w7 ⟨v7, f7, e, S⟩ => ?_
      subst e
      have H := H.join S
      simp only [List.cons_append, List.nil_append] at H
      refine vs ?_
      rw [step_1 k1] at hgo hqi hns
      exact ⟨((put q (itemOf l)).1, now, k + n, v7, f7), ⟨rfl, rfl, rfl⟩, ⟨hkn, hgo, hqi, hns, H.head⟩, by show b.length - (k + n) < b.length - k; omega⟩
    by_cases k2 : l.f_Kind = 2
    · refine ve (And.intro k1 (eq_true k2)) ?_
      refine x_ld H sc9 ?_
      refine vs ?_
      refine x_call (implTake_ok w5 v' q l.f_Route (H.own (.tail _ (.tail _ (.head _)))) hq.sm) fun _ w7 ⟨cs7, f1, v7, f7, e, S⟩ => ?_
      subst e
      have H := H.join S
      simp only [List.cons_append, List.nil_append] at H
      refine vs ?_
      rw [step_2 k2] at hgo hqi hns
      exact ⟨((takeQ q l.f_Route).2.1, now, k + n, v7, f7), ⟨rfl, rfl, rfl⟩, ⟨hkn, hgo, hqi, hns, H.head⟩, by show b.length - (k + n) < b.length - k; omega⟩
    have k3 : l.f_Kind = 3 := by rcases lineOk_kind hok with k | k | k <;> omega
    refine ve (And.intro k1 (And.intro k2 (eq_true k3))) ?_
    refine x_ld H sc3 ?_
    by_cases hD : now ≤ l.f_Due
    · refine ve hD ?_
      refine x_ld H sc3 ?_
      refine vs ?_
      refine x_callf H (implDue_ok w5 v' q l.f_Due (H.own (.tail _ (.tail _ (.head _)))) hq.sm) fun v7 f7 w7 H => vs ?_
      rw [step_3 k3 hD] at hgo hqi hns
      exact ⟨(due q l.f_Due, l.f_Due, k + n, v7, f7), ⟨rfl, rfl, rfl⟩, ⟨hkn, hgo, hqi, hns, H.head⟩, by show b.length - (k + n) < b.length - k; omega⟩
    · refine ve hD ?_
      rw [step_3n k3 hD] at hgo hqi hns
      exact ⟨(q, now, k + n, v', fp), ⟨rfl, rfl, rfl⟩, ⟨hkn, hgo, hqi, hns, H.only⟩, by show b.length - (k + n) < b.length - k; omega⟩

theorem l14Play_ok {n : Nat} {w0 w : World} {L : List Ck} {fp : List Nat} (v : Value) (q : List MItem) (now : Int) (cs : List Value) (l : MLine) (H : Sep n w0 w (Ck.own items fp [v] q :: L)) (h : kLine.rd w w.heap.size cs l) (hq : QI q) (hok : lineOk l = true) :
    ACalls Tryz.prog 140 #[v, .int .i64 now, .agg cs.toArray] w fun r w' => ∃ v' fp', r = .tuple #[v', .int .i64 (lineStep q now l).2] ∧ Sep n w0 w' (Ck.own items fp' [v'] (lineStep q now l).1 :: L) := by
  have hrt := lineOk_route hok
  have hby := lineOk_bytes hok
  have hone := Kd.one _ h
  have h9 := h
  obtain ⟨u, rfl, z0, z1, z2, z3, z4⟩ := kLine_open h
  have hv := H.own (.head _)
  have J := Sep.start w
  refine body_of follows Tryz.func140 rfl rfl _ rfl (by kernel_rfl) (vs ?_)
  refine x_bx J [.int .i64 l.f_Kind, .string ⟨(l.f_Route).toArray⟩, .int .i64 l.f_Topic, .int .i64 l.f_Due, u] fun g1 w1 J => vs ?_
  refine x_ld J sc3 ?_
  by_cases k1 : l.f_Kind = 1
  · refine ve (eq_true k1) ?_
    refine x_lda J st73 ?_
    refine vs ?_
    refine x_call (l14Item_ok w1 _ l (J.rd h9) (by omega)) fun _ w6 ⟨cs6, f6, e, S⟩ => ?_
    subst e
    have J := J.join S
    simp only [List.cons_append, List.nil_append] at J
    refine vs ?_
    refine x_call (specPut_ok w6 v q _ (itemOf l) (J.rd hv) (J.own (.head _)) hq.sm (itemOf_sm hok) (by have := hq.1; omega)) fun _ w7 ⟨v7, f7, e, S⟩ => ?_
    subst e
    have J := J.join S
    simp only [List.cons_append, List.nil_append] at J
    refine vs ?_
    rw [step_1 k1]
    exact ⟨_, _, rfl, (H.tail.join J.head)⟩
  by_cases k2 : l.f_Kind = 2
  · refine ve (And.intro k1 (eq_true k2)) ?_
    refine x_ld J sc9 ?_
    refine vs ?_
    refine x_call (specTake_ok w1 v q l.f_Route (J.rd hv) hq.sm) fun _ w7 ⟨cs7, f1, v7, f7, e, S⟩ => ?_
    subst e
    have J := J.join S
    simp only [List.cons_append, List.nil_append] at J
    refine vs ?_
    rw [step_2 k2]
    exact ⟨_, _, rfl, (H.tail.join J.head)⟩
  have k3 : l.f_Kind = 3 := by rcases lineOk_kind hok with k | k | k <;> omega
  refine ve (And.intro k1 (And.intro k2 (eq_true k3))) ?_
  refine x_ld J sc3 ?_
  by_cases hD : now ≤ l.f_Due
  · refine ve hD ?_
    refine draw_of [(0, true), (1, true), (2, true), (4, true), (5, true), (3, false), (6, true), (7, true)] w1.heap.size [] fun w3 hh hb3 => vs ?_
    have S := (Sep.start w1).go (hb3 _)
    have S3 := S
    refine q_ldB J S3 sc3 ?_
    refine vs ?_
    refine q_ldB J S3 sc3 ?_
    refine vs ?_
    refine x_callf S (specDue_ok w3 v q l.f_Due (S.rd (J.rd hv)) hq.sm) fun v7 f7 w7 S => vs ?_
    refine ⟨kept_base S3 S, ?_⟩
    rw [step_3 k3 hD]
    exact ⟨_, _, rfl, (H.tail.join (J.join S).head)⟩
  · refine ve hD ?_
    rw [step_3n k3 hD]
    exact ⟨_, _, rfl, H.go J.bel⟩
theorem specPlay_ok (w : World) (v : Value) (b : List UInt8) (h : (bytes 5).rd w w.heap.size [v] b) (hl : b.length ≤ 1073741824) :
    ACalls Tryz.prog 86 #[v] w fun r w' => ∃ v' fp, r = .tuple #[v', .int .i64 (play b).2.1, .int .i64 ((play b).2.2 : Int)] ∧ Sep w.heap.size w w' [Ck.own items fp [v'] (play b).1] := by
  have H := Sep.start w
  refine body_of follows Tryz.func86 rfl rfl _ rfl (by kernel_rfl) (vs ?_)
  refine x_empO (d := kItem) H sl24 fun g1 w1 H => vs ?_
  refine loop_at (σ := List MItem × Int × Nat × Value × List Nat) (fun x => [(0, v), (5, x.2.2.2.1), (6, .int .i64 x.2.1), (7, .int .i64 (x.2.2.1 : Int))])
    (fun x w' => x.2.2.1 ≤ b.length ∧ playGo (b.drop x.2.2.1) x.1 x.2.1 x.2.2.1 = play b ∧ QI x.1 ∧ (0 ≤ x.2.1 ∧ x.2.1 ≤ 100000) ∧ Sep w.heap.size w w' [Ck.own items x.2.2.2.2 [x.2.2.2.1] x.1])
    (fun x => b.length - x.2.2.1) ([], 0, 0, _, _) (vs trivial) ⟨Nat.zero_le _, rfl, QI_nil, ⟨Int.le_refl 0, by show (0 : Int) ≤ 100000; decide⟩, H⟩ ?_
  rintro ⟨q, now, k, v', fp⟩ s w2 ⟨hk, hgo, hq, hn, H⟩
  dsimp only at hk hgo hq hn H
  refine vs ?_
  refine x_call (specLineOf_ok w2 v b k (H.rd h) hk hl) fun _ w3 R => ?_
  cases hla : lineAt (b.drop k) with
  | none =>
    unfold LineR at R
    rw [lineOf_none hla] at R
    obtain ⟨cs, fl, rfl, S⟩ := R
    have H := H.join S
    simp only [List.cons_append, List.nil_append] at H
    obtain ⟨u, rfl, _⟩ := kLine_open (H.own (.head _))
    refine vs ?_
    refine x_al H st73 fun g4 w4 H => vs ?_
    refine x_sta H st73 (h1 := Kd.one _ (H.own (.tail _ (.head _)))) fun w5 H => vs ?_
    rw [← hgo, playGo_none hla]
    exact ⟨_, _, rfl, H.only⟩
  | some ln =>
    obtain ⟨l, n⟩ := ln
    obtain ⟨hn18, hnl, hok, hlb⟩ := lineAt_len hla
    rw [List.length_drop] at hnl
    unfold LineR at R
    rw [lineOf_some hk hla] at R
    obtain ⟨cs, fl, rfl, S⟩ := R
    have H := H.join S
    simp only [List.cons_append, List.nil_append] at H
    rw [playGo_some hla, List.drop_drop] at hgo
    have hqi := QI_step (n := now) (l := l) hq
    have hns := now_step (q := q) hok hn
    have hlo := H.own (.head _)
    have hone := Kd.one _ hlo
    have hkn : k + n ≤ b.length := by omega
    obtain ⟨u, rfl, z0, z1, z2, z3, z4⟩ := kLine_open hlo
    refine vs ?_
    refine x_al H st73 fun g4 w4 H => vs ?_
    refine x_sta H st73 (h1 := hone) fun w5 H => vs ?_
    have H : Sep w.heap.size w w5 (Ck.box g4 [.int .i64 l.f_Kind, .string ⟨(l.f_Route).toArray⟩, .int .i64 l.f_Topic, .int .i64 l.f_Due, u] 73 :: _) := H
    have hlo := H.own (.tail _ (.head _))
    refine x_lda H st73 ?_
    refine vs ?_
    have H := H.front (c := Ck.own items fp [v'] q)
    refine x_call (l14Play_ok v' q now _ l H hlo hq hok) fun _ w6 ⟨v6, f6, e, H⟩ => ?_
    subst e
    refine vs ?_
    exact ⟨((lineStep q now l).1, (lineStep q now l).2, k + n, v6, f6), ⟨rfl, rfl, rfl⟩, ⟨hkn, hgo, hqi, hns, H.head⟩, by show b.length - (k + n) < b.length - k; omega⟩
end Go.Proofs.YtdljbekkckfmnaaGreat.V
