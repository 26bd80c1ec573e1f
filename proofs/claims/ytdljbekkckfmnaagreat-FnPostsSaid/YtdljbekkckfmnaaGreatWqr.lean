/- Posts judged and copied, lines noted: both sides. -/
import Derived.Test.YtdljbekkckfmnaaGreatWqp
namespace Go.Proofs.YtdljbekkckfmnaaGreat.V
open Go Go.RowKit
set_option maxRecDepth 100000
set_option maxHeartbeats 4000000
set_option linter.unusedSimpArgs false
set_option linter.unusedVariables false
set_option pp.deepTerms false
set_option pp.deepTerms.threshold 3

theorem specQueues_ok (w : World) (v v' : Value) (a b : List MItem) (h : items.rd w w.heap.size [v] a) (h' : items.rd w w.heap.size [v'] b) :
    ACalls Tryz.prog 87 #[v, v'] w fun r w' => r = .bool (sameQ a b) ∧ Below w.heap.size w w' := by
  have hla := sl_len h
  have hlb := sl_len h'
  obtain ⟨A, c, rfl, hc1, hc2, ha⟩ := sl_open h
  obtain ⟨B, c', rfl, hc1', hc2', hb⟩ := sl_open h'
  refine body_of follows Tryz.func87 rfl rfl _ rfl (by kernel_rfl) (vs ?_)
  refine loop_at (σ := Nat) (fun k => [(0, .slice A a.length c), (1, .slice B b.length c'), (5, .int .i64 (k : Int))])
    (fun k w' => k ≤ a.length ∧ k ≤ b.length ∧ (∀ i (h1 : i < a.length) (h2 : i < b.length), i < k → sameI a[i] b[i] = true) ∧ Sep w.heap.size w w' []) (fun k => a.length - k) 0 (vs trivial) ⟨Nat.zero_le _, Nat.zero_le _, fun i h1 h2 h => absurd h (Nat.not_lt_zero i), Sep.start w⟩ ?_
  rintro k s w2 ⟨hk, hkb, hall, H⟩
  have fin : ¬ (k < a.length ∧ k < b.length) → sameQ a b = decide ((a.length : Int) = (b.length : Int)) := fun hn => by
    by_cases hl : a.length = b.length
    · rw [sameQ_good hl fun i h1 h2 => hall i h1 h2 (by omega), decide_eq_true (by omega)]
    · rw [sameQ_len hl, decide_eq_false (by omega)]
  by_cases h1 : (k : Int) < (a.length : Int)
  rotate_left
  · refine ve h1 ?_
    rw [fin (by omega)]
    first | exact ⟨rfl, H.bel⟩ | exact H.bel
  by_cases h2 : (k : Int) < (b.length : Int)
  rotate_left
  · refine ve (And.intro h1 h2) ?_
    rw [fin (by omega)]
    first | exact ⟨rfl, H.bel⟩ | exact H.bel
  refine ve (And.intro h1 h2) ?_
  have hka : k < a.length := by omega
  have hkb2 : k < b.length := by omega
  clear h1 h2 fin
  refine draw_of [(0, true), (1, true), (2, true), (3, true), (4, true), (5, true), (6, true), (7, true), (8, true), (9, true), (10, true), (11, true), (12, true), (13, true), (14, true), (15, true), (16, true), (17, true), (18, true), (19, true), (20, true), (21, true), (22, true), (23, true), (24, true), (25, true), (26, true), (27, true), (28, true), (29, true), (30, true), (31, true), (32, true), (33, true), (34, true), (35, true), (36, true), (37, true), (38, true), (39, true), (40, true), (41, true), (42, true), (43, true), (44, true), (45, true), (46, true), (47, true), (48, false), (49, true), (50, true)] w.heap.size [] fun w3 hh hb3 => vs ?_
  have H := H.go (hb3 _)
  have H3 := H
  refine q_ele H sl24 rfl k hka ha rfl fun ad es hb1 hr hc => vs ?_
  obtain ⟨u1, rfl, _, _, _, _⟩ := kItem_open hr
  refine q_lf0 sc9 hc (by decide) hb1 rfl ?_
  refine vs ?_
  refine q_ele H sl24 rfl k hkb2 hb rfl fun ad es hb1 hr hc => vs ?_
  obtain ⟨u2, rfl, _, _, _, _⟩ := kItem_open hr
  refine q_lf0 sc9 hc (by decide) hb1 rfl ?_
  by_cases hR : a[k].f_Route = b[k].f_Route
  rotate_left
  · refine ve hR ?_
    rw [sameQ_bad hka hkb2 (by unfold sameI; rw [decide_eq_false hR]; rfl)]
    first | exact ⟨kept_base H3 H, rfl, H.bel⟩ | exact ⟨rfl, H.bel⟩ | exact H.bel
  have eR : (a[k].f_Route = b[k].f_Route) = True := eq_true hR
  refine ve eR ?_
  refine q_ele H sl24 rfl k hka ha rfl fun ad es hb1 hr hc => ve eR ?_
  obtain ⟨u1, rfl, _, _, _, _⟩ := kItem_open hr
  refine q_lfj (j := 1) sc3 hc (by decide) hb1 rfl ?_
  refine ve eR ?_
  refine q_ele H sl24 rfl k hkb2 hb rfl fun ad es hb1 hr hc => ve eR ?_
  obtain ⟨u2, rfl, _, _, _, _⟩ := kItem_open hr
  refine q_lfj (j := 1) sc3 hc (by decide) hb1 rfl ?_
  by_cases hT : a[k].f_Topic = b[k].f_Topic
  rotate_left
  · refine ve (And.intro eR hT) ?_
    rw [sameQ_bad hka hkb2 (by unfold sameI; rw [decide_eq_false hT]; simp)]
    first | exact ⟨kept_base H3 H, rfl, H.bel⟩ | exact ⟨rfl, H.bel⟩ | exact H.bel
  have eT : (a[k].f_Topic = b[k].f_Topic) = True := eq_true hT
  refine ve (And.intro eR eT) ?_
  refine q_ele H sl24 rfl k hka ha rfl fun ad es hb1 hr hc => ve (And.intro eR eT) ?_
  obtain ⟨u1, rfl, _, _, _, _⟩ := kItem_open hr
  refine q_lfj (j := 2) sc3 hc (by decide) hb1 rfl ?_
  refine ve (And.intro eR eT) ?_
  refine q_ele H sl24 rfl k hkb2 hb rfl fun ad es hb1 hr hc => ve (And.intro eR eT) ?_
  obtain ⟨u2, rfl, _, _, _, _⟩ := kItem_open hr
  refine q_lfj (j := 2) sc3 hc (by decide) hb1 rfl ?_
  by_cases hD : a[k].f_Due = b[k].f_Due
  rotate_left
  · refine ve (And.intro eR (And.intro eT hD)) ?_
    rw [sameQ_bad hka hkb2 (by unfold sameI; rw [decide_eq_false hD]; simp)]
    first | exact ⟨kept_base H3 H, rfl, H.bel⟩ | exact ⟨rfl, H.bel⟩ | exact H.bel
  have eD : (a[k].f_Due = b[k].f_Due) = True := eq_true hD
  refine ve (And.intro eR (And.intro eT eD)) ?_
  refine q_ele H sl24 rfl k hka ha rfl fun ad es hb1 hr hc => ve (And.intro eR (And.intro eT eD)) ?_
  obtain ⟨u1, rfl, _, _, _, hx1⟩ := kItem_open hr
  refine q_lfj (j := 3) sc22 hc (by decide) hb1 rfl ?_
  refine ve (And.intro eR (And.intro eT eD)) ?_
  refine q_ele H sl24 rfl k hkb2 hb rfl fun ad es hb1 hr hc => ve (And.intro eR (And.intro eT eD)) ?_
  obtain ⟨u2, rfl, _, _, _, hx2⟩ := kItem_open hr
  refine q_lfj (j := 3) sc22 hc (by decide) hb1 rfl ?_
  refine ve (And.intro eR (And.intro eT eD)) ?_
  refine x_callw (specSame_ok w3 _ _ _ _ (H.rd hx1) (H.rd hx2)) ?_
  refine ⟨kept_base H3 H, ?_⟩
  by_cases hB : a[k].f_Bytes = b[k].f_Bytes
  · refine ve (And.intro (And.intro eR (eq_true hB)) (And.intro eT eD)) ?_
    refine ⟨k + 1, i64_eq (by unfold w64; omega), ⟨hka, hkb2, fun i h1 h2 h => ?_, H⟩, by omega⟩
    by_cases h3 : i = k
    · subst h3; unfold sameI; rw [decide_eq_true hR, decide_eq_true hT, decide_eq_true hD, decide_eq_true hB]; rfl
    · exact hall i h1 h2 (by omega)
  · refine ve (And.intro (And.intro eR hB) (And.intro eT eD)) ?_
    rw [sameQ_bad hka hkb2 (by unfold sameI; rw [decide_eq_false hB]; simp)]
    first | exact ⟨kept_base H3 H, rfl, H.bel⟩ | exact ⟨rfl, H.bel⟩ | exact H.bel

/-! ### posts judged -/
theorem postOk_q {p : MPost} (h : queueOk p.f_Queue = false) : postOk p = false := by unfold postOk postFront; rw [h]; rfl
theorem postOk_f {p : MPost} (h : ¬ (queueOk p.f_Queue = true ∧ (0 ≤ p.f_Time ∧ p.f_Time ≤ 100000) ∧ p.f_Book.length ≤ 12000 ∧ (0 ≤ p.f_Sure ∧ p.f_Sure ≤ (p.f_Book.length : Int)))) : postOk p = false := by
  rw [Bool.eq_false_iff]
  intro hp
  exact h (postOk_iff.1 hp).1
theorem postOk_p {p : MPost} (h : ¬ play p.f_Book = (p.f_Queue, p.f_Time, p.f_Book.length)) : postOk p = false := by
  rw [Bool.eq_false_iff]
  intro hp
  exact h (postOk_iff.1 hp).2
theorem implPostOk_ok (w : World) (cs : List Value) (p : MPost) (h : kPost.rd w w.heap.size cs p) (hs : smPost p) :
    ACalls Tryz.prog 21 #[.agg cs.toArray] w fun r w' => r = .bool (postOk p) ∧ Below w.heap.size w w' := by
  unfold smPost at hs
  obtain ⟨v0, v2, rfl, h0, h1, h2, h3⟩ := kPost_open h
  have h2' := h2
  obtain ⟨A2, c2, rfl, _, _, _⟩ := sl_open h2
  have H := Sep.start w
  refine body_of follows Tryz.func21 rfl rfl _ rfl (by kernel_rfl) (vs ?_)
  refine x_bx H [v0, .int .i64 p.f_Time, .slice A2 p.f_Book.length c2, .int .i64 p.f_Sure] fun g1 w1 H => vs ?_
  refine x_ld H sc24 ?_
  refine vs ?_
  refine x_callb H (implQueueOk_ok w1 v0 _ (H.rd h0) hs.1) fun w2 H => ?_
  cases hq : queueOk p.f_Queue with
  | false =>
    refine vs ?_
    rw [postOk_q hq]
    first | exact ⟨rfl, H.bel⟩ | exact H.bel
  | true =>
    refine vs ?_
    refine x_ld H sc3 ?_
    refine vs ?_
    refine x_callw (in_ok w2 _ _ _) ?_
    by_cases hT : 0 ≤ p.f_Time ∧ p.f_Time ≤ 100000
    rotate_left
    · refine ve hT ?_
      rw [postOk_f fun hh => hT hh.2.1]
      first | exact ⟨rfl, H.bel⟩ | exact H.bel
    refine ve hT ?_
    refine x_ld H sc22 ?_
    by_cases hB : (12000 : Int) < (p.f_Book.length : Int)
    · refine ve (And.intro hT hB) ?_
      rw [postOk_f fun hh => by have := hh.2.2.1; omega]
      first | exact ⟨rfl, H.bel⟩ | exact H.bel
    refine ve (And.intro hT hB) ?_
    refine x_ld H sc3 ?_
    refine ve (And.intro hT hB) ?_
    refine x_ld H sc22 ?_
    refine ve (And.intro hT hB) ?_
    refine x_callw (in_ok w2 _ _ _) ?_
    by_cases hS : 0 ≤ p.f_Sure ∧ p.f_Sure ≤ (p.f_Book.length : Int)
    rotate_left
    · refine ve (And.intro hS (And.intro hT hB)) ?_
      rw [postOk_f fun hh => hS hh.2.2.2]
      first | exact ⟨rfl, H.bel⟩ | exact H.bel
    refine ve (And.intro hS (And.intro hT hB)) ?_
    refine x_ld H sc22 ?_
    refine vs ?_
    refine x_call (implPlay_ok w2 _ _ (H.rd h2') (by omega)) fun _ w3 ⟨v', fp, e, S⟩ => ?_
    subst e
    have H := H.join S
    simp only [List.cons_append, List.nil_append] at H
    refine vs ?_
    refine x_ld H sc22 ?_
    by_cases hU : ((play p.f_Book).2.2 : Int) = (p.f_Book.length : Int)
    rotate_left
    · refine ve hU ?_
      rw [postOk_p fun hh => hU (by rw [hh])]
      first | exact ⟨rfl, H.bel⟩ | exact H.bel
    have eU : (((play p.f_Book).2.2 : Int) = (p.f_Book.length : Int)) = True := eq_true hU
    refine ve eU ?_
    refine x_ld H sc3 ?_
    by_cases hN : (play p.f_Book).2.1 = p.f_Time
    rotate_left
    · refine ve (And.intro eU hN) ?_
      rw [postOk_p fun hh => hN (by rw [hh])]
      first | exact ⟨rfl, H.bel⟩ | exact H.bel
    have eN : ((play p.f_Book).2.1 = p.f_Time) = True := eq_true hN
    refine ve (And.intro eU eN) ?_
    refine x_ld H sc24 ?_
    refine ve (And.intro eU eN) ?_
    refine x_callb H (implSameItems_ok w3 _ _ _ _ (H.own (.head _)) (H.rd h0)) fun w4 H => ?_
    refine ve (And.intro eU eN) ?_
    have hf : postFront p = true := by
      unfold postFront
      rw [hq, decide_eq_true hT, decide_eq_true hS, decide_eq_true (show p.f_Book.length ≤ 12000 by omega)]; rfl
    have e9 : postOk p = sameQ (play p.f_Book).1 p.f_Queue := by
      unfold postOk
      rw [hf, decide_eq_true (show (play p.f_Book).2.2 = p.f_Book.length by omega), decide_eq_true hN]; rfl
    rw [e9]
    first | exact ⟨rfl, H.bel⟩ | exact H.bel
theorem specPostOk_ok (w : World) (cs : List Value) (p : MPost) (h : kPost.rd w w.heap.size cs p) (hs : smPost p) :
    ACalls Tryz.prog 34 #[.agg cs.toArray] w fun r w' => r = .bool (postOk p) ∧ Below w.heap.size w w' := by
  unfold smPost at hs
  obtain ⟨v0, v2, rfl, h0, h1, h2, h3⟩ := kPost_open h
  have h2' := h2
  obtain ⟨A2, c2, rfl, _, _, _⟩ := sl_open h2
  have H := Sep.start w
  refine body_of follows Tryz.func34 rfl rfl _ rfl (by kernel_rfl) (vs ?_)
  refine x_bx H [v0, .int .i64 p.f_Time, .slice A2 p.f_Book.length c2, .int .i64 p.f_Sure] fun g1 w1 H => vs ?_
  refine x_ld H sc24 ?_
  refine vs ?_
  refine x_callb H (specQueueOk_ok w1 v0 _ (H.rd h0) hs.1) fun w2 H => ?_
  cases hq : queueOk p.f_Queue with
  | false =>
    refine vs ?_
    rw [postOk_q hq]
    first | exact ⟨rfl, H.bel⟩ | exact H.bel
  | true =>
    refine vs ?_
    refine x_ld H sc3 ?_
    refine vs ?_
    refine x_callw (l1In_ok w2 _ _ _) ?_
    by_cases hT : 0 ≤ p.f_Time ∧ p.f_Time ≤ 100000
    rotate_left
    · refine ve hT ?_
      rw [postOk_f fun hh => hT hh.2.1]
      first | exact ⟨rfl, H.bel⟩ | exact H.bel
    refine ve hT ?_
    refine x_ld H sc22 ?_
    by_cases hB : (12000 : Int) < (p.f_Book.length : Int)
    · refine ve (And.intro hT hB) ?_
      rw [postOk_f fun hh => by have := hh.2.2.1; omega]
      first | exact ⟨rfl, H.bel⟩ | exact H.bel
    refine ve (And.intro hT hB) ?_
    refine x_ld H sc3 ?_
    refine ve (And.intro hT hB) ?_
    refine x_ld H sc22 ?_
    refine ve (And.intro hT hB) ?_
    refine x_callw (l1In_ok w2 _ _ _) ?_
    by_cases hS : 0 ≤ p.f_Sure ∧ p.f_Sure ≤ (p.f_Book.length : Int)
    rotate_left
    · refine ve (And.intro hS (And.intro hT hB)) ?_
      rw [postOk_f fun hh => hS hh.2.2.2]
      first | exact ⟨rfl, H.bel⟩ | exact H.bel
    refine ve (And.intro hS (And.intro hT hB)) ?_
    refine x_ld H sc22 ?_
    refine vs ?_
    refine x_call (specPlay_ok w2 _ _ (H.rd h2') (by omega)) fun _ w3 ⟨v', fp, e, S⟩ => ?_
    subst e
    have H := H.join S
    simp only [List.cons_append, List.nil_append] at H
    refine vs ?_
    refine x_ld H sc22 ?_
    by_cases hU : ((play p.f_Book).2.2 : Int) = (p.f_Book.length : Int)
    rotate_left
    · refine ve hU ?_
      rw [postOk_p fun hh => hU (by rw [hh])]
      first | exact ⟨rfl, H.bel⟩ | exact H.bel
    have eU : (((play p.f_Book).2.2 : Int) = (p.f_Book.length : Int)) = True := eq_true hU
    refine ve eU ?_
    refine x_ld H sc3 ?_
    by_cases hN : (play p.f_Book).2.1 = p.f_Time
    rotate_left
    · refine ve (And.intro eU hN) ?_
      rw [postOk_p fun hh => hN (by rw [hh])]
      first | exact ⟨rfl, H.bel⟩ | exact H.bel
    have eN : ((play p.f_Book).2.1 = p.f_Time) = True := eq_true hN
    refine ve (And.intro eU eN) ?_
    refine x_ld H sc24 ?_
    refine ve (And.intro eU eN) ?_
    refine x_callb H (specQueues_ok w3 _ _ _ _ (H.own (.head _)) (H.rd h0)) fun w4 H => ?_
    refine ve (And.intro eU eN) ?_
    have hf : postFront p = true := by
      unfold postFront
      rw [hq, decide_eq_true hT, decide_eq_true hS, decide_eq_true (show p.f_Book.length ≤ 12000 by omega)]; rfl
    have e9 : postOk p = sameQ (play p.f_Book).1 p.f_Queue := by
      unfold postOk
      rw [hf, decide_eq_true (show (play p.f_Book).2.2 = p.f_Book.length by omega), decide_eq_true hN]; rfl
    rw [e9]
    first | exact ⟨rfl, H.bel⟩ | exact H.bel
theorem postOk_len {p : MPost} (h : postOk p = true) : p.f_Queue.length ≤ 10 := (queueOk_iff.1 (postOk_iff.1 h).1.1).1
theorem one4 {a b : Value} {x y : Int} (ha : a.oneCell' = true) (hb : b.oneCell' = true) : ∀ v ∈ [a, .int .i64 x, b, .int .i64 y], v.oneCell' = true := by
  intro v hv
  simp only [List.mem_cons, List.not_mem_nil, or_false] at hv
  rcases hv with rfl | rfl | rfl | rfl
  · exact ha
  · rfl
  · exact hb
  · rfl
theorem one1 {α : Type} {d : Kd α} {n : Nat} {w0 w : World} {L : List Ck} {fp : List Nat} {v : Value} {x : α} (H : Sep n w0 w L) (h : Ck.own d fp [v] x ∈ L) : v.oneCell' = true := Kd.one _ (H.own h) v (by simp)
def PostR (w : World) (p : MPost) (r : Value) (w' : World) : Prop := ∃ v0 f0 v2 f2, r = .agg #[v0, .int .i64 p.f_Time, v2, .int .i64 p.f_Sure] ∧ Sep w.heap.size w w' [Ck.own items f0 [v0] p.f_Queue, Ck.own (bytes 5) f2 [v2] p.f_Book]
theorem clonePost_ok (w : World) (cs : List Value) (p : MPost) (h : kPost.rd w w.heap.size cs p) (hs : smPost p) :
    ACalls Tryz.prog 55 #[.agg cs.toArray] w fun r w' => PostR w p r w' := by
  unfold smPost at hs
  obtain ⟨v0, v2, rfl, h0, h1, h2, h3⟩ := kPost_open h
  have H := Sep.start w
  refine body_of follows Tryz.func55 rfl rfl _ rfl (by kernel_rfl) (vs ?_)
  refine x_bx H [v0, .int .i64 p.f_Time, v2, .int .i64 p.f_Sure] fun g1 w1 H => vs ?_
  refine x_al H st26 fun g2 w2 H => vs ?_
  refine draw_zat [(0, true), (1, true), (3, true), (4, true), (2, false), (6, true), (5, false)] 7 [7, 8, 9] [] fun w3 hh hb3 => vs ?_
  have H := H.go (hb3 _)
  have J := Sep.start w3
  refine q_ldB H J sc24 ?_
  refine vs ?_
  refine q_ldB H J sc22 ?_
  refine vs ?_
  refine x_callf J (cloneItems_ok w3 v0 _ (J.rd (H.rd h0)) hs.1) fun r0 f0 w4 J => vs ?_
  refine ⟨kept_base (Sep.start w3) J, ?_⟩
  refine x_callf J (cloneBy_ok w4 v2 _ (J.rd (H.rd h2)) (by omega)) fun r2 f2 w5 J => vs ?_
  refine ⟨kept_base (Sep.start w3) J, ?_⟩
  have H := H.join J
  simp only [List.cons_append, List.nil_append] at H
  have o0 := one1 H (.tail _ (.head _))
  have o2 := one1 H (.head _)
  refine dl_cons ⟨_, rfl, vs ?_⟩
  refine x_st H sc24 (h1 := o0) fun w6 H => ?_
  refine dl_cons ⟨_, rfl, vs ?_⟩
  refine dl_cons ⟨_, rfl, vs ?_⟩
  refine x_st H sc22 (h1 := o2) fun w7 H => ?_
  refine dl_nil (vs ?_)
  refine x_lda H st26 ?_
  refine vs ?_
  refine x_sta H st26 (vs := [r0, .int .i64 p.f_Time, r2, .int .i64 p.f_Sure]) (h1 := one4 o0 o2) fun w8 H => vs ?_
  exact ⟨_, _, rfl, res_cell H st26, _, _, _, _, rfl, H.two (.there .here) .here⟩
theorem l15Copy_ok (w : World) (cs : List Value) (p : MPost) (h : kPost.rd w w.heap.size cs p) (hs : smPost p) :
    ACalls Tryz.prog 73 #[.agg cs.toArray] w fun r w' => PostR w p r w' := by
  unfold smPost at hs
  obtain ⟨v0, v2, rfl, h0, h1, h2, h3⟩ := kPost_open h
  have H := Sep.start w
  refine body_of follows Tryz.func73 rfl rfl _ rfl (by kernel_rfl) (vs ?_)
  refine x_bx H [v0, .int .i64 p.f_Time, v2, .int .i64 p.f_Sure] fun g1 w1 H => vs ?_
  have J := Sep.start w1
  refine x_al J st26 fun g2 w2 J => vs ?_
  refine fork_draw w1.heap.size [] fun w3 hh hb3 => ?_
  have J := J.go (hb3 _)
  have J3 := J
  refine rest_pre [(0, true), (1, true), (3, true), (4, true), (6, true), (7, true), (9, true), (10, true)] 5 ?_
  refine vs ?_
  refine q_ldB H J3 sc24 ?_
  refine vs ?_
  refine q_ldB H J3 sc3 ?_
  refine vs ?_
  refine q_ldB H J3 sc22 ?_
  refine vs ?_
  refine q_ldB H J3 sc3 ?_
  refine vs ?_
  refine rest_fork 2 5 4 ?_ ?_
  · refine vs ?_
    refine x_callf J (l13Queue_ok _ v0 _ (J.rd (H.rd h0)) hs.1) fun r0 f0 wa J => vs ?_
    refine ⟨kept_base J3 J, ?_⟩
    refine rest_end [(5, false), (8, false), (11, true), (12, false)] ?_
    refine vs ?_
    refine x_emp J pl_u8 sl22 fun gb wb J => vs ?_
    refine ⟨kept_base J3 J, ?_⟩
    refine x_app J pl_u8 sl22 (J.rd (H.rd h2)) ?_ ?_ fun f2 r2 wc J => vs ?_
    · simp only [List.length_nil]; omega
    · simp only [List.length_nil]; omega
    refine ⟨kept_base J3 J, ?_⟩
    rw [List.nil_append] at J
    obtain ⟨A0, c0, rfl, _⟩ := sl_open (J.own (fp := f0) (x := p.f_Queue) (by repeat (first | exact List.mem_cons_self | apply List.mem_cons_of_mem)))
    obtain ⟨Ac, cc, rfl, _⟩ := sl_open (J.own (fp := f2) (x := p.f_Book) (by repeat (first | exact List.mem_cons_self | apply List.mem_cons_of_mem)))
    refine q_bld bl26 [_, .int .i64 p.f_Time, _, .int .i64 p.f_Sure] ?_
    refine vs ?_
    have o0 := one1 (fp := f0) (x := p.f_Queue) J (by repeat (first | exact List.mem_cons_self | apply List.mem_cons_of_mem))
    have o2 := one1 (fp := f2) (x := p.f_Book) J (by repeat (first | exact List.mem_cons_self | apply List.mem_cons_of_mem))
    refine x_sta J st26 (vs := [.slice A0 p.f_Queue.length c0, .int .i64 p.f_Time, .slice Ac p.f_Book.length cc, .int .i64 p.f_Sure]) (h1 := one4 o0 o2) fun wd J => vs ?_
    refine ⟨kept_base J3 J, ?_⟩
    have H := H.join J
    simp only [List.cons_append, List.nil_append] at H
    exact ⟨_, _, rfl, res_cell H st26, _, _, _, _, rfl, H.two (by repeat (first | exact Out.here | apply Out.there)) (by repeat (first | exact Out.here | apply Out.there))⟩
  · refine vs ?_
    refine x_emp J pl_u8 sl22 fun gb wb J => vs ?_
    refine ⟨kept_base J3 J, ?_⟩
    refine rest_end [(2, false), (8, false), (11, true), (12, false)] ?_
    refine vs ?_
    refine x_callf J (l13Queue_ok _ v0 _ (J.rd (H.rd h0)) hs.1) fun r0 f0 wa J => vs ?_
    refine ⟨kept_base J3 J, ?_⟩
    refine x_app J pl_u8 sl22 (J.rd (H.rd h2)) ?_ ?_ fun f2 r2 wc J => vs ?_
    · simp only [List.length_nil]; omega
    · simp only [List.length_nil]; omega
    refine ⟨kept_base J3 J, ?_⟩
    rw [List.nil_append] at J
    obtain ⟨A0, c0, rfl, _⟩ := sl_open (J.own (fp := f0) (x := p.f_Queue) (by repeat (first | exact List.mem_cons_self | apply List.mem_cons_of_mem)))
    obtain ⟨Ac, cc, rfl, _⟩ := sl_open (J.own (fp := f2) (x := p.f_Book) (by repeat (first | exact List.mem_cons_self | apply List.mem_cons_of_mem)))
    refine q_bld bl26 [_, .int .i64 p.f_Time, _, .int .i64 p.f_Sure] ?_
    refine vs ?_
    have o0 := one1 (fp := f0) (x := p.f_Queue) J (by repeat (first | exact List.mem_cons_self | apply List.mem_cons_of_mem))
    have o2 := one1 (fp := f2) (x := p.f_Book) J (by repeat (first | exact List.mem_cons_self | apply List.mem_cons_of_mem))
    refine x_sta J st26 (vs := [.slice A0 p.f_Queue.length c0, .int .i64 p.f_Time, .slice Ac p.f_Book.length cc, .int .i64 p.f_Sure]) (h1 := one4 o0 o2) fun wd J => vs ?_
    refine ⟨kept_base J3 J, ?_⟩
    have H := H.join J
    simp only [List.cons_append, List.nil_append] at H
    exact ⟨_, _, rfl, res_cell H st26, _, _, _, _, rfl, H.two (by repeat (first | exact Out.here | apply Out.there)) (by repeat (first | exact Out.here | apply Out.there))⟩
/-! ### a line noted -/
theorem kLine_of {w : World} {n : Nat} {v4 : Value} (x : MLine) (h0 : -9223372036854775808 ≤ x.f_Kind ∧ x.f_Kind < 9223372036854775808) (h1 : x.f_Route.length ≤ 9223372036854775807) (h2 : -9223372036854775808 ≤ x.f_Topic ∧ x.f_Topic < 9223372036854775808) (h3 : -9223372036854775808 ≤ x.f_Due ∧ x.f_Due < 9223372036854775808) (h4 : (bytes 5).rd w n [v4] x.f_Bytes) :
    kLine.rd w n [.int .i64 x.f_Kind, .string ⟨x.f_Route.toArray⟩, .int .i64 x.f_Topic, .int .i64 x.f_Due, v4] x :=
  ⟨[_], _, rfl, ⟨rfl, h0⟩, [_], _, rfl, ⟨rfl, h1⟩, [_], _, rfl, ⟨rfl, h2⟩, [_], _, rfl, ⟨rfl, h3⟩, h4⟩
theorem lo_sum {a b : Nat} (ha : a ≤ 1048576) (hb : b ≤ 1578) : w64 ((a : Int) + (b : Int)) = ((a + b : Nat) : Int) := by unfold w64; omega
theorem noted_ok {n : Nat} {w0 w : World} {L : List Ck} {f2 : List Nat} {g : Nat} {a c v2 : Value} {t : Value} {bk : List UInt8} (cs : List Value) (l : MLine) (H : Sep n w0 w (Ck.own (bytes 5) f2 [v2] bk :: Ck.box g [a, t, v2, c] 26 :: L)) (h : kLine.rd w w.heap.size cs l) (hR : l.f_Route.length ≤ 1048576) (hb : l.f_Bytes.length ≤ 1048576) (hbk : bk.length ≤ 1048576) :
    ACalls Tryz.prog 58 #[.pointer (some ⟨g, 0, none⟩), .agg cs.toArray] w fun r w' => r = .bool (decide (bk.length + (lineBytes l).length ≤ 12000)) ∧ ∃ f' v', Sep n w0 w' (Ck.own (bytes 5) f' [v'] (if bk.length + (lineBytes l).length ≤ 12000 then bk ++ lineBytes l else bk) :: Ck.box g [a, t, v', c] 26 :: L) := by
  have hone := Kd.one _ h
  have h9 := h
  obtain ⟨u, rfl, z0, z1, z2, z3, z4⟩ := kLine_open h
  obtain ⟨A2, c2, rfl, _⟩ := sl_open (H.own (.head _))
  have hll := lineBytes_le l
  have J := Sep.start w
  refine body_of follows Tryz.func58 rfl rfl _ rfl (by kernel_rfl) (vs ?_)
  refine x_bx J [.int .i64 l.f_Kind, .string ⟨(l.f_Route).toArray⟩, .int .i64 l.f_Topic, .int .i64 l.f_Due, u] fun g3 w1 J => vs ?_
  refine x_lda J st73 ?_
  refine vs ?_
  refine x_callf J (implLineBytes_ok w1 _ l (J.rd h9) (by omega) (by omega)) fun rl fl w2 J => ?_
  have H := H.join J
  simp only [List.cons_append, List.nil_append] at H
  obtain ⟨Al, cl, rfl, _⟩ := sl_open (H.own (.head _))
  refine vs ?_
  refine x_nilP ?_
  refine vs ?_
  refine x_ld H sc22 ?_
  by_cases hf : bk.length + (lineBytes l).length ≤ 12000
  · refine ve (And.intro (lo_sum hbk hll) (show ¬ (12000 : Int) < ((bk.length + (lineBytes l).length : Nat) : Int) by omega)) ?_
    refine x_nilP ?_
    refine vs ?_
    refine x_ld H sc22 ?_
    refine vs ?_
    refine x_app H pl_u8 sl22 (H.own (.head _)) ?_ ?_ fun f' v' w3 H => vs ?_
    · omega
    · omega
    have o' := one1 (fp := f') (x := bk ++ lineBytes l) H (by repeat (first | exact List.mem_cons_self | apply List.mem_cons_of_mem))
    refine x_nilP ?_
    refine vs ?_
    refine x_st H sc22 (h1 := o') fun w4 H => vs ?_
    rw [decide_eq_true hf, if_pos hf]
    exact ⟨rfl, _, _, H.tail.tail⟩
  · refine ve (And.intro (lo_sum hbk hll) (show (12000 : Int) < ((bk.length + (lineBytes l).length : Nat) : Int) by omega)) ?_
    rw [decide_eq_false hf, if_neg hf]
    exact ⟨rfl, _, _, H.tail.tail⟩
theorem l15Noted_ok {n : Nat} {w0 w : World} {L : List Ck} {f0 f2 : List Nat} {v0 v2 : Value} {q : List MItem} {bk : List UInt8} (t s : Int) (cs : List Value) (l : MLine) (H : Sep n w0 w (Ck.own items f0 [v0] q :: Ck.own (bytes 5) f2 [v2] bk :: L)) (h : kLine.rd w0 n cs l) (hR : l.f_Route.length ≤ 1048576) (hb : l.f_Bytes.length ≤ 1048576) (hbk : bk.length ≤ 1048576) :
    ACalls Tryz.prog 76 #[.agg #[v0, .int .i64 t, v2, .int .i64 s], .agg cs.toArray] w fun r w' => ∃ f' v', r = .tuple #[.agg #[v0, .int .i64 t, v', .int .i64 s], .bool (lineOk l && decide (bk.length + (lineBytes l).length ≤ 12000))] ∧ Sep n w0 w' (Ck.own items f0 [v0] q :: Ck.own (bytes 5) f' [v'] (bk ++ lineBytes l) :: L) := by
  have hone := Kd.one _ h
  have h9 := h
  obtain ⟨u, rfl, z0, z1, z2, z3, z4⟩ := kLine_open h
  have hll := lineBytes_le l
  have o0 := one1 H (.head _)
  have hfp : f2 = v2.ownBlock.toList := (pl_u8.slOw.1 (show (bytes 5).ow w f2 [v2] bk from H.ok _ (.tail _ (.head _)))).2.2
  refine body_of follows Tryz.func76 rfl rfl _ rfl (by kernel_rfl) (vs ?_)
  refine x_bx H [v0, .int .i64 t, v2, .int .i64 s] fun g2 w1 H => vs ?_
  refine x_bx H [.int .i64 l.f_Kind, .string ⟨(l.f_Route).toArray⟩, .int .i64 l.f_Topic, .int .i64 l.f_Due, u] fun g3 w2 H => vs ?_
  refine x_al H st26 fun g4 w3 H => vs ?_
  refine draw_zat [(0, true), (1, true), (2, true), (3, false), (4, false)] 5 [5, 6] (fpG f2) fun w4 hh hb4 => vs ?_
  have H := H.go (hb4 _)
  refine q_ldG H sc22 (H.apartG (.there (.there (.there (.there .here)))) (.there (.there .here))) ?_
  refine vs ?_
  refine q_ldaG H st73 (H.apartG (.there (.there (.there (.there .here)))) (.there .here)) ?_
  refine vs ?_
  have S := Sep.start w4
  refine x_callf S (specLineBytes_ok w4 _ l (H.rd h9) (by omega) (by omega)) fun rl fl w5 S => vs ?_
  refine ⟨kept_baseG (Sep.start w4) S, ?_⟩
  have H := H.join S
  simp only [List.cons_append, List.nil_append] at H
  refine x_appC H pl_u8 sl22 (H.own (.head _)) ?_ ?_ (fun f' v' w6 H hchg _ => vs ?_) (.there (.there (.there (.there (.there .here)))))
  · omega
  · omega
  refine ⟨kept_chg (kept_baseG (Sep.start w4) S) hchg (fun b hb => fpG_mem (by rw [hfp]; exact hb)) S.ns fpG_zero, ?_⟩
  have o' := one1 (fp := f') (x := bk ++ lineBytes l) H (.tail _ (.tail _ (.tail _ (.tail _ (.tail _ (.head _))))))
  refine dl_cons ⟨_, rfl, vs ?_⟩
  refine dl_cons ⟨_, rfl, vs ?_⟩
  refine x_st H sc22 (h1 := o') fun w7 H => ?_
  refine dl_nil (vs ?_)
  have H := H.tail
  have hn2 : g2 ≠ g4 := fun e => H.boxne (g := g4) (g' := g2) (h := .here) (h' := .there .here) e.symm
  have hn3 : g3 ≠ g4 := fun e => H.boxne (g := g4) (g' := g3) (h := .here) (h' := .here) e.symm
  have hol : (bk ++ lineBytes l).length = bk.length + (lineBytes l).length := List.length_append
  obtain ⟨Av, cv, rfl, _⟩ := sl_open (H.own (fp := f') (x := bk ++ lineBytes l) (.tail _ (.tail _ (.tail _ (.tail _ (.head _))))))
  refine draw_of [(0, true), (1, true), (2, false), (3, true), (4, true), (5, true), (6, true), (7, true), (8, true), (9, false), (10, true)] w7.heap.size [(g4, 0)] fun w8 hh hb8 => vs ?_
  have H := H.go (hb8 _)
  have hw8 : w8.heap.size = w7.heap.size := by rw [hh]
  have hl2 : g2 < w7.heap.size := by rw [← hw8]; exact H.lt (.tail _ (.tail _ (.head _)))
  have hl3 : g3 < w7.heap.size := by rw [← hw8]; exact H.lt (.tail _ (.head _))
  have qa : ∀ k, (g2, k) ∉ [(g4, 0)] := fun k hk => by simp only [List.mem_singleton, Prod.mk.injEq] at hk; exact hn2 hk.1
  have qb : ∀ k, (g3, k) ∉ [(g4, 0)] := fun k hk => by simp only [List.mem_singleton, Prod.mk.injEq] at hk; exact hn3 hk.1
  refine qx_loadAgg st26 [v0, .int .i64 t, .slice Av (bk ++ lineBytes l).length cv, .int .i64 s] rfl (fun j v hj => by rw [Kd.add_plain, H.cell (.tail _ (.tail _ (.head _)))]; exact hj) hl2 qa ?_
  refine vs ?_
  refine qx_loadAgg st73 [.int .i64 l.f_Kind, .string ⟨(l.f_Route).toArray⟩, .int .i64 l.f_Topic, .int .i64 l.f_Due, u] rfl (fun j v hj => by rw [Kd.add_plain, H.cell (.tail _ (.head _))]; exact hj) hl3 qb ?_
  refine vs ?_
  have T := Sep.start w8
  have c2 : w8.cell? ⟨g2, 2, none⟩ = some (.slice Av (bk ++ lineBytes l).length cv) := H.cell (.tail _ (.tail _ (.head _))) 2
  refine x_callb T (specLineOk_ok w8 _ l (H.rd h9) (by omega) (by omega)) fun w9 T => ?_
  have hk9 : Kept w7.heap.size [(g4, 0)] w8 w9 := by rw [← hw8]; exact kept_baseG (Sep.start w8) T
  have H := H.go T.bel
  refine ⟨hk9, ?_⟩
  cases hok : lineOk l with
  | false =>
    refine vs ?_
    refine x_staD H st26 (vs := [v0, .int .i64 t, .slice Av (bk ++ lineBytes l).length cv, .int .i64 s]) (fun w10 H hchg => vs ?_) (h1 := one4 o0 rfl)
    refine ⟨kept_chg hk9 hchg (fun b hb => by simp only [List.mem_singleton] at hb; subst hb; exact List.mem_singleton.2 rfl) (by rw [← hw8]; exact T.bel.size) (fun g t ht => by simp only [List.mem_singleton, Prod.mk.injEq] at ht; exact ht.2), ?_⟩
    exact ⟨_, _, rfl, res_cell H st26, _, _, rfl, H.tail.tail.tail⟩
  | true =>
    refine vs ?_
    refine qx_load sc22 (v := .slice Av (bk ++ lineBytes l).length cv) c2 hl2 qa ?_
    refine vs ?_
    refine x_staD H st26 (vs := [v0, .int .i64 t, .slice Av (bk ++ lineBytes l).length cv, .int .i64 s]) (fun w10 H hchg => vs ?_) (h1 := one4 o0 rfl)
    refine ⟨kept_chg hk9 hchg (fun b hb => by simp only [List.mem_singleton] at hb; subst hb; exact List.mem_singleton.2 rfl) (by rw [← hw8]; exact T.bel.size) (fun g t ht => by simp only [List.mem_singleton, Prod.mk.injEq] at ht; exact ht.2), ?_⟩
    rw [hol]
    have ed : decide (((bk.length + (lineBytes l).length : Nat) : Int) ≤ 12000) = decide (bk.length + (lineBytes l).length ≤ 12000) := decide_eq_decide.2 (by omega)
    rw [ed]
    exact ⟨_, _, rfl, res_cell H st26, _, _, rfl, H.tail.tail.tail⟩
end Go.Proofs.YtdljbekkckfmnaaGreat.V
