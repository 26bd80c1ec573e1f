/- Queues judged, put to, taken from, cleared of what is over: both sides. -/
import Derived.Test.YtdljbekkckfmnaaGreatWqe
import Derived.Test.YtdljbekkckfmnaaGreatWsa
namespace Go.Proofs.YtdljbekkckfmnaaGreat.V
open Go Go.RowKit
set_option maxRecDepth 100000
set_option maxHeartbeats 4000000
set_option linter.unusedSimpArgs false
set_option linter.unusedVariables false
set_option pp.deepTerms false
set_option pp.deepTerms.threshold 3

theorem implQueueOk_ok (w : World) (v : Value) (l : List MItem) (h : items.rd w w.heap.size [v] l) (hs : smItemS l) :
    ACalls Tryz.prog 67 #[v] w fun q w' => q = .bool (queueOk l) ∧ Below w.heap.size w w' := by
  have hlm := sl_len h
  have h9 := h
  obtain ⟨A, c, rfl, hc1, hc2, ha⟩ := sl_open h
  refine body_of follows Tryz.func67 rfl rfl _ rfl (by kernel_rfl) (vs (ways ?_ ?_))
  · refine vh fun hgt => ?_
    rw [queueOk_long (by omega)]
    exact ⟨rfl, Below.refl ..⟩
  refine vh fun hle => ?_
  refine loop_at (σ := Nat) (fun k => [(0, .slice A l.length c), (8, .slice A l.length c), (9, .int .i64 (l.length : Int)), (10, .int .i64 (k : Int))])
    (fun k w' => k ≤ l.length ∧ (∀ i, i < k → qAt l i = true) ∧ Sep w.heap.size w w' []) (fun k => l.length - k) 0 (vs trivial) ⟨Nat.zero_le _, fun i h => absurd h (Nat.not_lt_zero i), Sep.start w⟩ ?_
  rintro k s w2 ⟨hk, hall, H⟩
  refine vs (ways ?_ ?_)
  · refine vh fun hlt => ?_
    have hk2 : k < l.length := by omega
    have hsm := hs.2 l[k] (List.getElem_mem hk2)
    unfold smItem at hsm
    have eit := itAt_eq hk2
    refine x_ele H sl24 rfl k hk2 ha rfl fun ad es hb hr hc => vs ?_
    obtain ⟨u, rfl, q0, q1, q2, q3⟩ := kItem_open hr
    refine x_lds st32 hc rfl (vs ?_)
    refine x_al H st32 fun g5 w3 H => vs ?_
    refine x_sta (vs := [.string ⟨(l[k].f_Route).toArray⟩, .int .i64 l[k].f_Topic, .int .i64 l[k].f_Due, u]) H st32 (h1 := Kd.one _ hr) fun w4 H => vs ?_
    refine x_lda H st32 ?_
    refine vs ?_
    refine x_callb H (implItemOk_ok w4 _ l[k] (H.rd hr) (by omega)) fun w5 H => ?_
    cases hok : itemOk l[k] with
    | false =>
      refine vs ?_
      rw [queueOk_bad hk2 (by unfold qAt; rw [eit, hok]; rfl)]
      exact ⟨rfl, H.bel⟩
    | true =>
      refine vs ?_
      refine x_ld H sc9 ?_
      refine vs ?_
      refine x_callb H (implOf_ok w5 _ l l[k].f_Route (H.rd h9)) fun w6 H => ?_
      by_cases h4 : (4 : Int) < (ofN l l[k].f_Route : Int)
      · refine ve h4 ?_
        rw [queueOk_bad hk2 (by unfold qAt; rw [eit, decide_eq_false (show ¬ ofN l l[k].f_Route ≤ 4 by omega)]; simp)]
        exact ⟨rfl, H.bel⟩
      · refine ve h4 ?_
        refine x_ld H sc3 ?_
        by_cases h0 : 0 < l[k].f_Topic
        · refine ve h0 ?_
          refine x_to sl24 rfl (H.rd h9) (hi := k) (by omega) fun v' hv' => ?_
          refine ve h0 ?_
          have hg := H.lt (.head _)
          have c0 := H.cell (.head _) 0
          have c1 := H.cell (.head _) 1
          refine x_callb H (containsFuncI_ok w6 v' (l.take k) (twin l[k]) 126 #[] #[.pointer (some ⟨g5, 0, none⟩)] hv' en126 (fun w' es y hb hr' => implQueueOk1_ok w' es g5 y l[k] hr' ((hb.cell (p := ⟨g5, 0, none⟩) hg).trans c0) ((hb.cell (p := ⟨g5, 1, none⟩) hg).trans c1))) fun w7 H => ?_
          cases ht : (l.take k).any (twin l[k]) with
          | true =>
            refine ve h0 ?_
            rw [queueOk_bad hk2 (by unfold qAt; rw [eit, ht, decide_eq_true h0]; simp)]
            exact ⟨rfl, H.bel⟩
          | false =>
            refine ve h0 ?_
            refine ⟨k + 1, i64_eq (by unfold w64; omega), ⟨hk2, fun i hi => ?_, H.none⟩, by omega⟩
            by_cases h2 : i = k
            · subst h2; unfold qAt; rw [eit, hok, ht, decide_eq_true (show ofN l l[i].f_Route ≤ 4 by omega)]; simp
            · exact hall i (by omega)
        · refine ve h0 ?_
          refine ⟨k + 1, i64_eq (by unfold w64; omega), ⟨hk2, fun i hi => ?_, H.none⟩, by omega⟩
          by_cases h2 : i = k
          · subst h2; unfold qAt; rw [eit, hok, decide_eq_false h0, decide_eq_true (show ofN l l[i].f_Route ≤ 4 by omega)]; simp
          · exact hall i (by omega)
  · refine vh fun hlt => ?_
    obtain rfl : k = l.length := by omega
    rw [queueOk_iff.2 ⟨by omega, hall⟩]
    exact ⟨rfl, H.bel⟩

theorem qAt_twin {l : List MItem} {k : Nat} (hk : k < l.length) (h0 : 0 < l[k].f_Topic) {j : Nat} (hj : j < k) (ht : twin l[k] (l[j]'(by omega)) = true) : qAt l k = false := by
  have e : (l.take k).any (twin l[k]) = true := List.any_eq_true.2 ⟨l[j]'(by omega), List.mem_take_iff_getElem.2 ⟨j, by omega, rfl⟩, ht⟩
  unfold qAt
  rw [itAt_eq hk, decide_eq_true h0, e]
  simp
theorem qAt_fine {l : List MItem} {k : Nat} (hk : k < l.length) (hok : itemOk l[k] = true) (h4 : ofN l l[k].f_Route ≤ 4) (ht : ∀ j (hj : j < k), ¬ (twin l[k] (l[j]'(by omega)) = true ∧ 0 < l[k].f_Topic)) : qAt l k = true := by
  unfold qAt
  rw [itAt_eq hk, hok, decide_eq_true h4]
  by_cases h0 : 0 < l[k].f_Topic
  · have e : (l.take k).any (twin l[k]) = false := by
      rw [Bool.eq_false_iff]
      intro ha
      obtain ⟨y, hy, hp⟩ := List.any_eq_true.1 ha
      obtain ⟨j, hj, rfl⟩ := List.mem_take_iff_getElem.1 hy
      exact ht j (by omega) ⟨hp, h0⟩
    rw [e]; simp
  · rw [decide_eq_false h0]; simp
theorem specQueueOk_ok (w : World) (v : Value) (l : List MItem) (h : items.rd w w.heap.size [v] l) (hs : smItemS l) :
    ACalls Tryz.prog 85 #[v] w fun q w' => q = .bool (queueOk l) ∧ Below w.heap.size w w' := by
  have hlm := sl_len h
  have h9 := h
  obtain ⟨A, c, rfl, hc1, hc2, ha⟩ := sl_open h
  refine body_of follows Tryz.func85 rfl rfl _ rfl (by kernel_rfl) (vs ?_)
  refine loop_at (σ := Nat) (fun k => [(0, .slice A l.length c), (3, .int .i64 (k : Int))])
    (fun k w' => k ≤ l.length ∧ (∀ i, i < k → qAt l i = true) ∧ Sep w.heap.size w w' []) (fun k => l.length - k) 0 (vs trivial) ⟨Nat.zero_le _, fun i h => absurd h (Nat.not_lt_zero i), Sep.start w⟩ ?_
  rintro k s w2 ⟨hk, hall, H⟩
  refine vs (ways ?_ ?_)
  · refine vh fun hlt => ?_
    have hk2 : k < l.length := by omega
    have hsm := hs.2 l[k] (List.getElem_mem hk2)
    unfold smItem at hsm
    have eit := itAt_eq hk2
    refine x_ele H sl24 rfl k hk2 ha rfl fun ad es hb hr hc => vs ?_
    refine x_lds st32 hc (Kd.len _ hr) (vs ?_)
    refine x_callb H (specItemOk_ok w2 _ l[k] (H.rd hr) (by omega)) fun w3 H => ?_
    cases hok : itemOk l[k] with
    | false =>
      refine vs ?_
      rw [queueOk_bad hk2 (by unfold qAt; rw [eit, hok]; rfl)]
      exact ⟨rfl, H.bel⟩
    | true =>
      refine vs ?_
      refine x_ele H sl24 rfl k hk2 ha rfl fun ad2 es2 hb2 hr2 hc2 => vs ?_
      obtain ⟨u2, rfl, _, _, _, _⟩ := kItem_open hr2
      refine x_lf0 sc9 hc2 (by decide) rfl ?_
      refine vs ?_
      refine x_callb H (specOf_ok w3 _ l l[k].f_Route (H.rd h9)) fun w4 H => ?_
      by_cases h4 : (4 : Int) < (ofN l l[k].f_Route : Int)
      · refine ve h4 ?_
        rw [queueOk_bad hk2 (by unfold qAt; rw [eit, decide_eq_false (show ¬ ofN l l[k].f_Route ≤ 4 by omega)]; simp)]
        exact ⟨rfl, H.bel⟩
      · refine ve h4 ?_
        refine loop_at (σ := Nat) (fun j => [(0, .slice A l.length c), (3, .int .i64 (k : Int)), (4, .int .i64 (j : Int))])
          (fun j w' => j ≤ k ∧ (∀ i (hi : i < k), i < j → ¬ (twin l[k] (l[i]'(by omega)) = true ∧ 0 < l[k].f_Topic)) ∧ Sep w.heap.size w w' []) (fun j => k - j) 0 (vs trivial) ⟨Nat.zero_le _, fun i hi h => absurd h (Nat.not_lt_zero i), H⟩ ?_
        rintro j s w5 ⟨hj, hno, H⟩
        refine vs (ways ?_ ?_)
        · refine vh fun hlt2 => ?_
          have hj2 : j < k := by omega
          have hj3 : j < l.length := by omega
          have goon : ¬ (twin l[k] l[j] = true ∧ 0 < l[k].f_Topic) → ∀ i (hi : i < k), i < j + 1 → ¬ (twin l[k] (l[i]'(by omega)) = true ∧ 0 < l[k].f_Topic) := fun h i hi h2 => by
            by_cases h3 : i = j
            · subst h3; exact h
            · exact hno i hi (by omega)
          refine draw_of [(0, true), (1, true), (2, true), (3, true), (4, true), (5, true), (6, true), (7, true), (8, true), (9, true), (10, true), (11, true), (12, true), (13, true), (14, true), (15, true), (16, true), (17, true), (18, true), (19, true), (20, true), (21, true), (22, true), (23, true), (24, true), (25, true), (26, true), (27, true), (28, true), (29, true), (30, true), (31, true)] w.heap.size [] fun w6 hh hb6 => vs ?_
          have H := H.go (hb6 _)
          refine q_ele H sl24 rfl j hj3 ha rfl fun ad es hb hr hc => vs ?_
          obtain ⟨u1, rfl, _, _, _, _⟩ := kItem_open hr
          refine q_lf0 sc9 hc (by decide) hb rfl ?_
          refine vs ?_
          refine q_ele H sl24 rfl k hk2 ha rfl fun ad es hb hr hc => vs ?_
          obtain ⟨u2, rfl, _, _, _, _⟩ := kItem_open hr
          refine q_lf0 sc9 hc (by decide) hb rfl ?_
          by_cases hR : l[j].f_Route = l[k].f_Route
          · have eR : (l[j].f_Route = l[k].f_Route) = True := eq_true hR
            refine ve eR ?_
            refine q_ele H sl24 rfl j hj3 ha rfl fun ad es hb hr hc => ve eR ?_
            obtain ⟨u1, rfl, _, _, _, _⟩ := kItem_open hr
            refine q_lfj (j := 1) sc3 hc (by decide) hb rfl ?_
            refine ve eR ?_
            refine q_ele H sl24 rfl k hk2 ha rfl fun ad es hb hr hc => ve eR ?_
            obtain ⟨u2, rfl, _, _, _, _⟩ := kItem_open hr
            refine q_lfj (j := 1) sc3 hc (by decide) hb rfl ?_
            by_cases hT : l[j].f_Topic = l[k].f_Topic
            · have eT : (l[j].f_Topic = l[k].f_Topic) = True := eq_true hT
              have htw : twin l[k] l[j] = true := by unfold twin; rw [decide_eq_true hR, decide_eq_true hT]; rfl
              refine ve (And.intro eR eT) ?_
              refine q_ele H sl24 rfl k hk2 ha rfl fun ad es hb hr hc => ve (And.intro eR eT) ?_
              obtain ⟨u2, rfl, _, _, _, _⟩ := kItem_open hr
              refine q_lfj (j := 1) sc3 hc (by decide) hb rfl ?_
              by_cases h0 : 0 < l[k].f_Topic
              · refine ve (And.intro (And.intro eR eT) h0) ?_
                rw [queueOk_bad hk2 (qAt_twin hk2 h0 hj2 htw)]
                exact ⟨rfl, H.bel⟩
              · refine ve (And.intro (And.intro eR eT) h0) ?_
                exact ⟨j + 1, i64_eq (by unfold w64; omega), ⟨hj2, by first | exact goon fun h => h0 h.2 | exact fun _ _ _ => trivial, H⟩, by omega⟩
            · refine ve (And.intro eR hT) ?_
              exact ⟨j + 1, i64_eq (by unfold w64; omega), ⟨hj2, goon fun h => hT (by have := h.1; unfold twin at this; simp only [Bool.and_eq_true, decide_eq_true_eq] at this; exact this.2), H⟩, by omega⟩
          · refine ve hR ?_
            exact ⟨j + 1, i64_eq (by unfold w64; omega), ⟨hj2, goon fun h => hR (by have := h.1; unfold twin at this; simp only [Bool.and_eq_true, decide_eq_true_eq] at this; exact this.1), H⟩, by omega⟩
        · refine vh fun hlt2 => ?_
          refine ⟨k + 1, i64_eq (by unfold w64; omega), ⟨hk2, fun i hi => ?_, H⟩, by omega⟩
          by_cases h2 : i = k
          · subst h2; exact qAt_fine hk2 hok (by omega) fun q hq => hno q hq (by omega)
          · exact hall i (by omega)
  · refine vh fun hlt => ?_
    obtain rfl : k = l.length := by omega
    refine ⟨?_, H.bel⟩
    have : queueOk l = decide ((l.length : Int) ≤ 10) := by
      by_cases hl : l.length ≤ 10
      · rw [queueOk_iff.2 ⟨hl, hall⟩]; exact (decide_eq_true (by omega)).symm
      · rw [queueOk_long hl]; exact (decide_eq_false (by omega)).symm
    rw [this]

/-! ### put -/
theorem sm_filter {q : List MItem} {p : MItem → Bool} (hs : smItemS q) : smItemS (q.filter p) :=
  ⟨Nat.le_trans (List.length_filter_le ..) hs.1, fun y hy => hs.2 y (List.mem_filter.1 hy).1⟩
theorem sm_put {q : List MItem} {x : MItem} (hs : smItemS q) (hx : smItem x) (hl : q.length ≤ 1000000) : smItemS (putL q x) := by
  refine ⟨by have := putL_len q x; omega, fun y hy => ?_⟩
  unfold putL at hy
  rcases List.mem_append.1 hy with hy | hy
  · exact hs.2 y (List.mem_filter.1 hy).1
  · rw [List.mem_singleton] at hy; subst hy; exact hx
theorem putL_low {q : List MItem} {x : MItem} (h : ¬ 0 < x.f_Topic) : putL q x = q ++ [x] := by
  unfold putL
  rw [List.filter_eq_self.2 fun y hy => by unfold keepP; rw [decide_eq_false h]; rfl]
theorem putL_high {q : List MItem} {x : MItem} (h : 0 < x.f_Topic) : putL q x = (q.filter fun y => !twin x y) ++ [x] := by
  unfold putL
  congr 1
  refine congrArg (fun f => List.filter f q) (funext fun y => ?_)
  unfold keepP
  rw [decide_eq_true h, Bool.true_and]
theorem put_yes {q : List MItem} {x : MItem} (h : queueOk (putL q x) = true) : put q x = (putL q x, true) := by unfold put; rw [if_pos h]
theorem put_no {q : List MItem} {x : MItem} (h : queueOk (putL q x) = false) : put q x = (q, false) := by unfold put; rw [if_neg (by rw [h]; decide)]
theorem implPut_ok (w : World) (v : Value) (q : List MItem) (cs : List Value) (x : MItem) (h : items.rd w w.heap.size [v] q) (hx : kItem.rd w w.heap.size cs x) (hs : smItemS q) (hsx : smItem x) (hl : q.length ≤ 1000000) :
    ACalls Tryz.prog 57 #[v, .agg cs.toArray] w fun r w' => ∃ v' fp, r = .tuple #[v', .bool (put q x).2] ∧ Sep w.heap.size w w' [Ck.own items fp [v'] (put q x).1] := by
  have hsp := sm_put hs hsx hl
  obtain ⟨u, rfl, q0, q1, q2, q3⟩ := kItem_open hx
  have H := Sep.start w
  refine body_of follows Tryz.func57 rfl rfl _ rfl (by kernel_rfl) (vs ?_)
  refine x_bx H [.string ⟨(x.f_Route).toArray⟩, .int .i64 x.f_Topic, .int .i64 x.f_Due, u] fun g1 w1 H => vs ?_
  refine x_callf H (cloneItems_ok w1 v q (H.rd h) hs) fun r2 f2 w2 H => vs ?_
  refine x_ld H sc3 ?_
  refine vs (ways ?_ ?_)
  · refine vh fun h0 => ?_
    have hp := putL_high (q := q) h0
    refine x_call (deleteFuncI_ok (twin x) 111 #[] #[.pointer (some ⟨g1, 0, none⟩)] H (by have := hs.1; omega) en111 (fun w' es y S hr => implPut1_ok w' es g1 y x hr (S.cell (.head _) 0) (S.cell (.head _) 1))) fun r3 w3 ⟨f3, H⟩ => ?_
    have hfl : (q.filter fun y => !twin x y).length ≤ 1000000 := Nat.le_trans (List.length_filter_le ..) hl
    refine vs ?_
    refine x_lda H st32 ?_
    refine vs ?_
    refine x_call (cloneItem_ok w3 _ x (H.rd hx) hsx) fun _ w5 ⟨cs5, f5, e, S⟩ => ?_
    subst e
    have H := H.join S
    simp only [List.cons_append, List.nil_append] at H
    refine vs ?_
    refine x_lst1 sl24 H rfl rfl fun f6 v6 w6 H => vs ?_
    refine x_appO sl24 H rfl ?_ ?_ fun f7 v7 w7 H => vs ?_
    · simp only [List.length_cons, List.length_nil]; omega
    · simp only [List.length_cons, List.length_nil]; omega
    rw [← hp] at H
    refine x_callb H (implQueueOk_ok w7 v7 _ (H.own (.head _)) hsp) fun w8 H => ?_
    cases hq : queueOk (putL q x) with
    | true =>
      refine vs ?_
      rw [put_yes hq]
      exact ⟨_, _, rfl, H.head⟩
    | false =>
      refine vs ?_
      refine x_callf H (cloneItems_ok w8 v q (H.rd h) hs) fun r9 f9 w9 H => vs ?_
      rw [put_no hq]
      exact ⟨_, _, rfl, H.head⟩
  · refine vh fun h0 => ?_
    have hp := putL_low (q := q) h0
    refine x_lda H st32 ?_
    refine vs ?_
    refine x_call (cloneItem_ok w2 _ x (H.rd hx) hsx) fun _ w5 ⟨cs5, f5, e, S⟩ => ?_
    subst e
    have H := H.join S
    simp only [List.cons_append, List.nil_append] at H
    refine vs ?_
    refine x_lst1 sl24 H rfl rfl fun f6 v6 w6 H => vs ?_
    refine x_appO sl24 H rfl ?_ ?_ fun f7 v7 w7 H => vs ?_
    · simp only [List.length_cons, List.length_nil]; omega
    · simp only [List.length_cons, List.length_nil]; omega
    rw [← hp] at H
    refine x_callb H (implQueueOk_ok w7 v7 _ (H.own (.head _)) hsp) fun w8 H => ?_
    cases hq : queueOk (putL q x) with
    | true =>
      refine vs ?_
      rw [put_yes hq]
      exact ⟨_, _, rfl, H.head⟩
    | false =>
      refine vs ?_
      refine x_callf H (cloneItems_ok w8 v q (H.rd h) hs) fun r9 f9 w9 H => vs ?_
      rw [put_no hq]
      exact ⟨_, _, rfl, H.head⟩
theorem filt_take {α : Type} {l : List α} {p : α → Bool} {j : Nat} (hj : j < l.length) (h : p l[j] = true) : (l.take (j + 1)).filter p = (l.take j).filter p ++ [l[j]] := by rw [take_filter hj, if_pos h]
theorem filt_skip {α : Type} {l : List α} {p : α → Bool} {j : Nat} (hj : j < l.length) (h : p l[j] = false) : (l.take (j + 1)).filter p = (l.take j).filter p := by rw [take_filter hj, if_neg (by rw [h]; decide), List.append_nil]
theorem filt_len {α : Type} (l : List α) (p : α → Bool) (j : Nat) : ((l.take j).filter p).length ≤ l.length := Nat.le_trans (List.length_filter_le ..) (by rw [List.length_take]; omega)
theorem specPut_ok (w : World) (v : Value) (q : List MItem) (cs : List Value) (x : MItem) (h : items.rd w w.heap.size [v] q) (hx : kItem.rd w w.heap.size cs x) (hs : smItemS q) (hsx : smItem x) (hl : q.length ≤ 1000000) :
    ACalls Tryz.prog 75 #[v, .agg cs.toArray] w fun r w' => ∃ v' fp, r = .tuple #[v', .bool (put q x).2] ∧ Sep w.heap.size w w' [Ck.own items fp [v'] (put q x).1] := by
  have hsp := sm_put hs hsx hl
  have h9 := h
  obtain ⟨u, rfl, q0, q1, q2, q3⟩ := kItem_open hx
  obtain ⟨A, c, rfl, hc1, hc2, ha⟩ := sl_open h
  have H := Sep.start w
  refine body_of follows Tryz.func75 rfl rfl _ rfl (by kernel_rfl) (vs ?_)
  refine x_bx H [.string ⟨(x.f_Route).toArray⟩, .int .i64 x.f_Topic, .int .i64 x.f_Due, u] fun g1 w1 H => vs ?_
  refine x_empO (d := kItem) H sl24 fun g2 w2 H => vs ?_
  refine loop_at (σ := Nat × Value × List Nat) (fun y => [(0, .slice A q.length c), (3, .pointer (some ⟨g1, 0, none⟩)), (6, y.2.1), (7, .int .i64 (y.1 : Int))])
    (fun y w' => y.1 ≤ q.length ∧ Sep w.heap.size w w' [Ck.own items y.2.2 [y.2.1] ((q.take y.1).filter (keepP x)), Ck.box g1 [.string ⟨(x.f_Route).toArray⟩, .int .i64 x.f_Topic, .int .i64 x.f_Due, u] 32]) (fun y => q.length - y.1) (0, _, _) (vs trivial) ⟨Nat.zero_le _, H⟩ ?_
  rintro ⟨k, v', fp⟩ s w3 ⟨hk, H⟩
  dsimp only at hk H
  refine vs (ways ?_ ?_)
  · refine vh fun hlt => ?_
    have hk2 : k < q.length := by omega
    have hsm := hs.2 q[k] (List.getElem_mem hk2)
    have hfl := filt_len q (keepP x) k
    have H3 := H
    refine draw_of [(0, true), (1, true), (2, true), (3, true), (4, true), (5, true), (6, true), (7, true), (8, true), (9, true), (10, true), (11, true), (12, true), (13, true), (14, true), (15, true), (16, true), (17, true), (18, true), (19, true), (20, true), (21, true), (22, true)] w3.heap.size [] fun w4 hh hb4 => vs ?_
    have J := (Sep.start w3).go (hb4 _)
    have H := H3.go (hb4 _)
    refine q_ldB H3 J sc3 ?_
    by_cases h0 : x.f_Topic ≤ 0
    · have kp : keepP x q[k] = true := by unfold keepP; rw [decide_eq_false (show ¬ 0 < x.f_Topic by omega)]; rfl
      refine ve h0 ?_
      refine x_ele H sl24 rfl k hk2 ha rfl fun ad es hb hr hc => vs ?_
      refine x_lds st32 hc (Kd.len _ hr) (vs ?_)
      refine x_call (l13Item_ok w4 _ q[k] (H.rd hr) hsm) fun _ w5 ⟨cs5, f5, e, S⟩ => ?_
      subst e
      have H := H.join S
      simp only [List.cons_append, List.nil_append] at H
      refine vs ?_
      refine x_lst1 sl24 H rfl rfl fun f6 v6 w6 H => vs ?_
      refine x_appO sl24 H rfl ?_ ?_ fun f7 v7 w7 H => vs ?_
      · simp only [List.length_cons, List.length_nil]; omega
      · simp only [List.length_cons, List.length_nil]; omega
      refine ⟨(k + 1, v7, f7), ⟨rfl, i64_eq (by show w64 ((k : Int) + 1) = ((k + 1 : Nat) : Int); unfold w64; omega)⟩, ⟨hk2, ?_⟩, by show q.length - (k + 1) < q.length - k; omega⟩
      show Sep _ _ _ [Ck.own _ f7 [v7] ((q.take (k + 1)).filter (keepP x)), _]
      rw [filt_take hk2 (kp)]
      exact H
    · refine ve h0 ?_
      refine q_ele H sl24 rfl k hk2 ha rfl fun ad es hb hr hc => ve h0 ?_
      obtain ⟨u1, rfl, _, _, _, _⟩ := kItem_open hr
      refine q_lf0 sc9 hc (by decide) (Nat.lt_of_lt_of_le hb H3.ns) rfl ?_
      refine ve h0 ?_
      refine q_ldB H3 J sc9 ?_
      by_cases hR : q[k].f_Route = x.f_Route
      · have eR : (q[k].f_Route = x.f_Route) = True := eq_true hR
        refine ve (And.intro h0 eR) ?_
        refine q_ele H sl24 rfl k hk2 ha rfl fun ad es hb hr hc => ve (And.intro h0 eR) ?_
        obtain ⟨u1, rfl, _, _, _, _⟩ := kItem_open hr
        refine q_lfj (j := 1) sc3 hc (by decide) (Nat.lt_of_lt_of_le hb H3.ns) rfl ?_
        refine ve (And.intro h0 eR) ?_
        refine q_ldB H3 J sc3 ?_
        by_cases hT : q[k].f_Topic = x.f_Topic
        · have eT : (q[k].f_Topic = x.f_Topic) = True := eq_true hT
          have kp : keepP x q[k] = false := by unfold keepP twin; rw [decide_eq_true (show 0 < x.f_Topic by omega), decide_eq_true hR, decide_eq_true hT]; rfl
          refine ve (And.intro h0 (And.intro eR eT)) ?_
          refine ⟨(k + 1, v', fp), ⟨rfl, i64_eq (by show w64 ((k : Int) + 1) = ((k + 1 : Nat) : Int); unfold w64; omega)⟩, ⟨hk2, ?_⟩, by show q.length - (k + 1) < q.length - k; omega⟩
          show Sep _ _ _ [Ck.own _ fp [v'] ((q.take (k + 1)).filter (keepP x)), _]
          rw [filt_skip hk2 kp]
          exact H
        · have kp : keepP x q[k] = true := by unfold keepP twin; rw [decide_eq_false hT]; simp
          refine ve (And.intro h0 (And.intro eR hT)) ?_
          refine x_ele H sl24 rfl k hk2 ha rfl fun ad es hb hr hc => vs ?_
          refine x_lds st32 hc (Kd.len _ hr) (vs ?_)
          refine x_call (l13Item_ok w4 _ q[k] (H.rd hr) hsm) fun _ w5 ⟨cs5, f5, e, S⟩ => ?_
          subst e
          have H := H.join S
          simp only [List.cons_append, List.nil_append] at H
          refine vs ?_
          refine x_lst1 sl24 H rfl rfl fun f6 v6 w6 H => vs ?_
          refine x_appO sl24 H rfl ?_ ?_ fun f7 v7 w7 H => vs ?_
          · simp only [List.length_cons, List.length_nil]; omega
          · simp only [List.length_cons, List.length_nil]; omega
          refine ⟨(k + 1, v7, f7), ⟨rfl, i64_eq (by show w64 ((k : Int) + 1) = ((k + 1 : Nat) : Int); unfold w64; omega)⟩, ⟨hk2, ?_⟩, by show q.length - (k + 1) < q.length - k; omega⟩
          show Sep _ _ _ [Ck.own _ f7 [v7] ((q.take (k + 1)).filter (keepP x)), _]
          rw [filt_take hk2 (kp)]
          exact H
      · have kp : keepP x q[k] = true := by unfold keepP twin; rw [decide_eq_false hR]; simp
        refine ve (And.intro h0 hR) ?_
        refine x_ele H sl24 rfl k hk2 ha rfl fun ad es hb hr hc => vs ?_
        refine x_lds st32 hc (Kd.len _ hr) (vs ?_)
        refine x_call (l13Item_ok w4 _ q[k] (H.rd hr) hsm) fun _ w5 ⟨cs5, f5, e, S⟩ => ?_
        subst e
        have H := H.join S
        simp only [List.cons_append, List.nil_append] at H
        refine vs ?_
        refine x_lst1 sl24 H rfl rfl fun f6 v6 w6 H => vs ?_
        refine x_appO sl24 H rfl ?_ ?_ fun f7 v7 w7 H => vs ?_
        · simp only [List.length_cons, List.length_nil]; omega
        · simp only [List.length_cons, List.length_nil]; omega
        refine ⟨(k + 1, v7, f7), ⟨rfl, i64_eq (by show w64 ((k : Int) + 1) = ((k + 1 : Nat) : Int); unfold w64; omega)⟩, ⟨hk2, ?_⟩, by show q.length - (k + 1) < q.length - k; omega⟩
        show Sep _ _ _ [Ck.own _ f7 [v7] ((q.take (k + 1)).filter (keepP x)), _]
        rw [filt_take hk2 (kp)]
        exact H
  · refine vh fun hlt => ?_
    obtain rfl : k = q.length := by omega
    rw [List.take_length] at H
    have hfl := List.length_filter_le (keepP x) q
    refine x_lda H st32 ?_
    refine vs ?_
    refine x_call (l13Item_ok w3 _ x (H.rd hx) hsx) fun _ w5 ⟨cs5, f5, e, S⟩ => ?_
    subst e
    have H := H.join S
    simp only [List.cons_append, List.nil_append] at H
    refine vs ?_
    refine x_lst1 sl24 H rfl rfl fun f6 v6 w6 H => vs ?_
    refine x_appO sl24 H rfl ?_ ?_ fun f7 v7 w7 H => vs ?_
    · simp only [List.length_cons, List.length_nil]; omega
    · simp only [List.length_cons, List.length_nil]; omega
    have H : Sep w.heap.size w w7 (Ck.own items f7 [v7] (putL q x) :: _) := H
    refine x_callb H (specQueueOk_ok w7 v7 _ (H.own (.head _)) hsp) fun w8 H => ?_
    cases hq : queueOk (putL q x) with
    | true =>
      refine vs ?_
      rw [put_yes hq]
      exact ⟨_, _, rfl, H.head⟩
    | false =>
      refine vs ?_
      refine x_callf H (l13Queue_ok w8 _ q (H.rd h9) hs) fun r9 f9 w9 H => vs ?_
      rw [put_no hq]
      exact ⟨_, _, rfl, H.head⟩
end Go.Proofs.YtdljbekkckfmnaaGreat.V
