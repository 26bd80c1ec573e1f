/- Texts laid by programs, part 11. -/
import Derived.Test.YtcmckbgiiclomacGreatU10
import Derived.Test.YtcmckbgiiclomacGreatU09
namespace Go.Proofs.YtcmckbgiiclomacGreat.V
open Go Go.RowKit
set_option maxRecDepth 100000
set_option maxHeartbeats 4000000
set_option linter.unusedSimpArgs false
set_option linter.unusedVariables false
set_option pp.deepTerms false
set_option pp.deepTerms.threshold 3
theorem implQueueOk_ok (w : World) (v : Value) (l : List MItem) (h : items.rd w w.heap.size [v] l) (hs : smItemS l) :
    ACalls Tryz.prog 53 #[v] w fun q w' => q = .bool (queueOk l) ∧ Below w.heap.size w w' := by
  have hlm := sl_len h; have h9 := h; obtain ⟨A, c, rfl, hc1, hc2, ha⟩ := sl_open h; refine body_of follows Tryz.func53 rfl rfl _ rfl (by kernel_rfl) (vs (ways ?_ ?_))
  · refine vh fun hgt => ?_
    rw [queueOk_long (by omega)]; exact ⟨rfl, Below.refl ..⟩
  refine vh fun hle => ?_
  refine loop_at (σ := Nat) (fun k => [(0, .slice A l.length c), (8, .slice A l.length c), (9, .int .i64 (l.length : Int)), (10, .int .i64 (k : Int))])
    (fun k w' => k ≤ l.length ∧ (∀ i, i < k → qAt l i = true) ∧ Sep w.heap.size w w' []) (fun k => l.length - k) 0 (vs trivial) ⟨Nat.zero_le _, fun i h => absurd h (Nat.not_lt_zero i), Sep.start w⟩ ?_
  rintro k s w2 ⟨hk, hall, H⟩; refine vs (ways ?_ ?_)
  · refine vh fun hlt => ?_
    have hk2 : k < l.length := by omega
    have hsm := hs.2 l[k] (List.getElem_mem hk2); unfold smItem at hsm; have eit := itAt_eq hk2; refine x_ele H sl24 rfl k hk2 ha rfl fun ad es hb hr hc => vs ?_; obtain ⟨u, rfl, q0, q1, q2, q3⟩ := kItem_open hr; refine x_lds st45 hc rfl (vs ?_); refine x_al H st45 fun g5 w3 H => vs ?_; refine x_sta (vs := [.string ⟨(l[k].f_Route).toArray⟩, .int .i64 l[k].f_Topic, .int .i64 l[k].f_Due, u]) H st45 (h1 := Kd.one _ hr) fun w4 H => vs ?_; refine x_lda H st45 ?_; refine vs ?_; refine x_callb H (implItemOk_ok w4 _ l[k] (H.rd hr) (by omega)) fun w5 H => ?_
    cases hok : itemOk l[k] with
    | false =>
      refine vs ?_; rw [queueOk_bad hk2 (by unfold qAt; rw [eit, hok]; rfl)]; exact ⟨rfl, H.bel⟩
    | true =>
      refine vs ?_; refine x_ld H sc9 ?_; refine vs ?_; refine x_callb H (implOf_ok w5 _ l l[k].f_Route (H.rd h9)) fun w6 H => ?_
      by_cases h4 : (4 : Int) < (ofN l l[k].f_Route : Int)
      · refine ve h4 ?_
        rw [queueOk_bad hk2 (by unfold qAt; rw [eit, decide_eq_false (show ¬ ofN l l[k].f_Route ≤ 4 by omega)]; simp)]; exact ⟨rfl, H.bel⟩
      · refine ve h4 ?_
        refine x_ld H sc3 ?_
        by_cases h0 : 0 < l[k].f_Topic
        · refine ve h0 ?_
          refine x_to sl24 rfl (H.rd h9) (hi := k) (by omega) fun v' hv' => ?_; refine ve h0 ?_; have hg := H.lt (.head _); have c0 := H.cell (.head _) 0; have c1 := H.cell (.head _) 1; refine x_callb H (containsFuncI_ok w6 v' (l.take k) (twin l[k]) 77 #[] #[.pointer (some ⟨g5, 0, none⟩)] hv' en77 (fun w' es y hb hr' => implQueueOk1_ok w' es g5 y l[k] hr' ((hb.cell (p := ⟨g5, 0, none⟩) hg).trans c0) ((hb.cell (p := ⟨g5, 1, none⟩) hg).trans c1))) fun w7 H => ?_
          cases ht : (l.take k).any (twin l[k]) with
          | true =>
            refine ve h0 ?_; rw [queueOk_bad hk2 (by unfold qAt; rw [eit, ht, decide_eq_true h0]; simp)]; exact ⟨rfl, H.bel⟩
          | false =>
            refine ve h0 ?_; refine ⟨k + 1, i64_eq (by unfold w64; omega), ⟨hk2, fun i hi => ?_, H.none⟩, by omega⟩
            by_cases h2 : i = k
            · subst h2; unfold qAt; rw [eit, hok, ht, decide_eq_true (show ofN l l[i].f_Route ≤ 4 by omega)]; simp
            · exact hall i (by omega)
        · refine ve h0 ?_
          refine ⟨k + 1, i64_eq (by unfold w64; omega), ⟨hk2, fun i hi => ?_, H.none⟩, by omega⟩
          by_cases h2 : i = k
          · subst h2; unfold qAt; rw [eit, hok, decide_eq_false h0, decide_eq_true (show ofN l l[i].f_Route ≤ 4 by omega)]; simp
          · exact hall i (by omega)
  · refine vh fun hlt => ?_
    obtain rfl : k = l.length := by omega
    rw [queueOk_iff.2 ⟨by omega, hall⟩]; exact ⟨rfl, H.bel⟩
theorem qAt_twin {l : List MItem} {k : Nat} (hk : k < l.length) (h0 : 0 < l[k].f_Topic) {j : Nat} (hj : j < k) (ht : twin l[k] (l[j]'(by omega)) = true) : qAt l k = false := by
  have e : (l.take k).any (twin l[k]) = true := List.any_eq_true.2 ⟨l[j]'(by omega), List.mem_take_iff_getElem.2 ⟨j, by omega, rfl⟩, ht⟩; unfold qAt; rw [itAt_eq hk, decide_eq_true h0, e]
  simp
theorem qAt_fine {l : List MItem} {k : Nat} (hk : k < l.length) (hok : itemOk l[k] = true) (h4 : ofN l l[k].f_Route ≤ 4) (ht : ∀ j (hj : j < k), ¬ (twin l[k] (l[j]'(by omega)) = true ∧ 0 < l[k].f_Topic)) : qAt l k = true := by
  unfold qAt; rw [itAt_eq hk, hok, decide_eq_true h4]
  by_cases h0 : 0 < l[k].f_Topic
  · have e : (l.take k).any (twin l[k]) = false := by
      rw [Bool.eq_false_iff]; intro ha; obtain ⟨y, hy, hp⟩ := List.any_eq_true.1 ha; obtain ⟨j, hj, rfl⟩ := List.mem_take_iff_getElem.1 hy; exact ht j (by omega) ⟨hp, h0⟩
    rw [e]; simp
  · rw [decide_eq_false h0]; simp
theorem specQueueOk_ok (w : World) (v : Value) (l : List MItem) (h : items.rd w w.heap.size [v] l) (hs : smItemS l) :
    ACalls Tryz.prog 71 #[v] w fun q w' => q = .bool (queueOk l) ∧ Below w.heap.size w w' := by
  have hlm := sl_len h; have h9 := h; obtain ⟨A, c, rfl, hc1, hc2, ha⟩ := sl_open h; refine body_of follows Tryz.func71 rfl rfl _ rfl (by kernel_rfl) (vs ?_)
  refine loop_at (σ := Nat) (fun k => [(0, .slice A l.length c), (3, .int .i64 (k : Int))])
    (fun k w' => k ≤ l.length ∧ (∀ i, i < k → qAt l i = true) ∧ Sep w.heap.size w w' []) (fun k => l.length - k) 0 (vs trivial) ⟨Nat.zero_le _, fun i h => absurd h (Nat.not_lt_zero i), Sep.start w⟩ ?_
  rintro k s w2 ⟨hk, hall, H⟩; refine vs (ways ?_ ?_)
  · refine vh fun hlt => ?_
    have hk2 : k < l.length := by omega
    have hsm := hs.2 l[k] (List.getElem_mem hk2); unfold smItem at hsm; have eit := itAt_eq hk2; refine x_ele H sl24 rfl k hk2 ha rfl fun ad es hb hr hc => vs ?_; refine x_lds st45 hc (Kd.len _ hr) (vs ?_); refine x_callb H (specItemOk_ok w2 _ l[k] (H.rd hr) (by omega)) fun w3 H => ?_
    cases hok : itemOk l[k] with
    | false =>
      refine vs ?_; rw [queueOk_bad hk2 (by unfold qAt; rw [eit, hok]; rfl)]; exact ⟨rfl, H.bel⟩
    | true =>
      refine vs ?_; refine x_ele H sl24 rfl k hk2 ha rfl fun ad2 es2 hb2 hr2 hc2 => vs ?_; obtain ⟨u2, rfl, _, _, _, _⟩ := kItem_open hr2; refine x_lf0 sc9 hc2 (by decide) rfl ?_; refine vs ?_; refine x_callb H (specOf_ok w3 _ l l[k].f_Route (H.rd h9)) fun w4 H => ?_
      by_cases h4 : (4 : Int) < (ofN l l[k].f_Route : Int)
      · refine ve h4 ?_
        rw [queueOk_bad hk2 (by unfold qAt; rw [eit, decide_eq_false (show ¬ ofN l l[k].f_Route ≤ 4 by omega)]; simp)]; exact ⟨rfl, H.bel⟩
      · refine ve h4 ?_
        refine loop_at (σ := Nat) (fun j => [(0, .slice A l.length c), (3, .int .i64 (k : Int)), (4, .int .i64 (j : Int))])
          (fun j w' => j ≤ k ∧ (∀ i (hi : i < k), i < j → ¬ (twin l[k] (l[i]'(by omega)) = true ∧ 0 < l[k].f_Topic)) ∧ Sep w.heap.size w w' []) (fun j => k - j) 0 (vs trivial) ⟨Nat.zero_le _, fun i hi h => absurd h (Nat.not_lt_zero i), H⟩ ?_
        rintro j s w5 ⟨hj, hno, H⟩; refine vs (ways ?_ ?_)
        · refine vh fun hlt2 => ?_
          have hj2 : j < k := by omega
          have hj3 : j < l.length := by omega
          have goon : ¬ (twin l[k] l[j] = true ∧ 0 < l[k].f_Topic) → ∀ i (hi : i < k), i < j + 1 → ¬ (twin l[k] (l[i]'(by omega)) = true ∧ 0 < l[k].f_Topic) := fun h i hi h2 => by
            by_cases h3 : i = j
            · subst h3; exact h
            · exact hno i hi (by omega)
          refine draw_of [(0, true), (1, true), (2, true), (3, true), (4, true), (5, true), (6, true), (7, true), (8, true), (9, true), (10, true), (11, true), (12, true), (13, true), (14, true), (15, true), (16, true), (17, true), (18, true), (19, true), (20, true), (21, true), (22, true), (23, true), (24, true), (25, true), (26, true), (27, true), (28, true), (29, true), (30, true), (31, true)] w.heap.size [] fun w6 hh hb6 => vs ?_; have H := H.go (hb6 _); refine q_ele H sl24 rfl j hj3 ha rfl fun ad es hb hr hc => vs ?_; obtain ⟨u1, rfl, _, _, _, _⟩ := kItem_open hr; refine q_lf0 sc9 hc (by decide) hb rfl ?_; refine vs ?_; refine q_ele H sl24 rfl k hk2 ha rfl fun ad es hb hr hc => vs ?_; obtain ⟨u2, rfl, _, _, _, _⟩ := kItem_open hr; refine q_lf0 sc9 hc (by decide) hb rfl ?_
          by_cases hR : l[j].f_Route = l[k].f_Route
          · have eR : (l[j].f_Route = l[k].f_Route) = True := eq_true hR
            refine ve eR ?_; refine q_ele H sl24 rfl j hj3 ha rfl fun ad es hb hr hc => ve eR ?_; obtain ⟨u1, rfl, _, _, _, _⟩ := kItem_open hr; refine q_lfj (j := 1) sc3 hc (by decide) hb rfl ?_; refine ve eR ?_; refine q_ele H sl24 rfl k hk2 ha rfl fun ad es hb hr hc => ve eR ?_; obtain ⟨u2, rfl, _, _, _, _⟩ := kItem_open hr; refine q_lfj (j := 1) sc3 hc (by decide) hb rfl ?_
            by_cases hT : l[j].f_Topic = l[k].f_Topic
            · have eT : (l[j].f_Topic = l[k].f_Topic) = True := eq_true hT
              have htw : twin l[k] l[j] = true := by unfold twin; rw [decide_eq_true hR, decide_eq_true hT]; rfl
              refine ve (And.intro eR eT) ?_; refine q_ele H sl24 rfl k hk2 ha rfl fun ad es hb hr hc => ve (And.intro eR eT) ?_; obtain ⟨u2, rfl, _, _, _, _⟩ := kItem_open hr; refine q_lfj (j := 1) sc3 hc (by decide) hb rfl ?_
              by_cases h0 : 0 < l[k].f_Topic
              · refine ve (And.intro (And.intro eR eT) h0) ?_
                rw [queueOk_bad hk2 (qAt_twin hk2 h0 hj2 htw)]; exact ⟨rfl, H.bel⟩
              · refine ve (And.intro (And.intro eR eT) h0) ?_
                exact ⟨j + 1, i64_eq (by unfold w64; omega), ⟨hj2, by first | exact goon fun h => h0 h.2 | exact fun _ _ _ => trivial, H⟩, by omega⟩
            · refine ve (And.intro eR hT) ?_
              exact ⟨j + 1, i64_eq (by unfold w64; omega), ⟨hj2, goon fun h => hT (by have := h.1; unfold twin at this; simp only [Bool.and_eq_true, decide_eq_true_eq] at this; exact this.2), H⟩, by omega⟩
          · refine ve hR ?_
            exact ⟨j + 1, i64_eq (by unfold w64; omega), ⟨hj2, goon fun h => hR (by have := h.1; unfold twin at this; simp only [Bool.and_eq_true, decide_eq_true_eq] at this; exact this.1), H⟩, by omega⟩
        · refine vh fun hlt2 => ?_
          refine ⟨k + 1, i64_eq (by unfold w64; omega), ⟨hk2, fun i hi => ?_, H⟩, by omega⟩
          by_cases h2 : i = k
          · subst h2; exact qAt_fine hk2 hok (by omega) fun q hq => hno q hq (by omega)
          · exact hall i (by omega)
  · refine vh fun hlt => ?_
    obtain rfl : k = l.length := by omega
    refine ⟨?_, H.bel⟩
    have : queueOk l = decide ((l.length : Int) ≤ 10) := by
      by_cases hl : l.length ≤ 10
      · rw [queueOk_iff.2 ⟨hl, hall⟩]; exact (decide_eq_true (by omega)).symm
      · rw [queueOk_long hl]; exact (decide_eq_false (by omega)).symm
    rw [this]
theorem sm_filter {q : List MItem} {p : MItem → Bool} (hs : smItemS q) : smItemS (q.filter p) :=
  ⟨Nat.le_trans (List.length_filter_le ..) hs.1, fun y hy => hs.2 y (List.mem_filter.1 hy).1⟩
theorem sm_put {q : List MItem} {x : MItem} (hs : smItemS q) (hx : smItem x) (hl : q.length ≤ 1000000) : smItemS (putL q x) := by
  refine ⟨by have := putL_len q x; omega, fun y hy => ?_⟩; unfold putL at hy
  rcases List.mem_append.1 hy with hy | hy
  · exact hs.2 y (List.mem_filter.1 hy).1
  · rw [List.mem_singleton] at hy; subst hy; exact hx
theorem putL_low {q : List MItem} {x : MItem} (h : ¬ 0 < x.f_Topic) : putL q x = q ++ [x] := by
  unfold putL; rw [List.filter_eq_self.2 fun y hy => by unfold keepP; rw [decide_eq_false h]; rfl]
theorem putL_high {q : List MItem} {x : MItem} (h : 0 < x.f_Topic) : putL q x = (q.filter fun y => !twin x y) ++ [x] := by
  unfold putL
  congr 1
  refine congrArg (fun f => List.filter f q) (funext fun y => ?_); unfold keepP; rw [decide_eq_true h, Bool.true_and]
theorem put_yes {q : List MItem} {x : MItem} (h : queueOk (putL q x) = true) : put q x = (putL q x, true) := by unfold put; rw [if_pos h]
theorem put_no {q : List MItem} {x : MItem} (h : queueOk (putL q x) = false) : put q x = (q, false) := by unfold put; rw [if_neg (by rw [h]; decide)]
theorem implPut_ok (w : World) (v : Value) (q : List MItem) (cs : List Value) (x : MItem) (h : items.rd w w.heap.size [v] q) (hx : kItem.rd w w.heap.size cs x) (hs : smItemS q) (hsx : smItem x) (hl : q.length ≤ 1000000) :
    ACalls Tryz.prog 79 #[v, .agg cs.toArray] w fun r w' => ∃ v' fp, r = .tuple #[v', .bool (put q x).2] ∧ Sep w.heap.size w w' [Ck.own items fp [v'] (put q x).1] := by
  have hsp := sm_put hs hsx hl; obtain ⟨u, rfl, q0, q1, q2, q3⟩ := kItem_open hx; have H := Sep.start w; refine body_of follows Tryz.func79 rfl rfl _ rfl (by kernel_rfl) (vs ?_); refine x_bx H [.string ⟨(x.f_Route).toArray⟩, .int .i64 x.f_Topic, .int .i64 x.f_Due, u] fun g1 w1 H => vs ?_; refine x_callf H (cloneItems_ok w1 v q (H.rd h) hs) fun r2 f2 w2 H => vs ?_; refine x_ld H sc3 ?_; refine vs (ways ?_ ?_)
  · refine vh fun h0 => ?_
    have hp := putL_high (q := q) h0; refine x_call (deleteFuncI_ok (twin x) 111 #[] #[.pointer (some ⟨g1, 0, none⟩)] H (by have := hs.1; omega) en111 (fun w' es y S hr => implPut1_ok w' es g1 y x hr (S.cell (.head _) 0) (S.cell (.head _) 1))) fun r3 w3 ⟨f3, H⟩ => ?_; have hfl : (q.filter fun y => !twin x y).length ≤ 1000000 := Nat.le_trans (List.length_filter_le ..) hl; refine vs ?_; refine x_lda H st45 ?_; refine vs ?_; refine x_call (cloneItem_ok w3 _ x (H.rd hx) hsx) fun _ w5 ⟨cs5, f5, e, S⟩ => ?_; subst e; have H := H.join S; simp only [List.cons_append, List.nil_append] at H; refine vs ?_; refine x_lst1 sl24 H rfl rfl fun f6 v6 w6 H => vs ?_; refine x_appO sl24 H rfl ?_ ?_ fun f7 v7 w7 H => vs ?_
    · simp only [List.length_cons, List.length_nil]; omega
    · simp only [List.length_cons, List.length_nil]; omega
    rw [← hp] at H; refine x_callb H (implQueueOk_ok w7 v7 _ (H.own (.head _)) hsp) fun w8 H => ?_
    cases hq : queueOk (putL q x) with
    | true =>
      refine vs ?_; rw [put_yes hq]; exact ⟨_, _, rfl, H.head⟩
    | false =>
      refine vs ?_; refine x_callf H (cloneItems_ok w8 v q (H.rd h) hs) fun r9 f9 w9 H => vs ?_; rw [put_no hq]; exact ⟨_, _, rfl, H.head⟩
  · refine vh fun h0 => ?_
    have hp := putL_low (q := q) h0; refine x_lda H st45 ?_; refine vs ?_; refine x_call (cloneItem_ok w2 _ x (H.rd hx) hsx) fun _ w5 ⟨cs5, f5, e, S⟩ => ?_; subst e; have H := H.join S; simp only [List.cons_append, List.nil_append] at H; refine vs ?_; refine x_lst1 sl24 H rfl rfl fun f6 v6 w6 H => vs ?_; refine x_appO sl24 H rfl ?_ ?_ fun f7 v7 w7 H => vs ?_
    · simp only [List.length_cons, List.length_nil]; omega
    · simp only [List.length_cons, List.length_nil]; omega
    rw [← hp] at H; refine x_callb H (implQueueOk_ok w7 v7 _ (H.own (.head _)) hsp) fun w8 H => ?_
    cases hq : queueOk (putL q x) with
    | true =>
      refine vs ?_; rw [put_yes hq]; exact ⟨_, _, rfl, H.head⟩
    | false =>
      refine vs ?_; refine x_callf H (cloneItems_ok w8 v q (H.rd h) hs) fun r9 f9 w9 H => vs ?_; rw [put_no hq]; exact ⟨_, _, rfl, H.head⟩
theorem filt_take {α : Type} {l : List α} {p : α → Bool} {j : Nat} (hj : j < l.length) (h : p l[j] = true) : (l.take (j + 1)).filter p = (l.take j).filter p ++ [l[j]] := by rw [take_filter hj, if_pos h]
theorem filt_skip {α : Type} {l : List α} {p : α → Bool} {j : Nat} (hj : j < l.length) (h : p l[j] = false) : (l.take (j + 1)).filter p = (l.take j).filter p := by rw [take_filter hj, if_neg (by rw [h]; decide), List.append_nil]
theorem filt_len {α : Type} (l : List α) (p : α → Bool) (j : Nat) : ((l.take j).filter p).length ≤ l.length := Nat.le_trans (List.length_filter_le ..) (by rw [List.length_take]; omega)
theorem specPut_ok (w : World) (v : Value) (q : List MItem) (cs : List Value) (x : MItem) (h : items.rd w w.heap.size [v] q) (hx : kItem.rd w w.heap.size cs x) (hs : smItemS q) (hsx : smItem x) (hl : q.length ≤ 1000000) :
    ACalls Tryz.prog 130 #[v, .agg cs.toArray] w fun r w' => ∃ v' fp, r = .tuple #[v', .bool (put q x).2] ∧ Sep w.heap.size w w' [Ck.own items fp [v'] (put q x).1] := by
  have hsp := sm_put hs hsx hl; have h9 := h; obtain ⟨u, rfl, q0, q1, q2, q3⟩ := kItem_open hx; obtain ⟨A, c, rfl, hc1, hc2, ha⟩ := sl_open h; have H := Sep.start w; refine body_of follows Tryz.func130 rfl rfl _ rfl (by kernel_rfl) (vs ?_); refine x_bx H [.string ⟨(x.f_Route).toArray⟩, .int .i64 x.f_Topic, .int .i64 x.f_Due, u] fun g1 w1 H => vs ?_; refine x_empO (d := kItem) H sl24 fun g2 w2 H => vs ?_
  refine loop_at (σ := Nat × Value × List Nat) (fun y => [(0, .slice A q.length c), (3, .pointer (some ⟨g1, 0, none⟩)), (6, y.2.1), (7, .int .i64 (y.1 : Int))])
    (fun y w' => y.1 ≤ q.length ∧ Sep w.heap.size w w' [Ck.own items y.2.2 [y.2.1] ((q.take y.1).filter (keepP x)), Ck.box g1 [.string ⟨(x.f_Route).toArray⟩, .int .i64 x.f_Topic, .int .i64 x.f_Due, u] 45]) (fun y => q.length - y.1) (0, _, _) (vs trivial) ⟨Nat.zero_le _, H⟩ ?_
  rintro ⟨k, v', fp⟩ s w3 ⟨hk, H⟩; dsimp only at hk H; refine vs (ways ?_ ?_)
  · refine vh fun hlt => ?_
    have hk2 : k < q.length := by omega
    have hsm := hs.2 q[k] (List.getElem_mem hk2); have hfl := filt_len q (keepP x) k; have H3 := H; refine draw_of [(0, true), (1, true), (2, true), (3, true), (4, true), (5, true), (6, true), (7, true), (8, true), (9, true), (10, true), (11, true), (12, true), (13, true), (14, true), (15, true), (16, true), (17, true), (18, true), (19, true), (20, true), (21, true), (22, true)] w3.heap.size [] fun w4 hh hb4 => vs ?_; have J := (Sep.start w3).go (hb4 _); have H := H3.go (hb4 _); refine q_ldB H3 J sc3 ?_
    by_cases h0 : x.f_Topic ≤ 0
    · have kp : keepP x q[k] = true := by unfold keepP; rw [decide_eq_false (show ¬ 0 < x.f_Topic by omega)]; rfl
      refine ve h0 ?_; refine x_ele H sl24 rfl k hk2 ha rfl fun ad es hb hr hc => vs ?_; refine x_lds st45 hc (Kd.len _ hr) (vs ?_); refine x_call (l13Item_ok w4 _ q[k] (H.rd hr) hsm) fun _ w5 ⟨cs5, f5, e, S⟩ => ?_; subst e; have H := H.join S; simp only [List.cons_append, List.nil_append] at H; refine vs ?_; refine x_lst1 sl24 H rfl rfl fun f6 v6 w6 H => vs ?_; refine x_appO sl24 H rfl ?_ ?_ fun f7 v7 w7 H => vs ?_
      · simp only [List.length_cons, List.length_nil]; omega
      · simp only [List.length_cons, List.length_nil]; omega
      refine ⟨(k + 1, v7, f7), ⟨rfl, i64_eq (by show w64 ((k : Int) + 1) = ((k + 1 : Nat) : Int); unfold w64; omega)⟩, ⟨hk2, ?_⟩, by show q.length - (k + 1) < q.length - k; omega⟩
      show Sep _ _ _ [Ck.own _ f7 [v7] ((q.take (k + 1)).filter (keepP x)), _]
      rw [filt_take hk2 (kp)]; exact H
    · refine ve h0 ?_
      refine q_ele H sl24 rfl k hk2 ha rfl fun ad es hb hr hc => ve h0 ?_; obtain ⟨u1, rfl, _, _, _, _⟩ := kItem_open hr; refine q_lf0 sc9 hc (by decide) (Nat.lt_of_lt_of_le hb H3.ns) rfl ?_; refine ve h0 ?_; refine q_ldB H3 J sc9 ?_
      by_cases hR : q[k].f_Route = x.f_Route
      · have eR : (q[k].f_Route = x.f_Route) = True := eq_true hR
        refine ve (And.intro h0 eR) ?_; refine q_ele H sl24 rfl k hk2 ha rfl fun ad es hb hr hc => ve (And.intro h0 eR) ?_; obtain ⟨u1, rfl, _, _, _, _⟩ := kItem_open hr; refine q_lfj (j := 1) sc3 hc (by decide) (Nat.lt_of_lt_of_le hb H3.ns) rfl ?_; refine ve (And.intro h0 eR) ?_; refine q_ldB H3 J sc3 ?_
        by_cases hT : q[k].f_Topic = x.f_Topic
        · have eT : (q[k].f_Topic = x.f_Topic) = True := eq_true hT
          have kp : keepP x q[k] = false := by unfold keepP twin; rw [decide_eq_true (show 0 < x.f_Topic by omega), decide_eq_true hR, decide_eq_true hT]; rfl
          refine ve (And.intro h0 (And.intro eR eT)) ?_; refine ⟨(k + 1, v', fp), ⟨rfl, i64_eq (by show w64 ((k : Int) + 1) = ((k + 1 : Nat) : Int); unfold w64; omega)⟩, ⟨hk2, ?_⟩, by show q.length - (k + 1) < q.length - k; omega⟩
          show Sep _ _ _ [Ck.own _ fp [v'] ((q.take (k + 1)).filter (keepP x)), _]
          rw [filt_skip hk2 kp]; exact H
        · have kp : keepP x q[k] = true := by unfold keepP twin; rw [decide_eq_false hT]; simp
          refine ve (And.intro h0 (And.intro eR hT)) ?_; refine x_ele H sl24 rfl k hk2 ha rfl fun ad es hb hr hc => vs ?_; refine x_lds st45 hc (Kd.len _ hr) (vs ?_); refine x_call (l13Item_ok w4 _ q[k] (H.rd hr) hsm) fun _ w5 ⟨cs5, f5, e, S⟩ => ?_; subst e; have H := H.join S; simp only [List.cons_append, List.nil_append] at H; refine vs ?_; refine x_lst1 sl24 H rfl rfl fun f6 v6 w6 H => vs ?_; refine x_appO sl24 H rfl ?_ ?_ fun f7 v7 w7 H => vs ?_
          · simp only [List.length_cons, List.length_nil]; omega
          · simp only [List.length_cons, List.length_nil]; omega
          refine ⟨(k + 1, v7, f7), ⟨rfl, i64_eq (by show w64 ((k : Int) + 1) = ((k + 1 : Nat) : Int); unfold w64; omega)⟩, ⟨hk2, ?_⟩, by show q.length - (k + 1) < q.length - k; omega⟩
          show Sep _ _ _ [Ck.own _ f7 [v7] ((q.take (k + 1)).filter (keepP x)), _]
          rw [filt_take hk2 (kp)]; exact H
      · have kp : keepP x q[k] = true := by unfold keepP twin; rw [decide_eq_false hR]; simp
        refine ve (And.intro h0 hR) ?_; refine x_ele H sl24 rfl k hk2 ha rfl fun ad es hb hr hc => vs ?_; refine x_lds st45 hc (Kd.len _ hr) (vs ?_); refine x_call (l13Item_ok w4 _ q[k] (H.rd hr) hsm) fun _ w5 ⟨cs5, f5, e, S⟩ => ?_; subst e; have H := H.join S; simp only [List.cons_append, List.nil_append] at H; refine vs ?_; refine x_lst1 sl24 H rfl rfl fun f6 v6 w6 H => vs ?_; refine x_appO sl24 H rfl ?_ ?_ fun f7 v7 w7 H => vs ?_
        · simp only [List.length_cons, List.length_nil]; omega
        · simp only [List.length_cons, List.length_nil]; omega
        refine ⟨(k + 1, v7, f7), ⟨rfl, i64_eq (by show w64 ((k : Int) + 1) = ((k + 1 : Nat) : Int); unfold w64; omega)⟩, ⟨hk2, ?_⟩, by show q.length - (k + 1) < q.length - k; omega⟩
        show Sep _ _ _ [Ck.own _ f7 [v7] ((q.take (k + 1)).filter (keepP x)), _]
        rw [filt_take hk2 (kp)]; exact H
  · refine vh fun hlt => ?_
    obtain rfl : k = q.length := by omega
    rw [List.take_length] at H; have hfl := List.length_filter_le (keepP x) q; refine x_lda H st45 ?_; refine vs ?_; refine x_call (l13Item_ok w3 _ x (H.rd hx) hsx) fun _ w5 ⟨cs5, f5, e, S⟩ => ?_; subst e; have H := H.join S; simp only [List.cons_append, List.nil_append] at H; refine vs ?_; refine x_lst1 sl24 H rfl rfl fun f6 v6 w6 H => vs ?_; refine x_appO sl24 H rfl ?_ ?_ fun f7 v7 w7 H => vs ?_
    · simp only [List.length_cons, List.length_nil]; omega
    · simp only [List.length_cons, List.length_nil]; omega
    have H : Sep w.heap.size w w7 (Ck.own items f7 [v7] (putL q x) :: _) := H; refine x_callb H (specQueueOk_ok w7 v7 _ (H.own (.head _)) hsp) fun w8 H => ?_
    cases hq : queueOk (putL q x) with
    | true =>
      refine vs ?_; rw [put_yes hq]; exact ⟨_, _, rfl, H.head⟩
    | false =>
      refine vs ?_; refine x_callf H (l13Queue_ok w8 _ q (H.rd h9) hs) fun r9 f9 w9 H => vs ?_; rw [put_no hq]; exact ⟨_, _, rfl, H.head⟩
theorem due_eq (q : List MItem) (now : Int) : (q.filter fun x => !decide (x.f_Due < now)) = due q now := by
  unfold due; refine congrArg (fun f => List.filter f q) (funext fun x => ?_); unfold dueP
  by_cases h : x.f_Due < now
  · rw [decide_eq_true h, decide_eq_false (by omega)]; rfl
  · rw [decide_eq_false h, decide_eq_true (by omega)]; rfl
theorem implDue_ok (w : World) (v : Value) (q : List MItem) (now : Int) (h : items.rd w w.heap.size [v] q) (hs : smItemS q) :
    ACalls Tryz.prog 82 #[v, .int .i64 now] w fun r w' => ∃ fp, Sep w.heap.size w w' [Ck.own items fp [r] (due q now)] := by
  have H := Sep.start w; refine body_of follows Tryz.func82 rfl rfl _ rfl (by kernel_rfl) (vs ?_); refine x_bx H [.int .i64 now] fun g1 w1 H => vs ?_; refine x_callf H (cloneItems_ok w1 v q (H.rd h) hs) fun r2 f2 w2 H => vs ?_; refine x_call (deleteFuncI_ok (fun x => decide (x.f_Due < now)) 115 #[] #[.pointer (some ⟨g1, 0, none⟩)] H hs.1 en115 (fun w' es y S hr => implDue1_ok w' es g1 y now hr (S.cell (.head _) 0))) fun r3 w3 ⟨f3, H⟩ => ?_; refine vs ?_; rw [due_eq] at H; exact ⟨_, H.head⟩
theorem specDue_ok (w : World) (v : Value) (l : List MItem) (now : Int) (h : items.rd w w.heap.size [v] l) (hs : smItemS l) :
    ACalls Tryz.prog 129 #[v, .int .i64 now] w fun r w' => ∃ fp, Sep w.heap.size w w' [Ck.own items fp [r] (due l now)] := by
  have hlm := sl_len h; have hs0 := hs.1; obtain ⟨A, c, rfl, hc1, hc2, ha⟩ := sl_open h; refine body_of follows Tryz.func129 rfl rfl _ rfl (by kernel_rfl) (vs ?_); refine x_empO (d := kItem) (Sep.start w) sl24 fun g w1 H => vs ?_
  refine loop_at (σ := Nat × Value × List Nat) (fun x => [(0, .slice A l.length c), (1, .int .i64 now), (5, x.2.1), (6, .int .i64 (x.1 : Int))])
    (fun x w' => x.1 ≤ l.length ∧ Sep w.heap.size w w' [Ck.own items x.2.2 [x.2.1] ((l.take x.1).filter (dueP now))]) (fun x => l.length - x.1) (0, _, _) (vs trivial) ⟨Nat.zero_le _, H⟩ ?_
  rintro ⟨k, v', fp⟩ s w2 ⟨hk, H⟩; dsimp only at hk H; refine vs (ways ?_ ?_)
  · refine vh fun hlt => ?_
    have hk2 : k < l.length := by omega
    have hsm := hs.2 l[k] (List.getElem_mem hk2); have hfl := filt_len l (dueP now) k; refine x_ele H sl24 rfl k hk2 ha rfl fun ad es hb hr hc => vs ?_; obtain ⟨u, rfl, _, _, _, _⟩ := kItem_open hr; refine x_lfj (j := 2) sc3 hc (by decide) rfl ?_; refine vs (ways ?_ ?_)
    · refine vh fun hge => ?_
      refine x_ele H sl24 rfl k hk2 ha rfl fun ad es hb hr hc => vs ?_; refine x_lds st45 hc (Kd.len _ hr) (vs ?_); refine x_call (l13Item_ok w2 _ l[k] (H.rd hr) hsm) fun _ w5 ⟨cs5, f5, e, S⟩ => ?_; subst e; have H := H.join S; simp only [List.cons_append, List.nil_append] at H; refine vs ?_; refine x_lst1 sl24 H rfl rfl fun f6 v6 w6 H => vs ?_; refine x_appO sl24 H rfl ?_ ?_ fun f7 v7 w7 H => vs ?_
      · simp only [List.length_cons, List.length_nil]; omega
      · simp only [List.length_cons, List.length_nil]; omega
      refine ⟨(k + 1, v7, f7), ⟨rfl, i64_eq (by show w64 ((k : Int) + 1) = ((k + 1 : Nat) : Int); unfold w64; omega)⟩, ⟨hk2, ?_⟩, by show l.length - (k + 1) < l.length - k; omega⟩
      show Sep _ _ _ [Ck.own _ f7 [v7] ((l.take (k + 1)).filter (dueP now))]
      rw [filt_take hk2 (by unfold dueP; exact decide_eq_true hge)]; exact H
    · refine vh fun hge => ?_
      refine ⟨(k + 1, v', fp), ⟨rfl, i64_eq (by show w64 ((k : Int) + 1) = ((k + 1 : Nat) : Int); unfold w64; omega)⟩, ⟨hk2, ?_⟩, by show l.length - (k + 1) < l.length - k; omega⟩
      show Sep _ _ _ [Ck.own _ fp [v'] ((l.take (k + 1)).filter (dueP now))]
      rw [filt_skip hk2 (by unfold dueP; exact decide_eq_false hge)]; exact H
  · refine vh fun hlt => ?_
    obtain rfl : k = l.length := by omega
    rw [List.take_length] at H; exact ⟨_, H⟩
theorem sm_erase {q : List MItem} (hs : smItemS q) (i : Nat) : smItemS (q.eraseIdx i) :=
  ⟨Nat.le_trans (List.length_eraseIdx_le ..) hs.1, fun y hy => hs.2 y (List.mem_of_mem_eraseIdx hy)⟩
theorem implTake_ok (w : World) (v : Value) (q : List MItem) (r : List UInt8) (h : items.rd w w.heap.size [v] q) (hs : smItemS q) :
    ACalls Tryz.prog 81 #[v, .string ⟨r.toArray⟩] w fun z w' => ∃ cs f1 v' f2, z = .tuple #[.agg cs.toArray, v', .bool (takeQ q r).2.2] ∧ Sep w.heap.size w w' [Ck.own items f2 [v'] (takeQ q r).2.1, Ck.own kItem f1 cs (takeQ q r).1] := by
  have hlm := sl_len h; have hs0 := hs.1; have h9 := h; have H := Sep.start w; refine body_of follows Tryz.func81 rfl rfl _ rfl (by kernel_rfl) (vs ?_); refine x_bx H [.string ⟨r.toArray⟩] fun g1 w1 H => vs ?_; refine x_al H st45 fun g2 w2 H => vs ?_; refine x_callf H (cloneItems_ok w2 v q (H.rd h) hs) fun r3 f3 w3 H => vs ?_; have hg := H.lt (.tail _ (.tail _ (.head _))); have c0 := H.cell (.tail _ (.tail _ (.head _))) 0; refine x_call (indexFuncI_ok w3 v q (hasR r) 113 #[] #[.pointer (some ⟨g1, 0, none⟩)] (H.rd h9) en113 (fun w' es y hb hr => implTake1_ok w' es g1 y r hr ((hb.cell (p := ⟨g1, 0, none⟩) hg).trans c0))) fun _ w4 ⟨hr, hb⟩ => ?_; have H := H.go hb
  rcases hr with ⟨k, hk, rfl, hp, hno⟩ | ⟨rfl, hno⟩
  · have et := takeQ_some hk (takeAt_some hk hp hno)
    rw [et]; refine ve (show ¬ (k : Int) < 0 by omega) ?_; obtain ⟨A, c, rfl, hc1, hc2, ha⟩ := sl_open h; refine x_ele H sl24 rfl k hk ha rfl fun ad es hb hr hc => vs ?_; refine x_lds st45 hc (Kd.len _ hr) (vs ?_); refine x_call (cloneItem_ok w4 _ q[k] (H.rd hr) (hs.2 _ (List.getElem_mem hk))) fun _ w5 ⟨cs5, f5, e, S⟩ => ?_; subst e; have H := H.join S; simp only [List.cons_append, List.nil_append] at H; have hone := Kd.one _ (H.own (.head _)); refine ve (show w64 ((k : Int) + 1) = ((k + 1 : Nat) : Int) by unfold w64; omega) ?_; have H := H.front (c := Ck.own items f3 [r3] q); refine x_call (deleteI_ok k H hk hs.1) fun r6 w6 ⟨f6, H⟩ => ?_; refine vs ?_; obtain ⟨u5, e5, _⟩ := kItem_open (H.own (.tail _ (.head _))); subst e5; refine x_sta H st45 (h1 := hone) fun w7 H => vs ?_; exact ⟨_, _, rfl, res_cell H st45, _, _, _, _, rfl, H.two .here .here⟩
  · have et := takeQ_none (takeAt_none hno)
    rw [et]; refine ve (show (-1 : Int) < 0 by decide) ?_; refine x_build bl45 [.string ⟨#[]⟩, .int .i64 0, .int .i64 0, .slice none 0 0] ?_; refine vs ?_; have H := H.nothing (kItem_zero w4); refine x_sta H st45 (h1 := Kd.one _ (H.own (.head _))) fun w7 H => vs ?_; exact ⟨_, _, rfl, res_cell H st45, _, _, _, _, rfl, H.two (.there .here) .here⟩
theorem specTake_ok (w : World) (v : Value) (q : List MItem) (r : List UInt8) (h : items.rd w w.heap.size [v] q) (hs : smItemS q) :
    ACalls Tryz.prog 127 #[v, .string ⟨r.toArray⟩] w fun z w' => ∃ cs f1 v' f2, z = .tuple #[.agg cs.toArray, v', .bool (takeQ q r).2.2] ∧ Sep w.heap.size w w' [Ck.own items f2 [v'] (takeQ q r).2.1, Ck.own kItem f1 cs (takeQ q r).1] := by
  have hlm := sl_len h; have hs0 := hs.1; have h9 := h; obtain ⟨A, c, rfl, hc1, hc2, ha⟩ := sl_open h; have H := Sep.start w; refine body_of follows Tryz.func127 rfl rfl _ rfl (by kernel_rfl) (vs ?_); refine x_al H st45 fun g2 w2 H => vs ?_
  refine loop_at (σ := Nat) (fun k => [(0, .slice A q.length c), (1, .string ⟨r.toArray⟩), (4, .pointer (some ⟨g2, 0, none⟩)), (7, .int .i64 (k : Int))])
    (fun k w' => k ≤ q.length ∧ (∀ i (hi : i < q.length), i < k → hasR r q[i] = false) ∧ Sep w.heap.size w w' [Ck.box g2 [.string ⟨#[]⟩, .int .i64 0, .int .i64 0, .slice none 0 0] 45]) (fun k => q.length - k) 0 (vs trivial) ⟨Nat.zero_le _, fun i hi h => absurd h (Nat.not_lt_zero i), H⟩ ?_
  rintro k s w3 ⟨hk, hno, H⟩; refine vs (ways ?_ ?_)
  · refine vh fun hlt => ?_
    have hk2 : k < q.length := by omega
    refine x_ele H sl24 rfl k hk2 ha rfl fun ad es hb hr hc => vs ?_; obtain ⟨u, rfl, _, _, _, _⟩ := kItem_open hr; refine x_lf0 sc9 hc (by decide) rfl ?_; refine vs (ways ?_ ?_)
    · refine vh fun he => ?_
      have et := takeQ_some hk2 (takeAt_some hk2 (by unfold hasR; exact decide_eq_true he) hno); rw [et]; have hs1 : smItemS (q.take k) := ⟨by rw [List.length_take]; omega, fun y hy => hs.2 y (List.mem_of_mem_take hy)⟩; have hs2 : smItemS (q.drop (k + 1)) := ⟨by rw [List.length_drop]; omega, fun y hy => hs.2 y (List.mem_of_mem_drop hy)⟩; refine draw_of [(0, true), (1, true), (2, true), (4, true), (5, true), (6, true), (7, true), (3, false), (8, false), (9, false), (10, true)] w.heap.size [] fun w4 hh hb4 => vs ?_; have H := H.go (hb4 _); have H3 := H; refine q_to sl24 rfl h9 (hi := k) (by omega) fun v5 hv5 => vs ?_; refine ve (show w64 ((k : Int) + 1) = ((k + 1 : Nat) : Int) by unfold w64; omega) ?_; refine q_from sl24 rfl h9 (lo := k + 1) (by omega) fun v6 hv6 => vs ?_; refine x_callf H (l13Queue_ok w4 v5 _ (H.rd hv5) hs1) fun r5 f5 w5 H => vs ?_; refine ⟨kept_base H3 H, ?_⟩; refine x_callf H (l13Queue_ok w5 v6 _ (H.rd hv6) hs2) fun r6 f6 w6 H => vs ?_; refine ⟨kept_base H3 H, ?_⟩; refine x_appO sl24 H rfl ?_ ?_ fun f7 v7 w7 H => vs ?_
      · simp only [List.length_take, List.length_drop]; omega
      · simp only [List.length_take, List.length_drop]; omega
      refine ⟨kept_base H3 H, ?_⟩; refine x_ele H sl24 rfl k hk2 ha rfl fun ad es hb hr hc => vs ?_; refine x_lds st45 hc (Kd.len _ hr) (vs ?_); refine x_call (l13Item_ok w7 _ q[k] (H.rd hr) (hs.2 _ (List.getElem_mem hk2))) fun _ w8 ⟨cs5, f5, e, S⟩ => ?_; subst e; have H := H.join S; simp only [List.cons_append, List.nil_append] at H; have hone := Kd.one _ (H.own (.head _)); obtain ⟨u5, e5, _⟩ := kItem_open (H.own (.head _)); subst e5; refine vs ?_; refine x_sta H st45 (h1 := hone) fun w9 H => vs ?_; rw [← List.eraseIdx_eq_take_drop_succ] at H; exact ⟨_, _, rfl, res_cell H st45, _, _, _, _, rfl, H.two (.there .here) .here⟩
    · refine vh fun he => ?_
      refine ⟨k + 1, i64_eq (by unfold w64; omega), ⟨hk2, fun i hi h => ?_, H⟩, by omega⟩
      by_cases h2 : i = k
      · subst h2; unfold hasR; exact decide_eq_false he
      · exact hno i hi (by omega)
  · refine vh fun hlt => ?_
    have et := takeQ_none (takeAt_none (r := r) fun j hj => hno j hj (by omega)); rw [et]; refine x_build bl45 [.string ⟨#[]⟩, .int .i64 0, .int .i64 0, .slice none 0 0] ?_; refine vs ?_; refine x_callf H (l13Queue_ok w3 _ q (H.rd h9) hs) fun r5 f5 w5 H => vs ?_; have H := H.nothing (kItem_zero w5); refine x_sta H st45 (h1 := Kd.one _ (H.own (.head _))) fun w7 H => vs ?_; exact ⟨_, _, rfl, res_cell H st45, _, _, _, _, rfl, H.two (.there .here) .here⟩
theorem implSameItems1_ok (w : World) (cs ds : List Value) (x y : MItem) (h : kItem.rd w w.heap.size cs x) (h' : kItem.rd w w.heap.size ds y) :
    ACalls Tryz.prog 84 #[.agg cs.toArray, .agg ds.toArray] w fun r w' => r = .bool (sameI x y) ∧ Below w.heap.size w w' := by
  obtain ⟨u, rfl, _, _, _, hb1⟩ := kItem_open h; obtain ⟨u', rfl, _, _, _, hb2⟩ := kItem_open h'; have H := Sep.start w; refine body_of follows Tryz.func84 rfl rfl _ rfl (by kernel_rfl) (vs ?_); refine x_bx H [.string ⟨(x.f_Route).toArray⟩, .int .i64 x.f_Topic, .int .i64 x.f_Due, u] fun g1 w1 H => vs ?_; refine x_bx H [.string ⟨(y.f_Route).toArray⟩, .int .i64 y.f_Topic, .int .i64 y.f_Due, u'] fun g2 w2 H => vs ?_; refine x_ld H sc9 ?_; refine vs ?_; refine x_ld H sc9 ?_
  by_cases hR : x.f_Route = y.f_Route
  · have eR : (x.f_Route = y.f_Route) = True := eq_true hR
    refine ve eR ?_; refine x_ld H sc3 ?_; refine ve eR ?_; refine x_ld H sc3 ?_
    by_cases hT : x.f_Topic = y.f_Topic
    · have eT : (x.f_Topic = y.f_Topic) = True := eq_true hT
      refine ve (And.intro eR eT) ?_; refine x_ld H sc3 ?_; refine ve (And.intro eR eT) ?_; refine x_ld H sc3 ?_
      by_cases hD : x.f_Due = y.f_Due
      · have eD : (x.f_Due = y.f_Due) = True := eq_true hD
        refine ve (And.intro eR (And.intro eT eD)) ?_; refine x_ld H sc22 ?_; refine ve (And.intro eR (And.intro eT eD)) ?_; refine x_ld H sc22 ?_; refine ve (And.intro eR (And.intro eT eD)) ?_; refine x_callw (implSame_ok w2 _ _ _ _ (H.rd hb1) (H.rd hb2)) ?_; refine ve (And.intro eR (And.intro eT eD)) ?_; have : sameI x y = decide (x.f_Bytes = y.f_Bytes) := by unfold sameI; rw [decide_eq_true hR, decide_eq_true hT, decide_eq_true hD]; rfl
        rw [this]; exact ⟨rfl, H.bel⟩
      · refine ve (And.intro eR (And.intro eT hD)) ?_
        have : sameI x y = false := by unfold sameI; rw [decide_eq_false hD]; simp
        rw [this]; exact ⟨rfl, H.bel⟩
    · refine ve (And.intro eR hT) ?_
      have : sameI x y = false := by unfold sameI; rw [decide_eq_false hT]; simp
      rw [this]; exact ⟨rfl, H.bel⟩
  · refine ve hR ?_
    have : sameI x y = false := by unfold sameI; rw [decide_eq_false hR]; rfl
    rw [this]; exact ⟨rfl, H.bel⟩
theorem implSameItems_ok (w : World) (v v' : Value) (a b : List MItem) (h : items.rd w w.heap.size [v] a) (h' : items.rd w w.heap.size [v'] b) :
    ACalls Tryz.prog 55 #[v, v'] w fun r w' => r = .bool (sameQ a b) ∧ Below w.heap.size w w' := by
  refine body_of follows Tryz.func55 rfl rfl _ rfl (by kernel_rfl) (vs ?_); refine x_callb (v := .bool (sameQ a b)) (Sep.start w) ?_ fun w1 H => vs ?_
  rotate_left
  · exact H.bel
  have hla := sl_len h; have hlb := sl_len h'; obtain ⟨A, c, rfl, hc1, hc2, ha⟩ := sl_open h; obtain ⟨B, c', rfl, hc1', hc2', hb⟩ := sl_open h'; refine body_of follows Tryz.func83 rfl rfl _ rfl (by kernel_rfl) (vs ?_)
  by_cases hl : (a.length : Int) = (b.length : Int)
  · have eL : ((a.length : Int) = (b.length : Int)) = True := eq_true hl
    refine ve eL ?_
    refine loop_at (σ := Nat) (fun k => [(1, .slice B b.length c'), (2, .func (.func 84) #[] #[]), (15, .slice A a.length c), (16, .int .i64 (a.length : Int)), (17, .int .i64 (k : Int))])
      (fun k w' => k ≤ a.length ∧ (∀ i (h1 : i < a.length) (h2 : i < b.length), i < k → sameI a[i] b[i] = true) ∧ Sep w.heap.size w w' []) (fun k => a.length - k) 0 (vs trivial) ⟨Nat.zero_le _, fun i h1 h2 h => absurd h (Nat.not_lt_zero i), Sep.start w⟩ ?_
    rintro k s w2 ⟨hk, hall, H⟩; refine vs (ways ?_ ?_)
    · refine vh fun hlt => ?_
      have hk2 : k < a.length := by omega
      have hk3 : k < b.length := by omega
      refine x_ele H sl24 rfl k hk2 ha rfl fun ad es hb1 hr hc => vs ?_; obtain ⟨u, rfl, _, _, _, _⟩ := kItem_open hr; refine x_lds st45 hc rfl (vs ?_); refine x_al H st45 fun g5 w3 H => vs ?_; refine x_sta H st45 (vs := [.string ⟨(a[k].f_Route).toArray⟩, .int .i64 a[k].f_Topic, .int .i64 a[k].f_Due, u]) (h1 := Kd.one _ hr) fun w4 H => vs ?_; refine x_ele H sl24 rfl k hk3 hb rfl fun ad es hb1 hr2 hc => vs ?_; obtain ⟨u2, rfl, _, _, _, _⟩ := kItem_open hr2; refine x_lds st45 hc rfl (vs ?_); refine x_al H st45 fun g6 w5 H => vs ?_; refine x_sta H st45 (vs := [.string ⟨(b[k].f_Route).toArray⟩, .int .i64 b[k].f_Topic, .int .i64 b[k].f_Due, u2]) (h1 := Kd.one _ hr2) fun w6 H => vs ?_; refine x_lda H st45 ?_; refine vs ?_; refine x_lda H st45 ?_; refine vs ?_; refine x_callv en84 (implSameItems1_ok w6 _ _ a[k] b[k] (H.rd hr) (H.rd hr2)) fun _ w7 ⟨e7, hb7⟩ => ?_; subst e7; have H := H.go hb7
      cases hsm : sameI a[k] b[k] with
      | true =>
        refine vs ?_; refine ⟨k + 1, i64_eq (by unfold w64; omega), ⟨hk2, fun i h1 h2 h => ?_, H.none⟩, by omega⟩
        by_cases h3 : i = k
        · subst h3; exact hsm
        · exact hall i h1 h2 (by omega)
      | false =>
        refine vs ?_; rw [sameQ_bad hk2 hk3 hsm]; exact ⟨rfl, H.bel⟩
    · refine vh fun hlt => ?_
      rw [sameQ_good (by omega) fun i h1 h2 => hall i h1 h2 (by omega)]; exact ⟨rfl, H.bel⟩
  · refine ve hl ?_
    rw [sameQ_len (by omega)]; exact ⟨rfl, Below.refl ..⟩
def QI (q : List MItem) : Prop := q.length ≤ 10 ∧ ∀ x ∈ q, itemOk x = true
theorem itemOk_sm {x : MItem} (h : itemOk x = true) : smItem x := by
  have h2 := itemOk_iff.1 h
  have h3 : x.f_Route.length = 16 := by
    have := h2.1; unfold isRoute at this; simp only [Bool.and_eq_true, decide_eq_true_eq] at this; exact this.2
  exact ⟨by omega, by have := h2.2.2.2; omega⟩
theorem QI.sm {q : List MItem} (h : QI q) : smItemS q := ⟨by have := h.1; omega, fun y hy => itemOk_sm (h.2 y hy)⟩
theorem QI_nil : QI [] := ⟨by simp, fun x hx => by simp at hx⟩
theorem QI_put {q : List MItem} {x : MItem} (h : QI q) : QI (put q x).1 := by
  unfold put
  split
  · rename_i hq
    exact ⟨(queueOk_iff.1 hq).1, queueOk_item hq⟩
  · exact h
theorem QI_take {q : List MItem} {r : List UInt8} (h : QI q) : QI (takeQ q r).2.1 := by
  unfold takeQ
  split
  · exact ⟨Nat.le_trans (List.length_eraseIdx_le ..) h.1, fun x hx => h.2 x (List.mem_of_mem_eraseIdx hx)⟩
  · exact h
theorem QI_due {q : List MItem} {n : Int} (h : QI q) : QI (due q n) :=
  ⟨Nat.le_trans (List.length_filter_le ..) h.1, fun x hx => h.2 x (List.mem_filter.1 hx).1⟩
theorem QI_step {q : List MItem} {n : Int} {l : MLine} (h : QI q) : QI (lineStep q n l).1 := by
  unfold lineStep
  split
  · exact QI_put h
  · split
    · exact QI_take h
    · split
      · split
        · exact QI_due h
        · exact h
      · exact h
theorem now_step {q : List MItem} {n : Int} {l : MLine} (hl : lineOk l = true) (h : 0 ≤ n ∧ n ≤ 100000) : 0 ≤ (lineStep q n l).2 ∧ (lineStep q n l).2 ≤ 100000 := by
  unfold lineStep
  split
  · exact h
  · split
    · exact h
    · split
      · split
        · exact lineOk_due hl
        · exact h
      · exact h
theorem lineOk_route {l : MLine} (h : lineOk l = true) : l.f_Route.length ≤ 16 := by
  have key : ∀ s, isRoute s = true → s.length = 16 := fun s hs => by
    unfold isRoute at hs; simp only [Bool.and_eq_true, decide_eq_true_eq] at hs; exact hs.2
  rcases lineOk_kind h with k | k | k
  · rw [lineOk_1 k] at h
    have := key _ (itemOk_iff.1 h).1; have e : (itemOf l).f_Route = l.f_Route := rfl; rw [e] at this; omega
  · rw [lineOk_2 k] at h
    simp only [Bool.and_eq_true] at h; have := key _ h.1.1.1; omega
  · rw [lineOk_3 k] at h
    simp only [Bool.and_eq_true, decide_eq_true_eq] at h; rw [h.1.1.2]; simp
theorem step_1 {q : List MItem} {n : Int} {l : MLine} (k : l.f_Kind = 1) : lineStep q n l = ((put q (itemOf l)).1, n) := by unfold lineStep; rw [if_pos k]
theorem step_2 {q : List MItem} {n : Int} {l : MLine} (k : l.f_Kind = 2) : lineStep q n l = ((takeQ q l.f_Route).2.1, n) := by unfold lineStep; rw [if_neg (by omega), if_pos k]
theorem step_3 {q : List MItem} {n : Int} {l : MLine} (k : l.f_Kind = 3) (h : n ≤ l.f_Due) : lineStep q n l = (due q l.f_Due, l.f_Due) := by unfold lineStep; rw [if_neg (by omega), if_neg (by omega), if_pos k, if_pos h]
theorem step_3n {q : List MItem} {n : Int} {l : MLine} (k : l.f_Kind = 3) (h : ¬ n ≤ l.f_Due) : lineStep q n l = (q, n) := by unfold lineStep; rw [if_neg (by omega), if_neg (by omega), if_pos k, if_neg h]
theorem itemOf_sm {l : MLine} (h : lineOk l = true) : smItem (itemOf l) := ⟨by have := lineOk_route h; show l.f_Route.length ≤ _; omega, by have := lineOk_bytes h; show l.f_Bytes.length ≤ _; omega⟩
theorem implPlay_ok (w : World) (v : Value) (b : List UInt8) (h : (bytes 5).rd w w.heap.size [v] b) (hl : b.length ≤ 1073741824) :
    ACalls Tryz.prog 54 #[v] w fun r w' => ∃ v' fp, r = .tuple #[v', .int .i64 (play b).2.1, .int .i64 ((play b).2.2 : Int)] ∧ Sep w.heap.size w w' [Ck.own items fp [v'] (play b).1] := by
  have H := Sep.start w; refine body_of follows Tryz.func54 rfl rfl _ rfl (by kernel_rfl) (vs ?_); refine x_empO (d := kItem) H sl24 fun g1 w1 H => vs ?_
  refine loop_at (σ := List MItem × Int × Nat × Value × List Nat) (fun x => [(0, v), (5, x.2.2.2.1), (6, .int .i64 x.2.1), (7, .int .i64 (x.2.2.1 : Int))])
    (fun x w' => x.2.2.1 ≤ b.length ∧ playGo (b.drop x.2.2.1) x.1 x.2.1 x.2.2.1 = play b ∧ QI x.1 ∧ (0 ≤ x.2.1 ∧ x.2.1 ≤ 100000) ∧ Sep w.heap.size w w' [Ck.own items x.2.2.2.2 [x.2.2.2.1] x.1])
    (fun x => b.length - x.2.2.1) ([], 0, 0, _, _) (vs trivial) ⟨Nat.zero_le _, rfl, QI_nil, ⟨Int.le_refl 0, by show (0 : Int) ≤ 100000; decide⟩, H⟩ ?_
  rintro ⟨q, now, k, v', fp⟩ s w2 ⟨hk, hgo, hq, hn, H⟩; dsimp only at hk hgo hq hn H; refine vs ?_; refine x_call (implLineOf_ok w2 v b k (H.rd h) hk hl) fun _ w3 R => ?_
  cases hla : lineAt (b.drop k) with
  | none =>
    unfold LineR at R; rw [lineOf_none hla] at R; obtain ⟨cs, fl, rfl, S⟩ := R; have H := H.join S; simp only [List.cons_append, List.nil_append] at H; obtain ⟨u, rfl, _⟩ := kLine_open (H.own (.head _)); refine vs ?_; refine x_al H st90 fun g4 w4 H => vs ?_; refine x_sta H st90 (h1 := Kd.one _ (H.own (.tail _ (.head _)))) fun w5 H => vs ?_; rw [← hgo, playGo_none hla]; exact ⟨_, _, rfl, H.only⟩
  | some ln =>
    obtain ⟨l, n⟩ := ln; obtain ⟨hn18, hnl, hok, hlb⟩ := lineAt_len hla; rw [List.length_drop] at hnl; unfold LineR at R; rw [lineOf_some hk hla] at R; obtain ⟨cs, fl, rfl, S⟩ := R; have H := H.join S; simp only [List.cons_append, List.nil_append] at H; rw [playGo_some hla, List.drop_drop] at hgo; have hqi := QI_step (n := now) (l := l) hq; have hns := now_step (q := q) hok hn; have hlo := H.own (.head _); have hone := Kd.one _ hlo; have hkn : k + n ≤ b.length := by omega
    have hrt := lineOk_route hok; have hby := lineOk_bytes hok; obtain ⟨u, rfl, z0, z1, z2, z3, z4⟩ := kLine_open hlo; refine vs ?_; refine x_al H st90 fun g4 w4 H => vs ?_; refine x_sta H st90 (h1 := hone) fun w5 H => vs ?_; have H : Sep w.heap.size w w5 (Ck.box g4 [.int .i64 l.f_Kind, .string ⟨(l.f_Route).toArray⟩, .int .i64 l.f_Topic, .int .i64 l.f_Due, u] 90 :: _) := H; have hlo := H.own (.tail _ (.head _)); refine x_ld H sc3 ?_
    by_cases k1 : l.f_Kind = 1
    · refine ve (eq_true k1) ?_
      refine x_lda H st90 ?_; refine vs ?_; refine x_call (itemOf_ok w5 _ l hlo (by omega)) fun _ w6 ⟨cs6, f6, e, S⟩ => ?_; subst e; have H := H.join S; simp only [List.cons_append, List.nil_append] at H; refine vs ?_; refine x_call (implPut_ok w6 v' q _ (itemOf l) (H.own (.tail _ (.tail _ (.tail _ (.head _))))) (H.own (.head _)) hq.sm (itemOf_sm hok) (by have := hq.1; omega)) fun _ w7 ⟨v7, f7, e, S⟩ => ?_; subst e; have H := H.join S; simp only [List.cons_append, List.nil_append] at H; refine vs ?_; rw [step_1 k1] at hgo hqi hns; exact ⟨((put q (itemOf l)).1, now, k + n, v7, f7), ⟨rfl, rfl, rfl⟩, ⟨hkn, hgo, hqi, hns, H.head⟩, by show b.length - (k + n) < b.length - k; omega⟩
    by_cases k2 : l.f_Kind = 2
    · refine ve (And.intro k1 (eq_true k2)) ?_
      refine x_ld H sc9 ?_; refine vs ?_; refine x_call (implTake_ok w5 v' q l.f_Route (H.own (.tail _ (.tail _ (.head _)))) hq.sm) fun _ w7 ⟨cs7, f1, v7, f7, e, S⟩ => ?_; subst e; have H := H.join S; simp only [List.cons_append, List.nil_append] at H; refine vs ?_; rw [step_2 k2] at hgo hqi hns; exact ⟨((takeQ q l.f_Route).2.1, now, k + n, v7, f7), ⟨rfl, rfl, rfl⟩, ⟨hkn, hgo, hqi, hns, H.head⟩, by show b.length - (k + n) < b.length - k; omega⟩
    have k3 : l.f_Kind = 3 := by rcases lineOk_kind hok with k | k | k <;> omega
    refine ve (And.intro k1 (And.intro k2 (eq_true k3))) ?_; refine x_ld H sc3 ?_
    by_cases hD : now ≤ l.f_Due
    · refine ve hD ?_
      refine x_ld H sc3 ?_; refine vs ?_; refine x_callf H (implDue_ok w5 v' q l.f_Due (H.own (.tail _ (.tail _ (.head _)))) hq.sm) fun v7 f7 w7 H => vs ?_; rw [step_3 k3 hD] at hgo hqi hns; exact ⟨(due q l.f_Due, l.f_Due, k + n, v7, f7), ⟨rfl, rfl, rfl⟩, ⟨hkn, hgo, hqi, hns, H.head⟩, by show b.length - (k + n) < b.length - k; omega⟩
    · refine ve hD ?_
      rw [step_3n k3 hD] at hgo hqi hns; exact ⟨(q, now, k + n, v', fp), ⟨rfl, rfl, rfl⟩, ⟨hkn, hgo, hqi, hns, H.only⟩, by show b.length - (k + n) < b.length - k; omega⟩
theorem l14Play_ok {n : Nat} {w0 w : World} {L : List Ck} {fp : List Nat} (v : Value) (q : List MItem) (now : Int) (cs : List Value) (l : MLine) (H : Sep n w0 w (Ck.own items fp [v] q :: L)) (h : kLine.rd w w.heap.size cs l) (hq : QI q) (hok : lineOk l = true) :
    ACalls Tryz.prog 102 #[v, .int .i64 now, .agg cs.toArray] w fun r w' => ∃ v' fp', r = .tuple #[v', .int .i64 (lineStep q now l).2] ∧ Sep n w0 w' (Ck.own items fp' [v'] (lineStep q now l).1 :: L) := by
  have hrt := lineOk_route hok; have hby := lineOk_bytes hok; have hone := Kd.one _ h; have h9 := h; obtain ⟨u, rfl, z0, z1, z2, z3, z4⟩ := kLine_open h; have hv := H.own (.head _); have J := Sep.start w; refine body_of follows Tryz.func102 rfl rfl _ rfl (by kernel_rfl) (vs ?_); refine x_bx J [.int .i64 l.f_Kind, .string ⟨(l.f_Route).toArray⟩, .int .i64 l.f_Topic, .int .i64 l.f_Due, u] fun g1 w1 J => vs ?_; refine x_ld J sc3 ?_
  by_cases k1 : l.f_Kind = 1
  · refine ve (eq_true k1) ?_
    refine x_lda J st90 ?_; refine vs ?_; refine x_call (l14Item_ok w1 _ l (J.rd h9) (by omega)) fun _ w6 ⟨cs6, f6, e, S⟩ => ?_; subst e; have J := J.join S; simp only [List.cons_append, List.nil_append] at J; refine vs ?_; refine x_call (specPut_ok w6 v q _ (itemOf l) (J.rd hv) (J.own (.head _)) hq.sm (itemOf_sm hok) (by have := hq.1; omega)) fun _ w7 ⟨v7, f7, e, S⟩ => ?_; subst e; have J := J.join S; simp only [List.cons_append, List.nil_append] at J; refine vs ?_; rw [step_1 k1]; exact ⟨_, _, rfl, (H.tail.join J.head)⟩
  by_cases k2 : l.f_Kind = 2
  · refine ve (And.intro k1 (eq_true k2)) ?_
    refine x_ld J sc9 ?_; refine vs ?_; refine x_call (specTake_ok w1 v q l.f_Route (J.rd hv) hq.sm) fun _ w7 ⟨cs7, f1, v7, f7, e, S⟩ => ?_; subst e; have J := J.join S; simp only [List.cons_append, List.nil_append] at J; refine vs ?_; rw [step_2 k2]; exact ⟨_, _, rfl, (H.tail.join J.head)⟩
  have k3 : l.f_Kind = 3 := by rcases lineOk_kind hok with k | k | k <;> omega
  refine ve (And.intro k1 (And.intro k2 (eq_true k3))) ?_; refine x_ld J sc3 ?_
  by_cases hD : now ≤ l.f_Due
  · refine ve hD ?_
    refine draw_of [(0, true), (1, true), (2, true), (4, true), (5, true), (3, false), (6, true), (7, true)] w1.heap.size [] fun w3 hh hb3 => vs ?_; have S := (Sep.start w1).go (hb3 _); have S3 := S; refine q_ldB J S3 sc3 ?_; refine vs ?_; refine q_ldB J S3 sc3 ?_; refine vs ?_; refine x_callf S (specDue_ok w3 v q l.f_Due (S.rd (J.rd hv)) hq.sm) fun v7 f7 w7 S => vs ?_; refine ⟨kept_base S3 S, ?_⟩; rw [step_3 k3 hD]; exact ⟨_, _, rfl, (H.tail.join (J.join S).head)⟩
  · refine ve hD ?_
    rw [step_3n k3 hD]; exact ⟨_, _, rfl, H.go J.bel⟩
theorem specPlay_ok (w : World) (v : Value) (b : List UInt8) (h : (bytes 5).rd w w.heap.size [v] b) (hl : b.length ≤ 1073741824) :
    ACalls Tryz.prog 72 #[v] w fun r w' => ∃ v' fp, r = .tuple #[v', .int .i64 (play b).2.1, .int .i64 ((play b).2.2 : Int)] ∧ Sep w.heap.size w w' [Ck.own items fp [v'] (play b).1] := by
  have H := Sep.start w; refine body_of follows Tryz.func72 rfl rfl _ rfl (by kernel_rfl) (vs ?_); refine x_empO (d := kItem) H sl24 fun g1 w1 H => vs ?_
  refine loop_at (σ := List MItem × Int × Nat × Value × List Nat) (fun x => [(0, v), (5, x.2.2.2.1), (6, .int .i64 x.2.1), (7, .int .i64 (x.2.2.1 : Int))])
    (fun x w' => x.2.2.1 ≤ b.length ∧ playGo (b.drop x.2.2.1) x.1 x.2.1 x.2.2.1 = play b ∧ QI x.1 ∧ (0 ≤ x.2.1 ∧ x.2.1 ≤ 100000) ∧ Sep w.heap.size w w' [Ck.own items x.2.2.2.2 [x.2.2.2.1] x.1])
    (fun x => b.length - x.2.2.1) ([], 0, 0, _, _) (vs trivial) ⟨Nat.zero_le _, rfl, QI_nil, ⟨Int.le_refl 0, by show (0 : Int) ≤ 100000; decide⟩, H⟩ ?_
  rintro ⟨q, now, k, v', fp⟩ s w2 ⟨hk, hgo, hq, hn, H⟩; dsimp only at hk hgo hq hn H; refine vs ?_; refine x_call (specLineOf_ok w2 v b k (H.rd h) hk hl) fun _ w3 R => ?_
  cases hla : lineAt (b.drop k) with
  | none =>
    unfold LineR at R; rw [lineOf_none hla] at R; obtain ⟨cs, fl, rfl, S⟩ := R; have H := H.join S; simp only [List.cons_append, List.nil_append] at H; obtain ⟨u, rfl, _⟩ := kLine_open (H.own (.head _)); refine vs ?_; refine x_al H st90 fun g4 w4 H => vs ?_; refine x_sta H st90 (h1 := Kd.one _ (H.own (.tail _ (.head _)))) fun w5 H => vs ?_; rw [← hgo, playGo_none hla]; exact ⟨_, _, rfl, H.only⟩
  | some ln =>
    obtain ⟨l, n⟩ := ln; obtain ⟨hn18, hnl, hok, hlb⟩ := lineAt_len hla; rw [List.length_drop] at hnl; unfold LineR at R; rw [lineOf_some hk hla] at R; obtain ⟨cs, fl, rfl, S⟩ := R; have H := H.join S; simp only [List.cons_append, List.nil_append] at H; rw [playGo_some hla, List.drop_drop] at hgo; have hqi := QI_step (n := now) (l := l) hq; have hns := now_step (q := q) hok hn; have hlo := H.own (.head _); have hone := Kd.one _ hlo; have hkn : k + n ≤ b.length := by omega
    obtain ⟨u, rfl, z0, z1, z2, z3, z4⟩ := kLine_open hlo; refine vs ?_; refine x_al H st90 fun g4 w4 H => vs ?_; refine x_sta H st90 (h1 := hone) fun w5 H => vs ?_; have H : Sep w.heap.size w w5 (Ck.box g4 [.int .i64 l.f_Kind, .string ⟨(l.f_Route).toArray⟩, .int .i64 l.f_Topic, .int .i64 l.f_Due, u] 90 :: _) := H; have hlo := H.own (.tail _ (.head _)); refine x_lda H st90 ?_; refine vs ?_; have H := H.front (c := Ck.own items fp [v'] q); refine x_call (l14Play_ok v' q now _ l H hlo hq hok) fun _ w6 ⟨v6, f6, e, H⟩ => ?_; subst e; refine vs ?_; exact ⟨((lineStep q now l).1, (lineStep q now l).2, k + n, v6, f6), ⟨rfl, rfl, rfl⟩, ⟨hkn, hgo, hqi, hns, H.head⟩, by show b.length - (k + n) < b.length - k; omega⟩
theorem specQueues_ok (w : World) (v v' : Value) (a b : List MItem) (h : items.rd w w.heap.size [v] a) (h' : items.rd w w.heap.size [v'] b) :
    ACalls Tryz.prog 73 #[v, v'] w fun r w' => r = .bool (sameQ a b) ∧ Below w.heap.size w w' := by
  have hla := sl_len h; have hlb := sl_len h'; obtain ⟨A, c, rfl, hc1, hc2, ha⟩ := sl_open h; obtain ⟨B, c', rfl, hc1', hc2', hb⟩ := sl_open h'; refine body_of follows Tryz.func73 rfl rfl _ rfl (by kernel_rfl) (vs ?_)
  refine loop_at (σ := Nat) (fun k => [(0, .slice A a.length c), (1, .slice B b.length c'), (5, .int .i64 (k : Int))])
    (fun k w' => k ≤ a.length ∧ k ≤ b.length ∧ (∀ i (h1 : i < a.length) (h2 : i < b.length), i < k → sameI a[i] b[i] = true) ∧ Sep w.heap.size w w' []) (fun k => a.length - k) 0 (vs trivial) ⟨Nat.zero_le _, Nat.zero_le _, fun i h1 h2 h => absurd h (Nat.not_lt_zero i), Sep.start w⟩ ?_
  rintro k s w2 ⟨hk, hkb, hall, H⟩
  have fin : ¬ (k < a.length ∧ k < b.length) → sameQ a b = decide ((a.length : Int) = (b.length : Int)) := fun hn => by
    by_cases hl : a.length = b.length
    · rw [sameQ_good hl fun i h1 h2 => hall i h1 h2 (by omega), decide_eq_true (by omega)]
    · rw [sameQ_len hl, decide_eq_false (by omega)]
  by_cases h1 : (k : Int) < (a.length : Int)
  rotate_left
  · refine ve h1 ?_
    rw [fin (by omega)]
    first | exact ⟨rfl, H.bel⟩ | exact H.bel
  by_cases h2 : (k : Int) < (b.length : Int)
  rotate_left
  · refine ve (And.intro h1 h2) ?_
    rw [fin (by omega)]
    first | exact ⟨rfl, H.bel⟩ | exact H.bel
  refine ve (And.intro h1 h2) ?_; have hka : k < a.length := by omega
  have hkb2 : k < b.length := by omega
  clear h1 h2 fin
  refine draw_of [(0, true), (1, true), (2, true), (3, true), (4, true), (5, true), (6, true), (7, true), (8, true), (9, true), (10, true), (11, true), (12, true), (13, true), (14, true), (15, true), (16, true), (17, true), (18, true), (19, true), (20, true), (21, true), (22, true), (23, true), (24, true), (25, true), (26, true), (27, true), (28, true), (29, true), (30, true), (31, true), (32, true), (33, true), (34, true), (35, true), (36, true), (37, true), (38, true), (39, true), (40, true), (41, true), (42, true), (43, true), (44, true), (45, true), (46, true), (47, true), (48, false), (49, true), (50, true)] w.heap.size [] fun w3 hh hb3 => vs ?_; have H := H.go (hb3 _); have H3 := H; refine q_ele H sl24 rfl k hka ha rfl fun ad es hb1 hr hc => vs ?_; obtain ⟨u1, rfl, _, _, _, _⟩ := kItem_open hr; refine q_lf0 sc9 hc (by decide) hb1 rfl ?_; refine vs ?_; refine q_ele H sl24 rfl k hkb2 hb rfl fun ad es hb1 hr hc => vs ?_; obtain ⟨u2, rfl, _, _, _, _⟩ := kItem_open hr; refine q_lf0 sc9 hc (by decide) hb1 rfl ?_
  by_cases hR : a[k].f_Route = b[k].f_Route
  rotate_left
  · refine ve hR ?_
    rw [sameQ_bad hka hkb2 (by unfold sameI; rw [decide_eq_false hR]; rfl)]
    first | exact ⟨kept_base H3 H, rfl, H.bel⟩ | exact ⟨rfl, H.bel⟩ | exact H.bel
  have eR : (a[k].f_Route = b[k].f_Route) = True := eq_true hR; refine ve eR ?_; refine q_ele H sl24 rfl k hka ha rfl fun ad es hb1 hr hc => ve eR ?_; obtain ⟨u1, rfl, _, _, _, _⟩ := kItem_open hr; refine q_lfj (j := 1) sc3 hc (by decide) hb1 rfl ?_; refine ve eR ?_; refine q_ele H sl24 rfl k hkb2 hb rfl fun ad es hb1 hr hc => ve eR ?_; obtain ⟨u2, rfl, _, _, _, _⟩ := kItem_open hr; refine q_lfj (j := 1) sc3 hc (by decide) hb1 rfl ?_
  by_cases hT : a[k].f_Topic = b[k].f_Topic
  rotate_left
  · refine ve (And.intro eR hT) ?_
    rw [sameQ_bad hka hkb2 (by unfold sameI; rw [decide_eq_false hT]; simp)]
    first | exact ⟨kept_base H3 H, rfl, H.bel⟩ | exact ⟨rfl, H.bel⟩ | exact H.bel
  have eT : (a[k].f_Topic = b[k].f_Topic) = True := eq_true hT; refine ve (And.intro eR eT) ?_; refine q_ele H sl24 rfl k hka ha rfl fun ad es hb1 hr hc => ve (And.intro eR eT) ?_; obtain ⟨u1, rfl, _, _, _, _⟩ := kItem_open hr; refine q_lfj (j := 2) sc3 hc (by decide) hb1 rfl ?_; refine ve (And.intro eR eT) ?_; refine q_ele H sl24 rfl k hkb2 hb rfl fun ad es hb1 hr hc => ve (And.intro eR eT) ?_; obtain ⟨u2, rfl, _, _, _, _⟩ := kItem_open hr; refine q_lfj (j := 2) sc3 hc (by decide) hb1 rfl ?_
  by_cases hD : a[k].f_Due = b[k].f_Due
  rotate_left
  · refine ve (And.intro eR (And.intro eT hD)) ?_
    rw [sameQ_bad hka hkb2 (by unfold sameI; rw [decide_eq_false hD]; simp)]
    first | exact ⟨kept_base H3 H, rfl, H.bel⟩ | exact ⟨rfl, H.bel⟩ | exact H.bel
  have eD : (a[k].f_Due = b[k].f_Due) = True := eq_true hD; refine ve (And.intro eR (And.intro eT eD)) ?_; refine q_ele H sl24 rfl k hka ha rfl fun ad es hb1 hr hc => ve (And.intro eR (And.intro eT eD)) ?_; obtain ⟨u1, rfl, _, _, _, hx1⟩ := kItem_open hr; refine q_lfj (j := 3) sc22 hc (by decide) hb1 rfl ?_; refine ve (And.intro eR (And.intro eT eD)) ?_; refine q_ele H sl24 rfl k hkb2 hb rfl fun ad es hb1 hr hc => ve (And.intro eR (And.intro eT eD)) ?_; obtain ⟨u2, rfl, _, _, _, hx2⟩ := kItem_open hr; refine q_lfj (j := 3) sc22 hc (by decide) hb1 rfl ?_; refine ve (And.intro eR (And.intro eT eD)) ?_; refine x_callw (specSame_ok w3 _ _ _ _ (H.rd hx1) (H.rd hx2)) ?_; refine ⟨kept_base H3 H, ?_⟩
  by_cases hB : a[k].f_Bytes = b[k].f_Bytes
  · refine ve (And.intro (And.intro eR (eq_true hB)) (And.intro eT eD)) ?_
    refine ⟨k + 1, i64_eq (by unfold w64; omega), ⟨hka, hkb2, fun i h1 h2 h => ?_, H⟩, by omega⟩
    by_cases h3 : i = k
    · subst h3; unfold sameI; rw [decide_eq_true hR, decide_eq_true hT, decide_eq_true hD, decide_eq_true hB]; rfl
    · exact hall i h1 h2 (by omega)
  · refine ve (And.intro (And.intro eR hB) (And.intro eT eD)) ?_
    rw [sameQ_bad hka hkb2 (by unfold sameI; rw [decide_eq_false hB]; simp)]
    first | exact ⟨kept_base H3 H, rfl, H.bel⟩ | exact ⟨rfl, H.bel⟩ | exact H.bel
theorem postOk_q {p : MPost} (h : queueOk p.f_Queue = false) : postOk p = false := by unfold postOk postFront; rw [h]; rfl
theorem postOk_f {p : MPost} (h : ¬ (queueOk p.f_Queue = true ∧ (0 ≤ p.f_Time ∧ p.f_Time ≤ 100000) ∧ p.f_Book.length ≤ 12000 ∧ (0 ≤ p.f_Sure ∧ p.f_Sure ≤ (p.f_Book.length : Int)))) : postOk p = false := by
  rw [Bool.eq_false_iff]; intro hp; exact h (postOk_iff.1 hp).1
theorem postOk_p {p : MPost} (h : ¬ play p.f_Book = (p.f_Queue, p.f_Time, p.f_Book.length)) : postOk p = false := by
  rw [Bool.eq_false_iff]; intro hp; exact h (postOk_iff.1 hp).2
theorem implPostOk_ok (w : World) (cs : List Value) (p : MPost) (h : kPost.rd w w.heap.size cs p) (hs : smPost p) :
    ACalls Tryz.prog 28 #[.agg cs.toArray] w fun r w' => r = .bool (postOk p) ∧ Below w.heap.size w w' := by
  unfold smPost at hs; obtain ⟨v0, v2, rfl, h0, h1, h2, h3⟩ := kPost_open h; have h2' := h2; obtain ⟨A2, c2, rfl, _, _, _⟩ := sl_open h2; have H := Sep.start w; refine body_of follows Tryz.func28 rfl rfl _ rfl (by kernel_rfl) (vs ?_); refine x_bx H [v0, .int .i64 p.f_Time, .slice A2 p.f_Book.length c2, .int .i64 p.f_Sure] fun g1 w1 H => vs ?_; refine x_ld H sc24 ?_; refine vs ?_; refine x_callb H (implQueueOk_ok w1 v0 _ (H.rd h0) hs.1) fun w2 H => ?_
  cases hq : queueOk p.f_Queue with
  | false =>
    refine vs ?_; rw [postOk_q hq]
    first | exact ⟨rfl, H.bel⟩ | exact H.bel
  | true =>
    refine vs ?_; refine x_ld H sc3 ?_; refine vs ?_; refine x_callw (in_ok w2 _ _ _) ?_
    by_cases hT : 0 ≤ p.f_Time ∧ p.f_Time ≤ 100000
    rotate_left
    · refine ve hT ?_
      rw [postOk_f fun hh => hT hh.2.1]
      first | exact ⟨rfl, H.bel⟩ | exact H.bel
    refine ve hT ?_; refine x_ld H sc22 ?_
    by_cases hB : (12000 : Int) < (p.f_Book.length : Int)
    · refine ve (And.intro hT hB) ?_
      rw [postOk_f fun hh => by have := hh.2.2.1; omega]
      first | exact ⟨rfl, H.bel⟩ | exact H.bel
    refine ve (And.intro hT hB) ?_; refine x_ld H sc3 ?_; refine ve (And.intro hT hB) ?_; refine x_ld H sc22 ?_; refine ve (And.intro hT hB) ?_; refine x_callw (in_ok w2 _ _ _) ?_
    by_cases hS : 0 ≤ p.f_Sure ∧ p.f_Sure ≤ (p.f_Book.length : Int)
    rotate_left
    · refine ve (And.intro hS (And.intro hT hB)) ?_
      rw [postOk_f fun hh => hS hh.2.2.2]
      first | exact ⟨rfl, H.bel⟩ | exact H.bel
    refine ve (And.intro hS (And.intro hT hB)) ?_; refine x_ld H sc22 ?_; refine vs ?_; refine x_call (implPlay_ok w2 _ _ (H.rd h2') (by omega)) fun _ w3 ⟨v', fp, e, S⟩ => ?_; subst e; have H := H.join S; simp only [List.cons_append, List.nil_append] at H; refine vs ?_; refine x_ld H sc22 ?_
    by_cases hU : ((play p.f_Book).2.2 : Int) = (p.f_Book.length : Int)
    rotate_left
    · refine ve hU ?_
      rw [postOk_p fun hh => hU (by rw [hh])]
      first | exact ⟨rfl, H.bel⟩ | exact H.bel
    have eU : (((play p.f_Book).2.2 : Int) = (p.f_Book.length : Int)) = True := eq_true hU; refine ve eU ?_; refine x_ld H sc3 ?_
    by_cases hN : (play p.f_Book).2.1 = p.f_Time
    rotate_left
    · refine ve (And.intro eU hN) ?_
      rw [postOk_p fun hh => hN (by rw [hh])]
      first | exact ⟨rfl, H.bel⟩ | exact H.bel
    have eN : ((play p.f_Book).2.1 = p.f_Time) = True := eq_true hN; refine ve (And.intro eU eN) ?_; refine x_ld H sc24 ?_; refine ve (And.intro eU eN) ?_; refine x_callb H (implSameItems_ok w3 _ _ _ _ (H.own (.head _)) (H.rd h0)) fun w4 H => ?_; refine ve (And.intro eU eN) ?_
    have hf : postFront p = true := by
      unfold postFront; rw [hq, decide_eq_true hT, decide_eq_true hS, decide_eq_true (show p.f_Book.length ≤ 12000 by omega)]; rfl
    have e9 : postOk p = sameQ (play p.f_Book).1 p.f_Queue := by
      unfold postOk; rw [hf, decide_eq_true (show (play p.f_Book).2.2 = p.f_Book.length by omega), decide_eq_true hN]; rfl
    rw [e9]
    first | exact ⟨rfl, H.bel⟩ | exact H.bel
theorem specPostOk_ok (w : World) (cs : List Value) (p : MPost) (h : kPost.rd w w.heap.size cs p) (hs : smPost p) :
    ACalls Tryz.prog 48 #[.agg cs.toArray] w fun r w' => r = .bool (postOk p) ∧ Below w.heap.size w w' := by
  unfold smPost at hs; obtain ⟨v0, v2, rfl, h0, h1, h2, h3⟩ := kPost_open h; have h2' := h2; obtain ⟨A2, c2, rfl, _, _, _⟩ := sl_open h2; have H := Sep.start w; refine body_of follows Tryz.func48 rfl rfl _ rfl (by kernel_rfl) (vs ?_); refine x_bx H [v0, .int .i64 p.f_Time, .slice A2 p.f_Book.length c2, .int .i64 p.f_Sure] fun g1 w1 H => vs ?_; refine x_ld H sc24 ?_; refine vs ?_; refine x_callb H (specQueueOk_ok w1 v0 _ (H.rd h0) hs.1) fun w2 H => ?_
  cases hq : queueOk p.f_Queue with
  | false =>
    refine vs ?_; rw [postOk_q hq]
    first | exact ⟨rfl, H.bel⟩ | exact H.bel
  | true =>
    refine vs ?_; refine x_ld H sc3 ?_; refine vs ?_; refine x_callw (l1In_ok w2 _ _ _) ?_
    by_cases hT : 0 ≤ p.f_Time ∧ p.f_Time ≤ 100000
    rotate_left
    · refine ve hT ?_
      rw [postOk_f fun hh => hT hh.2.1]
      first | exact ⟨rfl, H.bel⟩ | exact H.bel
    refine ve hT ?_; refine x_ld H sc22 ?_
    by_cases hB : (12000 : Int) < (p.f_Book.length : Int)
    · refine ve (And.intro hT hB) ?_
      rw [postOk_f fun hh => by have := hh.2.2.1; omega]
      first | exact ⟨rfl, H.bel⟩ | exact H.bel
    refine ve (And.intro hT hB) ?_; refine x_ld H sc3 ?_; refine ve (And.intro hT hB) ?_; refine x_ld H sc22 ?_; refine ve (And.intro hT hB) ?_; refine x_callw (l1In_ok w2 _ _ _) ?_
    by_cases hS : 0 ≤ p.f_Sure ∧ p.f_Sure ≤ (p.f_Book.length : Int)
    rotate_left
    · refine ve (And.intro hS (And.intro hT hB)) ?_
      rw [postOk_f fun hh => hS hh.2.2.2]
      first | exact ⟨rfl, H.bel⟩ | exact H.bel
    refine ve (And.intro hS (And.intro hT hB)) ?_; refine x_ld H sc22 ?_; refine vs ?_; refine x_call (specPlay_ok w2 _ _ (H.rd h2') (by omega)) fun _ w3 ⟨v', fp, e, S⟩ => ?_; subst e; have H := H.join S; simp only [List.cons_append, List.nil_append] at H; refine vs ?_; refine x_ld H sc22 ?_
    by_cases hU : ((play p.f_Book).2.2 : Int) = (p.f_Book.length : Int)
    rotate_left
    · refine ve hU ?_
      rw [postOk_p fun hh => hU (by rw [hh])]
      first | exact ⟨rfl, H.bel⟩ | exact H.bel
    have eU : (((play p.f_Book).2.2 : Int) = (p.f_Book.length : Int)) = True := eq_true hU; refine ve eU ?_; refine x_ld H sc3 ?_
    by_cases hN : (play p.f_Book).2.1 = p.f_Time
    rotate_left
    · refine ve (And.intro eU hN) ?_
      rw [postOk_p fun hh => hN (by rw [hh])]
      first | exact ⟨rfl, H.bel⟩ | exact H.bel
    have eN : ((play p.f_Book).2.1 = p.f_Time) = True := eq_true hN; refine ve (And.intro eU eN) ?_; refine x_ld H sc24 ?_; refine ve (And.intro eU eN) ?_; refine x_callb H (specQueues_ok w3 _ _ _ _ (H.own (.head _)) (H.rd h0)) fun w4 H => ?_; refine ve (And.intro eU eN) ?_
    have hf : postFront p = true := by
      unfold postFront; rw [hq, decide_eq_true hT, decide_eq_true hS, decide_eq_true (show p.f_Book.length ≤ 12000 by omega)]; rfl
    have e9 : postOk p = sameQ (play p.f_Book).1 p.f_Queue := by
      unfold postOk; rw [hf, decide_eq_true (show (play p.f_Book).2.2 = p.f_Book.length by omega), decide_eq_true hN]; rfl
    rw [e9]
    first | exact ⟨rfl, H.bel⟩ | exact H.bel
theorem postOk_len {p : MPost} (h : postOk p = true) : p.f_Queue.length ≤ 10 := (queueOk_iff.1 (postOk_iff.1 h).1.1).1
theorem one4 {a b : Value} {x y : Int} (ha : a.oneCell' = true) (hb : b.oneCell' = true) : ∀ v ∈ [a, .int .i64 x, b, .int .i64 y], v.oneCell' = true := by
  intro v hv; simp only [List.mem_cons, List.not_mem_nil, or_false] at hv
  rcases hv with rfl | rfl | rfl | rfl
  · exact ha
  · rfl
  · exact hb
  · rfl
theorem one1 {α : Type} {d : Kd α} {n : Nat} {w0 w : World} {L : List Ck} {fp : List Nat} {v : Value} {x : α} (H : Sep n w0 w L) (h : Ck.own d fp [v] x ∈ L) : v.oneCell' = true := Kd.one _ (H.own h) v (by simp)
def PostR (w : World) (p : MPost) (r : Value) (w' : World) : Prop := ∃ v0 f0 v2 f2, r = .agg #[v0, .int .i64 p.f_Time, v2, .int .i64 p.f_Sure] ∧ Sep w.heap.size w w' [Ck.own items f0 [v0] p.f_Queue, Ck.own (bytes 5) f2 [v2] p.f_Book]
theorem l15Copy_ok (w : World) (cs : List Value) (p : MPost) (h : kPost.rd w w.heap.size cs p) (hs : smPost p) :
    ACalls Tryz.prog 118 #[.agg cs.toArray] w fun r w' => PostR w p r w' := by
  unfold smPost at hs; obtain ⟨v0, v2, rfl, h0, h1, h2, h3⟩ := kPost_open h; have H := Sep.start w; refine body_of follows Tryz.func118 rfl rfl _ rfl (by kernel_rfl) (vs ?_); refine x_bx H [v0, .int .i64 p.f_Time, v2, .int .i64 p.f_Sure] fun g1 w1 H => vs ?_; have J := Sep.start w1; refine x_al J st26 fun g2 w2 J => vs ?_; refine fork_draw w1.heap.size [] fun w3 hh hb3 => ?_; have J := J.go (hb3 _); have J3 := J; refine rest_pre [(0, true), (1, true), (3, true), (4, true), (6, true), (7, true), (9, true), (10, true)] 5 ?_; refine vs ?_; refine q_ldB H J3 sc24 ?_; refine vs ?_; refine q_ldB H J3 sc3 ?_; refine vs ?_; refine q_ldB H J3 sc22 ?_; refine vs ?_; refine q_ldB H J3 sc3 ?_; refine vs ?_; refine rest_fork 2 5 4 ?_ ?_
  · refine vs ?_
    refine x_callf J (l13Queue_ok _ v0 _ (J.rd (H.rd h0)) hs.1) fun r0 f0 wa J => vs ?_; refine ⟨kept_base J3 J, ?_⟩; refine rest_end [(5, false), (8, false), (11, true), (12, false)] ?_; refine vs ?_; refine x_emp J pl_u8 sl22 fun gb wb J => vs ?_; refine ⟨kept_base J3 J, ?_⟩; refine x_app J pl_u8 sl22 (J.rd (H.rd h2)) ?_ ?_ fun f2 r2 wc J => vs ?_
    · simp only [List.length_nil]; omega
    · simp only [List.length_nil]; omega
    refine ⟨kept_base J3 J, ?_⟩; rw [List.nil_append] at J; obtain ⟨A0, c0, rfl, _⟩ := sl_open (J.om (fp := f0) (x := p.f_Queue)); obtain ⟨Ac, cc, rfl, _⟩ := sl_open (J.om (fp := f2) (x := p.f_Book)); refine q_bld bl26 [_, .int .i64 p.f_Time, _, .int .i64 p.f_Sure] ?_; refine vs ?_; have o0 := one1 (fp := f0) (x := p.f_Queue) J (by repeat (first | exact List.mem_cons_self | apply List.mem_cons_of_mem)); have o2 := one1 (fp := f2) (x := p.f_Book) J (by repeat (first | exact List.mem_cons_self | apply List.mem_cons_of_mem)); refine x_sta J st26 (vs := [.slice A0 p.f_Queue.length c0, .int .i64 p.f_Time, .slice Ac p.f_Book.length cc, .int .i64 p.f_Sure]) (h1 := one4 o0 o2) fun wd J => vs ?_; refine ⟨kept_base J3 J, ?_⟩; have H := H.join J; simp only [List.cons_append, List.nil_append] at H; exact ⟨_, _, rfl, res_cell H st26, _, _, _, _, rfl, H.two (by repeat (first | exact Out.here | apply Out.there)) (by repeat (first | exact Out.here | apply Out.there))⟩
  · refine vs ?_
    refine x_emp J pl_u8 sl22 fun gb wb J => vs ?_; refine ⟨kept_base J3 J, ?_⟩; refine rest_end [(2, false), (8, false), (11, true), (12, false)] ?_; refine vs ?_; refine x_callf J (l13Queue_ok _ v0 _ (J.rd (H.rd h0)) hs.1) fun r0 f0 wa J => vs ?_; refine ⟨kept_base J3 J, ?_⟩; refine x_app J pl_u8 sl22 (J.rd (H.rd h2)) ?_ ?_ fun f2 r2 wc J => vs ?_
    · simp only [List.length_nil]; omega
    · simp only [List.length_nil]; omega
    refine ⟨kept_base J3 J, ?_⟩; rw [List.nil_append] at J; obtain ⟨A0, c0, rfl, _⟩ := sl_open (J.om (fp := f0) (x := p.f_Queue)); obtain ⟨Ac, cc, rfl, _⟩ := sl_open (J.om (fp := f2) (x := p.f_Book)); refine q_bld bl26 [_, .int .i64 p.f_Time, _, .int .i64 p.f_Sure] ?_; refine vs ?_; have o0 := one1 (fp := f0) (x := p.f_Queue) J (by repeat (first | exact List.mem_cons_self | apply List.mem_cons_of_mem)); have o2 := one1 (fp := f2) (x := p.f_Book) J (by repeat (first | exact List.mem_cons_self | apply List.mem_cons_of_mem)); refine x_sta J st26 (vs := [.slice A0 p.f_Queue.length c0, .int .i64 p.f_Time, .slice Ac p.f_Book.length cc, .int .i64 p.f_Sure]) (h1 := one4 o0 o2) fun wd J => vs ?_; refine ⟨kept_base J3 J, ?_⟩; have H := H.join J; simp only [List.cons_append, List.nil_append] at H; exact ⟨_, _, rfl, res_cell H st26, _, _, _, _, rfl, H.two (by repeat (first | exact Out.here | apply Out.there)) (by repeat (first | exact Out.here | apply Out.there))⟩
theorem kLine_of {w : World} {n : Nat} {v4 : Value} (x : MLine) (h0 : -9223372036854775808 ≤ x.f_Kind ∧ x.f_Kind < 9223372036854775808) (h1 : x.f_Route.length ≤ 9223372036854775807) (h2 : -9223372036854775808 ≤ x.f_Topic ∧ x.f_Topic < 9223372036854775808) (h3 : -9223372036854775808 ≤ x.f_Due ∧ x.f_Due < 9223372036854775808) (h4 : (bytes 5).rd w n [v4] x.f_Bytes) :
    kLine.rd w n [.int .i64 x.f_Kind, .string ⟨x.f_Route.toArray⟩, .int .i64 x.f_Topic, .int .i64 x.f_Due, v4] x :=
  ⟨[_], _, rfl, ⟨rfl, h0⟩, [_], _, rfl, ⟨rfl, h1⟩, [_], _, rfl, ⟨rfl, h2⟩, [_], _, rfl, ⟨rfl, h3⟩, h4⟩
theorem l15Noted_ok {n : Nat} {w0 w : World} {L : List Ck} {f0 f2 : List Nat} {v0 v2 : Value} {q : List MItem} {bk : List UInt8} (t s : Int) (cs : List Value) (l : MLine) (H : Sep n w0 w (Ck.own items f0 [v0] q :: Ck.own (bytes 5) f2 [v2] bk :: L)) (h : kLine.rd w0 n cs l) (hR : l.f_Route.length ≤ 1048576) (hb : l.f_Bytes.length ≤ 1048576) (hbk : bk.length ≤ 1048576) :
    ACalls Tryz.prog 128 #[.agg #[v0, .int .i64 t, v2, .int .i64 s], .agg cs.toArray] w fun r w' => ∃ f' v', r = .tuple #[.agg #[v0, .int .i64 t, v', .int .i64 s], .bool (lineOk l && decide (bk.length + (lineBytes l).length ≤ 12000))] ∧ Sep n w0 w' (Ck.own items f0 [v0] q :: Ck.own (bytes 5) f' [v'] (bk ++ lineBytes l) :: L) := by
  have hone := Kd.one _ h; have h9 := h; obtain ⟨u, rfl, z0, z1, z2, z3, z4⟩ := kLine_open h; have hll := lineBytes_le l; have o0 := one1 H (.head _); have hfp : f2 = v2.ownBlock.toList := (pl_u8.slOw.1 (show (bytes 5).ow w f2 [v2] bk from H.ok _ (.tail _ (.head _)))).2.2; refine body_of follows Tryz.func128 rfl rfl _ rfl (by kernel_rfl) (vs ?_); refine x_bx H [v0, .int .i64 t, v2, .int .i64 s] fun g2 w1 H => vs ?_; refine x_bx H [.int .i64 l.f_Kind, .string ⟨(l.f_Route).toArray⟩, .int .i64 l.f_Topic, .int .i64 l.f_Due, u] fun g3 w2 H => vs ?_; refine x_al H st26 fun g4 w3 H => vs ?_; refine draw_zat [(0, true), (1, true), (2, true), (3, false), (4, false)] 5 [5, 6] (fpG f2) fun w4 hh hb4 => vs ?_; have H := H.go (hb4 _); refine q_ldG H sc22 (H.apartG (.there (.there (.there (.there .here)))) (.there (.there .here))) ?_; refine vs ?_; refine q_ldaG H st90 (H.apartG (.there (.there (.there (.there .here)))) (.there .here)) ?_; refine vs ?_; have S := Sep.start w4; refine x_callf S (specLineBytes_ok w4 _ l (H.rd h9) (by omega) (by omega)) fun rl fl w5 S => vs ?_; refine ⟨kept_baseG (Sep.start w4) S, ?_⟩; have H := H.join S; simp only [List.cons_append, List.nil_append] at H; refine x_appC H pl_u8 sl22 (H.own (.head _)) ?_ ?_ (fun f' v' w6 H hchg _ => vs ?_) (.there (.there (.there (.there (.there .here)))))
  · omega
  · omega
  refine ⟨kept_chg (kept_baseG (Sep.start w4) S) hchg (fun b hb => fpG_mem (by rw [hfp]; exact hb)) S.ns fpG_zero, ?_⟩; have o' := one1 (fp := f') (x := bk ++ lineBytes l) H (.tail _ (.tail _ (.tail _ (.tail _ (.tail _ (.head _)))))); refine dl_cons ⟨_, rfl, vs ?_⟩; refine dl_cons ⟨_, rfl, vs ?_⟩; refine x_st H sc22 (h1 := o') fun w7 H => ?_; refine dl_nil (vs ?_); have H := H.tail; have hn2 : g2 ≠ g4 := fun e => H.boxne (g := g4) (g' := g2) (h := .here) (h' := .there .here) e.symm; have hn3 : g3 ≠ g4 := fun e => H.boxne (g := g4) (g' := g3) (h := .here) (h' := .here) e.symm; have hol : (bk ++ lineBytes l).length = bk.length + (lineBytes l).length := List.length_append; obtain ⟨Av, cv, rfl, _⟩ := sl_open (H.own (fp := f') (x := bk ++ lineBytes l) (.tail _ (.tail _ (.tail _ (.tail _ (.head _)))))); refine draw_of [(0, true), (1, true), (2, false), (3, true), (4, true), (5, true), (6, true), (7, true), (8, true), (9, false), (10, true)] w7.heap.size [(g4, 0)] fun w8 hh hb8 => vs ?_; have H := H.go (hb8 _); have hw8 : w8.heap.size = w7.heap.size := by rw [hh]
  have hl2 : g2 < w7.heap.size := by rw [← hw8]; exact H.lt (.tail _ (.tail _ (.head _)))
  have hl3 : g3 < w7.heap.size := by rw [← hw8]; exact H.lt (.tail _ (.head _))
  have qa : ∀ k, (g2, k) ∉ [(g4, 0)] := fun k hk => by simp only [List.mem_singleton, Prod.mk.injEq] at hk; exact hn2 hk.1
  have qb : ∀ k, (g3, k) ∉ [(g4, 0)] := fun k hk => by simp only [List.mem_singleton, Prod.mk.injEq] at hk; exact hn3 hk.1
  refine qx_loadAgg st26 [v0, .int .i64 t, .slice Av (bk ++ lineBytes l).length cv, .int .i64 s] rfl (fun j v hj => by rw [Kd.add_plain, H.cell (.tail _ (.tail _ (.head _)))]; exact hj) hl2 qa ?_; refine vs ?_; refine qx_loadAgg st90 [.int .i64 l.f_Kind, .string ⟨(l.f_Route).toArray⟩, .int .i64 l.f_Topic, .int .i64 l.f_Due, u] rfl (fun j v hj => by rw [Kd.add_plain, H.cell (.tail _ (.head _))]; exact hj) hl3 qb ?_; refine vs ?_; have T := Sep.start w8; have c2 : w8.cell? ⟨g2, 2, none⟩ = some (.slice Av (bk ++ lineBytes l).length cv) := H.cell (.tail _ (.tail _ (.head _))) 2; refine x_callb T (specLineOk_ok w8 _ l (H.rd h9) (by omega) (by omega)) fun w9 T => ?_; have hk9 : Kept w7.heap.size [(g4, 0)] w8 w9 := by rw [← hw8]; exact kept_baseG (Sep.start w8) T
  have H := H.go T.bel; refine ⟨hk9, ?_⟩
  cases hok : lineOk l with
  | false =>
    refine vs ?_; refine x_staD H st26 (vs := [v0, .int .i64 t, .slice Av (bk ++ lineBytes l).length cv, .int .i64 s]) (fun w10 H hchg => vs ?_) (h1 := one4 o0 rfl); refine ⟨kept_chg hk9 hchg (fun b hb => by simp only [List.mem_singleton] at hb; subst hb; exact List.mem_singleton.2 rfl) (by rw [← hw8]; exact T.bel.size) (fun g t ht => by simp only [List.mem_singleton, Prod.mk.injEq] at ht; exact ht.2), ?_⟩; exact ⟨_, _, rfl, res_cell H st26, _, _, rfl, H.tail.tail.tail⟩
  | true =>
    refine vs ?_; refine qx_load sc22 (v := .slice Av (bk ++ lineBytes l).length cv) c2 hl2 qa ?_; refine vs ?_; refine x_staD H st26 (vs := [v0, .int .i64 t, .slice Av (bk ++ lineBytes l).length cv, .int .i64 s]) (fun w10 H hchg => vs ?_) (h1 := one4 o0 rfl); refine ⟨kept_chg hk9 hchg (fun b hb => by simp only [List.mem_singleton] at hb; subst hb; exact List.mem_singleton.2 rfl) (by rw [← hw8]; exact T.bel.size) (fun g t ht => by simp only [List.mem_singleton, Prod.mk.injEq] at ht; exact ht.2), ?_⟩; rw [hol]; have ed : decide (((bk.length + (lineBytes l).length : Nat) : Int) ≤ 12000) = decide (bk.length + (lineBytes l).length ≤ 12000) := decide_eq_decide.2 (by omega); rw [ed]; exact ⟨_, _, rfl, res_cell H st26, _, _, rfl, H.tail.tail.tail⟩
end Go.Proofs.YtcmckbgiiclomacGreat.V
