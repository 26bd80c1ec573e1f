/- Queues cleared of what is over, taken from, held against each other: both sides. -/
import Derived.Test.YtdljbekkckfmnaaGreatWqg
namespace Go.Proofs.YtdljbekkckfmnaaGreat.V
open Go Go.RowKit
set_option maxRecDepth 100000
set_option maxHeartbeats 4000000
set_option linter.unusedSimpArgs false
set_option linter.unusedVariables false
set_option pp.deepTerms false
set_option pp.deepTerms.threshold 3

theorem due_eq (q : List MItem) (now : Int) : (q.filter fun x => !decide (x.f_Due < now)) = due q now := by
  unfold due
  refine congrArg (fun f => List.filter f q) (funext fun x => ?_)
  unfold dueP
  by_cases h : x.f_Due < now
  · rw [decide_eq_true h, decide_eq_false (by omega)]; rfl
  · rw [decide_eq_false h, decide_eq_true (by omega)]; rfl
theorem implDue_ok (w : World) (v : Value) (q : List MItem) (now : Int) (h : items.rd w w.heap.size [v] q) (hs : smItemS q) :
    ACalls Tryz.prog 62 #[v, .int .i64 now] w fun r w' => ∃ fp, Sep w.heap.size w w' [Ck.own items fp [r] (due q now)] := by
  have H := Sep.start w
  refine body_of follows Tryz.func62 rfl rfl _ rfl (by kernel_rfl) (vs ?_)
  refine x_bx H [.int .i64 now] fun g1 w1 H => vs ?_
  refine x_callf H (cloneItems_ok w1 v q (H.rd h) hs) fun r2 f2 w2 H => vs ?_
  refine x_call (deleteFuncI_ok (fun x => decide (x.f_Due < now)) 117 #[] #[.pointer (some ⟨g1, 0, none⟩)] H hs.1 en117 (fun w' es y S hr => implDue1_ok w' es g1 y now hr (S.cell (.head _) 0))) fun r3 w3 ⟨f3, H⟩ => ?_
  refine vs ?_
  rw [due_eq] at H
  exact ⟨_, H.head⟩
theorem specDue_ok (w : World) (v : Value) (l : List MItem) (now : Int) (h : items.rd w w.heap.size [v] l) (hs : smItemS l) :
    ACalls Tryz.prog 83 #[v, .int .i64 now] w fun r w' => ∃ fp, Sep w.heap.size w w' [Ck.own items fp [r] (due l now)] := by
  have hlm := sl_len h
  have hs0 := hs.1
  obtain ⟨A, c, rfl, hc1, hc2, ha⟩ := sl_open h
  refine body_of follows Tryz.func83 rfl rfl _ rfl (by kernel_rfl) (vs ?_)
  refine x_empO (d := kItem) (Sep.start w) sl24 fun g w1 H => vs ?_
  refine loop_at (σ := Nat × Value × List Nat) (fun x => [(0, .slice A l.length c), (1, .int .i64 now), (5, x.2.1), (6, .int .i64 (x.1 : Int))])
    (fun x w' => x.1 ≤ l.length ∧ Sep w.heap.size w w' [Ck.own items x.2.2 [x.2.1] ((l.take x.1).filter (dueP now))]) (fun x => l.length - x.1) (0, _, _) (vs trivial) ⟨Nat.zero_le _, H⟩ ?_
  rintro ⟨k, v', fp⟩ s w2 ⟨hk, H⟩
  dsimp only at hk H
  refine vs (ways ?_ ?_)
  · refine vh fun hlt => ?_
    have hk2 : k < l.length := by omega
    have hsm := hs.2 l[k] (List.getElem_mem hk2)
    have hfl := filt_len l (dueP now) k
    refine x_ele H sl24 rfl k hk2 ha rfl fun ad es hb hr hc => vs ?_
    obtain ⟨u, rfl, _, _, _, _⟩ := kItem_open hr
    refine x_lfj (j := 2) sc3 hc (by decide) rfl ?_
    refine vs (ways ?_ ?_)
    · refine vh fun hge => ?_
      refine x_ele H sl24 rfl k hk2 ha rfl fun ad es hb hr hc => vs ?_
      refine x_lds st32 hc (Kd.len _ hr) (vs ?_)
      refine x_call (l13Item_ok w2 _ l[k] (H.rd hr) hsm) fun _ w5 ⟨cs5, f5, e, S⟩ => ?_
      subst e
      have H := H.join S
      simp only [List.cons_append, List.nil_append] at H
      refine vs ?_
      refine x_lst1 sl24 H rfl rfl fun f6 v6 w6 H => vs ?_
      refine x_appO sl24 H rfl ?_ ?_ fun f7 v7 w7 H => vs ?_
      · simp only [List.length_cons, List.length_nil]; omega
      · simp only [List.length_cons, List.length_nil]; omega
      refine ⟨(k + 1, v7, f7), ⟨rfl, i64_eq (by show w64 ((k : Int) + 1) = ((k + 1 : Nat) : Int); unfold w64; omega)⟩, ⟨hk2, ?_⟩, by show l.length - (k + 1) < l.length - k; omega⟩
      show Sep _ _ _ [Ck.own _ f7 [v7] ((l.take (k + 1)).filter (dueP now))]
      rw [filt_take hk2 (by unfold dueP; exact decide_eq_true hge)]
      exact H
    · refine vh fun hge => ?_
      refine ⟨(k + 1, v', fp), ⟨rfl, i64_eq (by show w64 ((k : Int) + 1) = ((k + 1 : Nat) : Int); unfold w64; omega)⟩, ⟨hk2, ?_⟩, by show l.length - (k + 1) < l.length - k; omega⟩
      show Sep _ _ _ [Ck.own _ fp [v'] ((l.take (k + 1)).filter (dueP now))]
      rw [filt_skip hk2 (by unfold dueP; exact decide_eq_false hge)]
      exact H
  · refine vh fun hlt => ?_
    obtain rfl : k = l.length := by omega
    rw [List.take_length] at H
    exact ⟨_, H⟩

/-! ### take -/
theorem sm_erase {q : List MItem} (hs : smItemS q) (i : Nat) : smItemS (q.eraseIdx i) :=
  ⟨Nat.le_trans (List.length_eraseIdx_le ..) hs.1, fun y hy => hs.2 y (List.mem_of_mem_eraseIdx hy)⟩
theorem implTake_ok (w : World) (v : Value) (q : List MItem) (r : List UInt8) (h : items.rd w w.heap.size [v] q) (hs : smItemS q) :
    ACalls Tryz.prog 60 #[v, .string ⟨r.toArray⟩] w fun z w' => ∃ cs f1 v' f2, z = .tuple #[.agg cs.toArray, v', .bool (takeQ q r).2.2] ∧ Sep w.heap.size w w' [Ck.own items f2 [v'] (takeQ q r).2.1, Ck.own kItem f1 cs (takeQ q r).1] := by
  have hlm := sl_len h
  have hs0 := hs.1
  have h9 := h
  have H := Sep.start w
  refine body_of follows Tryz.func60 rfl rfl _ rfl (by kernel_rfl) (vs ?_)
  refine x_bx H [.string ⟨r.toArray⟩] fun g1 w1 H => vs ?_
  refine x_al H st32 fun g2 w2 H => vs ?_
  refine x_callf H (cloneItems_ok w2 v q (H.rd h) hs) fun r3 f3 w3 H => vs ?_
  have hg := H.lt (.tail _ (.tail _ (.head _)))
  have c0 := H.cell (.tail _ (.tail _ (.head _))) 0
  refine x_call (indexFuncI_ok w3 v q (hasR r) 115 #[] #[.pointer (some ⟨g1, 0, none⟩)] (H.rd h9) en115 (fun w' es y hb hr => implTake1_ok w' es g1 y r hr ((hb.cell (p := ⟨g1, 0, none⟩) hg).trans c0))) fun _ w4 ⟨hr, hb⟩ => ?_
  have H := H.go hb
  rcases hr with ⟨k, hk, rfl, hp, hno⟩ | ⟨rfl, hno⟩
  · have et := takeQ_some hk (takeAt_some hk hp hno)
    rw [et]
    refine ve (show ¬ (k : Int) < 0 by omega) ?_
    obtain ⟨A, c, rfl, hc1, hc2, ha⟩ := sl_open h
    refine x_ele H sl24 rfl k hk ha rfl fun ad es hb hr hc => vs ?_
    refine x_lds st32 hc (Kd.len _ hr) (vs ?_)
    refine x_call (cloneItem_ok w4 _ q[k] (H.rd hr) (hs.2 _ (List.getElem_mem hk))) fun _ w5 ⟨cs5, f5, e, S⟩ => ?_
    subst e
    have H := H.join S
    simp only [List.cons_append, List.nil_append] at H
    have hone := Kd.one _ (H.own (.head _))
    refine ve (show w64 ((k : Int) + 1) = ((k + 1 : Nat) : Int) by unfold w64; omega) ?_
    have H := H.front (c := Ck.own items f3 [r3] q)
    refine x_call (deleteI_ok k H hk hs.1) fun r6 w6 ⟨f6, H⟩ => ?_
    refine vs ?_
    obtain ⟨u5, e5, _⟩ := kItem_open (H.own (.tail _ (.head _)))
    subst e5
    refine x_sta H st32 (h1 := hone) fun w7 H => vs ?_
    exact ⟨_, _, rfl, res_cell H st32, _, _, _, _, rfl, H.two .here .here⟩
  · have et := takeQ_none (takeAt_none hno)
    rw [et]
    refine ve (show (-1 : Int) < 0 by decide) ?_
    refine x_build bl32 [.string ⟨#[]⟩, .int .i64 0, .int .i64 0, .slice none 0 0] ?_
    refine vs ?_
    have H := H.nothing (kItem_zero w4)
    refine x_sta H st32 (h1 := Kd.one _ (H.own (.head _))) fun w7 H => vs ?_
    exact ⟨_, _, rfl, res_cell H st32, _, _, _, _, rfl, H.two (.there .here) .here⟩
theorem specTake_ok (w : World) (v : Value) (q : List MItem) (r : List UInt8) (h : items.rd w w.heap.size [v] q) (hs : smItemS q) :
    ACalls Tryz.prog 80 #[v, .string ⟨r.toArray⟩] w fun z w' => ∃ cs f1 v' f2, z = .tuple #[.agg cs.toArray, v', .bool (takeQ q r).2.2] ∧ Sep w.heap.size w w' [Ck.own items f2 [v'] (takeQ q r).2.1, Ck.own kItem f1 cs (takeQ q r).1] := by
  have hlm := sl_len h
  have hs0 := hs.1
  have h9 := h
  obtain ⟨A, c, rfl, hc1, hc2, ha⟩ := sl_open h
  have H := Sep.start w
  refine body_of follows Tryz.func80 rfl rfl _ rfl (by kernel_rfl) (vs ?_)
  refine x_al H st32 fun g2 w2 H => vs ?_
  refine loop_at (σ := Nat) (fun k => [(0, .slice A q.length c), (1, .string ⟨r.toArray⟩), (4, .pointer (some ⟨g2, 0, none⟩)), (7, .int .i64 (k : Int))])
    (fun k w' => k ≤ q.length ∧ (∀ i (hi : i < q.length), i < k → hasR r q[i] = false) ∧ Sep w.heap.size w w' [Ck.box g2 [.string ⟨#[]⟩, .int .i64 0, .int .i64 0, .slice none 0 0] 32]) (fun k => q.length - k) 0 (vs trivial) ⟨Nat.zero_le _, fun i hi h => absurd h (Nat.not_lt_zero i), H⟩ ?_
  rintro k s w3 ⟨hk, hno, H⟩
  refine vs (ways ?_ ?_)
  · refine vh fun hlt => ?_
    have hk2 : k < q.length := by omega
    refine x_ele H sl24 rfl k hk2 ha rfl fun ad es hb hr hc => vs ?_
    obtain ⟨u, rfl, _, _, _, _⟩ := kItem_open hr
    refine x_lf0 sc9 hc (by decide) rfl ?_
    refine vs (ways ?_ ?_)
    · refine vh fun he => ?_
      have et := takeQ_some hk2 (takeAt_some hk2 (by unfold hasR; exact decide_eq_true he) hno)
      rw [et]
      have hs1 : smItemS (q.take k) := ⟨by rw [List.length_take]; omega, fun y hy => hs.2 y (List.mem_of_mem_take hy)⟩
      have hs2 : smItemS (q.drop (k + 1)) := ⟨by rw [List.length_drop]; omega, fun y hy => hs.2 y (List.mem_of_mem_drop hy)⟩
      refine draw_of [(0, true), (1, true), (2, true), (4, true), (5, true), (6, true), (7, true), (3, false), (8, false), (9, false), (10, true)] w.heap.size [] fun w4 hh hb4 => vs ?_
      have H := H.go (hb4 _)
      have H3 := H
      refine q_to sl24 rfl h9 (hi := k) (by omega) fun v5 hv5 => vs ?_
      refine ve (show w64 ((k : Int) + 1) = ((k + 1 : Nat) : Int) by unfold w64; omega) ?_
      refine q_from sl24 rfl h9 (lo := k + 1) (by omega) fun v6 hv6 => vs ?_
      refine x_callf H (l13Queue_ok w4 v5 _ (H.rd hv5) hs1) fun r5 f5 w5 H => vs ?_
      refine ⟨kept_base H3 H, ?_⟩
      refine x_callf H (l13Queue_ok w5 v6 _ (H.rd hv6) hs2) fun r6 f6 w6 H => vs ?_
      refine ⟨kept_base H3 H, ?_⟩
      refine x_appO sl24 H rfl ?_ ?_ fun f7 v7 w7 H => vs ?_
      · simp only [List.length_take, List.length_drop]; omega
      · simp only [List.length_take, List.length_drop]; omega
      refine ⟨kept_base H3 H, ?_⟩
      refine x_ele H sl24 rfl k hk2 ha rfl fun ad es hb hr hc => vs ?_
      refine x_lds st32 hc (Kd.len _ hr) (vs ?_)
      refine x_call (l13Item_ok w7 _ q[k] (H.rd hr) (hs.2 _ (List.getElem_mem hk2))) fun _ w8 ⟨cs5, f5, e, S⟩ => ?_
      subst e
      have H := H.join S
      simp only [List.cons_append, List.nil_append] at H
      have hone := Kd.one _ (H.own (.head _))
      obtain ⟨u5, e5, _⟩ := kItem_open (H.own (.head _))
      subst e5
      refine vs ?_
      refine x_sta H st32 (h1 := hone) fun w9 H => vs ?_
      rw [← List.eraseIdx_eq_take_drop_succ] at H
      exact ⟨_, _, rfl, res_cell H st32, _, _, _, _, rfl, H.two (.there .here) .here⟩
    · refine vh fun he => ?_
      refine ⟨k + 1, i64_eq (by unfold w64; omega), ⟨hk2, fun i hi h => ?_, H⟩, by omega⟩
      by_cases h2 : i = k
      · subst h2; unfold hasR; exact decide_eq_false he
      · exact hno i hi (by omega)
  · refine vh fun hlt => ?_
    have et := takeQ_none (takeAt_none (r := r) fun j hj => hno j hj (by omega))
    rw [et]
    refine x_build bl32 [.string ⟨#[]⟩, .int .i64 0, .int .i64 0, .slice none 0 0] ?_
    refine vs ?_
    refine x_callf H (l13Queue_ok w3 _ q (H.rd h9) hs) fun r5 f5 w5 H => vs ?_
    have H := H.nothing (kItem_zero w5)
    refine x_sta H st32 (h1 := Kd.one _ (H.own (.head _))) fun w7 H => vs ?_
    exact ⟨_, _, rfl, res_cell H st32, _, _, _, _, rfl, H.two (.there .here) .here⟩

/-! ### alike -/
theorem implSameItems1_ok (w : World) (cs ds : List Value) (x y : MItem) (h : kItem.rd w w.heap.size cs x) (h' : kItem.rd w w.heap.size ds y) :
    ACalls Tryz.prog 129 #[.agg cs.toArray, .agg ds.toArray] w fun r w' => r = .bool (sameI x y) ∧ Below w.heap.size w w' := by
  obtain ⟨u, rfl, _, _, _, hb1⟩ := kItem_open h
  obtain ⟨u', rfl, _, _, _, hb2⟩ := kItem_open h'
  have H := Sep.start w
  refine body_of follows Tryz.func129 rfl rfl _ rfl (by kernel_rfl) (vs ?_)
  refine x_bx H [.string ⟨(x.f_Route).toArray⟩, .int .i64 x.f_Topic, .int .i64 x.f_Due, u] fun g1 w1 H => vs ?_
  refine x_bx H [.string ⟨(y.f_Route).toArray⟩, .int .i64 y.f_Topic, .int .i64 y.f_Due, u'] fun g2 w2 H => vs ?_
  refine x_ld H sc9 ?_
  refine vs ?_
  refine x_ld H sc9 ?_
  by_cases hR : x.f_Route = y.f_Route
  · have eR : (x.f_Route = y.f_Route) = True := eq_true hR
    refine ve eR ?_
    refine x_ld H sc3 ?_
    refine ve eR ?_
    refine x_ld H sc3 ?_
    by_cases hT : x.f_Topic = y.f_Topic
    · have eT : (x.f_Topic = y.f_Topic) = True := eq_true hT
      refine ve (And.intro eR eT) ?_
      refine x_ld H sc3 ?_
      refine ve (And.intro eR eT) ?_
      refine x_ld H sc3 ?_
      by_cases hD : x.f_Due = y.f_Due
      · have eD : (x.f_Due = y.f_Due) = True := eq_true hD
        refine ve (And.intro eR (And.intro eT eD)) ?_
        refine x_ld H sc22 ?_
        refine ve (And.intro eR (And.intro eT eD)) ?_
        refine x_ld H sc22 ?_
        refine ve (And.intro eR (And.intro eT eD)) ?_
        refine x_callw (implSame_ok w2 _ _ _ _ (H.rd hb1) (H.rd hb2)) ?_
        refine ve (And.intro eR (And.intro eT eD)) ?_
        have : sameI x y = decide (x.f_Bytes = y.f_Bytes) := by unfold sameI; rw [decide_eq_true hR, decide_eq_true hT, decide_eq_true hD]; rfl
        rw [this]
        exact ⟨rfl, H.bel⟩
      · refine ve (And.intro eR (And.intro eT hD)) ?_
        have : sameI x y = false := by unfold sameI; rw [decide_eq_false hD]; simp
        rw [this]
        exact ⟨rfl, H.bel⟩
    · refine ve (And.intro eR hT) ?_
      have : sameI x y = false := by unfold sameI; rw [decide_eq_false hT]; simp
      rw [this]
      exact ⟨rfl, H.bel⟩
  · refine ve hR ?_
    have : sameI x y = false := by unfold sameI; rw [decide_eq_false hR]; rfl
    rw [this]
    exact ⟨rfl, H.bel⟩
theorem implSameItems_ok (w : World) (v v' : Value) (a b : List MItem) (h : items.rd w w.heap.size [v] a) (h' : items.rd w w.heap.size [v'] b) :
    ACalls Tryz.prog 69 #[v, v'] w fun r w' => r = .bool (sameQ a b) ∧ Below w.heap.size w w' := by
  refine body_of follows Tryz.func69 rfl rfl _ rfl (by kernel_rfl) (vs ?_)
  refine x_callb (v := .bool (sameQ a b)) (Sep.start w) ?_ fun w1 H => vs ?_
  rotate_left
  · exact H.bel
  have hla := sl_len h
  have hlb := sl_len h'
  obtain ⟨A, c, rfl, hc1, hc2, ha⟩ := sl_open h
  obtain ⟨B, c', rfl, hc1', hc2', hb⟩ := sl_open h'
  refine body_of follows Tryz.func128 rfl rfl _ rfl (by kernel_rfl) (vs ?_)
  by_cases hl : (a.length : Int) = (b.length : Int)
  · have eL : ((a.length : Int) = (b.length : Int)) = True := eq_true hl
    refine ve eL ?_
    refine loop_at (σ := Nat) (fun k => [(1, .slice B b.length c'), (2, .func (.func 129) #[] #[]), (15, .slice A a.length c), (16, .int .i64 (a.length : Int)), (17, .int .i64 (k : Int))])
      (fun k w' => k ≤ a.length ∧ (∀ i (h1 : i < a.length) (h2 : i < b.length), i < k → sameI a[i] b[i] = true) ∧ Sep w.heap.size w w' []) (fun k => a.length - k) 0 (vs trivial) ⟨Nat.zero_le _, fun i h1 h2 h => absurd h (Nat.not_lt_zero i), Sep.start w⟩ ?_
    rintro k s w2 ⟨hk, hall, H⟩
    refine vs (ways ?_ ?_)
    · refine vh fun hlt => ?_
      have hk2 : k < a.length := by omega
      have hk3 : k < b.length := by omega
      refine x_ele H sl24 rfl k hk2 ha rfl fun ad es hb1 hr hc => vs ?_
      obtain ⟨u, rfl, _, _, _, _⟩ := kItem_open hr
      refine x_lds st32 hc rfl (vs ?_)
      refine x_al H st32 fun g5 w3 H => vs ?_
      refine x_sta H st32 (vs := [.string ⟨(a[k].f_Route).toArray⟩, .int .i64 a[k].f_Topic, .int .i64 a[k].f_Due, u]) (h1 := Kd.one _ hr) fun w4 H => vs ?_
      refine x_ele H sl24 rfl k hk3 hb rfl fun ad es hb1 hr2 hc => vs ?_
      obtain ⟨u2, rfl, _, _, _, _⟩ := kItem_open hr2
      refine x_lds st32 hc rfl (vs ?_)
      refine x_al H st32 fun g6 w5 H => vs ?_
      refine x_sta H st32 (vs := [.string ⟨(b[k].f_Route).toArray⟩, .int .i64 b[k].f_Topic, .int .i64 b[k].f_Due, u2]) (h1 := Kd.one _ hr2) fun w6 H => vs ?_
      refine x_lda H st32 ?_
      refine vs ?_
      refine x_lda H st32 ?_
      refine vs ?_
      refine x_callv en129 (implSameItems1_ok w6 _ _ a[k] b[k] (H.rd hr) (H.rd hr2)) fun _ w7 ⟨e7, hb7⟩ => ?_
      subst e7
      have H := H.go hb7
      cases hsm : sameI a[k] b[k] with
      | true =>
        refine vs ?_
        refine ⟨k + 1, i64_eq (by unfold w64; omega), ⟨hk2, fun i h1 h2 h => ?_, H.none⟩, by omega⟩
        by_cases h3 : i = k
        · subst h3; exact hsm
        · exact hall i h1 h2 (by omega)
      | false =>
        refine vs ?_
        rw [sameQ_bad hk2 hk3 hsm]
        exact ⟨rfl, H.bel⟩
    · refine vh fun hlt => ?_
      rw [sameQ_good (by omega) fun i h1 h2 => hall i h1 h2 (by omega)]
      exact ⟨rfl, H.bel⟩
  · refine ve hl ?_
    rw [sameQ_len (by omega)]
    exact ⟨rfl, Below.refl ..⟩
end Go.Proofs.YtdljbekkckfmnaaGreat.V
