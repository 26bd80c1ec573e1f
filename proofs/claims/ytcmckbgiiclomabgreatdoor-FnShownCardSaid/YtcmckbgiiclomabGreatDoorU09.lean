/- Texts laid by programs, part 9. -/
import Derived.Test.YtcmckbgiiclomabGreatDoorU08
namespace Go.Proofs.YtcmckbgiiclomabGreatDoor.V
open Go Go.RowKit
set_option maxRecDepth 100000
set_option maxHeartbeats 4000000
set_option linter.unusedSimpArgs false
set_option linter.unusedVariables false
set_option pp.deepTerms false
set_option pp.deepTerms.threshold 3
theorem specQueues_ok (w : World) (v v' : Value) (a b : List MItem) (h : items.rd w w.heap.size [v] a) (h' : items.rd w w.heap.size [v'] b) :
    ACalls Tryz.prog 86 #[v, v'] w fun r w' => r = .bool (sameQ a b) ∧ Below w.heap.size w w' := by
  have hla := sl_len h; have hlb := sl_len h'; obtain ⟨A, c, rfl, hc1, hc2, ha⟩ := sl_open h; obtain ⟨B, c', rfl, hc1', hc2', hb⟩ := sl_open h'; refine body_of follows Tryz.func86 rfl rfl _ rfl (by kernel_rfl) (vs ?_)
  refine loop_at (σ := Nat) (fun k => [(0, .slice A a.length c), (1, .slice B b.length c'), (5, .int .i64 (k : Int))])
    (fun k w' => k ≤ a.length ∧ k ≤ b.length ∧ (∀ i (h1 : i < a.length) (h2 : i < b.length), i < k → sameI a[i] b[i] = true) ∧ Sep w.heap.size w w' []) (fun k => a.length - k) 0 (vs trivial) ⟨Nat.zero_le _, Nat.zero_le _, fun i h1 h2 h => absurd h (Nat.not_lt_zero i), Sep.start w⟩ ?_
  rintro k s w2 ⟨hk, hkb, hall, H⟩
  have fin : ¬ (k < a.length ∧ k < b.length) → sameQ a b = decide ((a.length : Int) = (b.length : Int)) := fun hn => by
    by_cases hl : a.length = b.length
    · rw [sameQ_good hl fun i h1 h2 => hall i h1 h2 (by omega), decide_eq_true (by omega)]
    · rw [sameQ_len hl, decide_eq_false (by omega)]
  by_cases h1 : (k : Int) < (a.length : Int)
  rotate_left
  · refine ve h1 ?_
    rw [fin (by omega)]
    first | exact ⟨rfl, H.bel⟩ | exact H.bel
  by_cases h2 : (k : Int) < (b.length : Int)
  rotate_left
  · refine ve (And.intro h1 h2) ?_
    rw [fin (by omega)]
    first | exact ⟨rfl, H.bel⟩ | exact H.bel
  refine ve (And.intro h1 h2) ?_; have hka : k < a.length := by omega
  have hkb2 : k < b.length := by omega
  clear h1 h2 fin
  refine draw_of [(0, true), (1, true), (2, true), (3, true), (4, true), (5, true), (6, true), (7, true), (8, true), (9, true), (10, true), (11, true), (12, true), (13, true), (14, true), (15, true), (16, true), (17, true), (18, true), (19, true), (20, true), (21, true), (22, true), (23, true), (24, true), (25, true), (26, true), (27, true), (28, true), (29, true), (30, true), (31, true), (32, true), (33, true), (34, true), (35, true), (36, true), (37, true), (38, true), (39, true), (40, true), (41, true), (42, true), (43, true), (44, true), (45, true), (46, true), (47, true), (48, false), (49, true), (50, true)] w.heap.size [] fun w3 hh hb3 => vs ?_; have H := H.go (hb3 _); have H3 := H; refine q_ele H sl30 rfl k hka ha rfl fun ad es hb1 hr hc => vs ?_; obtain ⟨u1, rfl, _, _, _, _⟩ := kItem_open hr; refine q_lf0 sc9 hc (by decide) hb1 rfl ?_; refine vs ?_; refine q_ele H sl30 rfl k hkb2 hb rfl fun ad es hb1 hr hc => vs ?_; obtain ⟨u2, rfl, _, _, _, _⟩ := kItem_open hr; refine q_lf0 sc9 hc (by decide) hb1 rfl ?_
  by_cases hR : a[k].f_Route = b[k].f_Route
  rotate_left
  · refine ve hR ?_
    rw [sameQ_bad hka hkb2 (by unfold sameI; rw [decide_eq_false hR]; rfl)]
    first | exact ⟨kept_base H3 H, rfl, H.bel⟩ | exact ⟨rfl, H.bel⟩ | exact H.bel
  have eR : (a[k].f_Route = b[k].f_Route) = True := eq_true hR; refine ve eR ?_; refine q_ele H sl30 rfl k hka ha rfl fun ad es hb1 hr hc => ve eR ?_; obtain ⟨u1, rfl, _, _, _, _⟩ := kItem_open hr; refine q_lfj (j := 1) sc3 hc (by decide) hb1 rfl ?_; refine ve eR ?_; refine q_ele H sl30 rfl k hkb2 hb rfl fun ad es hb1 hr hc => ve eR ?_; obtain ⟨u2, rfl, _, _, _, _⟩ := kItem_open hr; refine q_lfj (j := 1) sc3 hc (by decide) hb1 rfl ?_
  by_cases hT : a[k].f_Topic = b[k].f_Topic
  rotate_left
  · refine ve (And.intro eR hT) ?_
    rw [sameQ_bad hka hkb2 (by unfold sameI; rw [decide_eq_false hT]; simp)]
    first | exact ⟨kept_base H3 H, rfl, H.bel⟩ | exact ⟨rfl, H.bel⟩ | exact H.bel
  have eT : (a[k].f_Topic = b[k].f_Topic) = True := eq_true hT; refine ve (And.intro eR eT) ?_; refine q_ele H sl30 rfl k hka ha rfl fun ad es hb1 hr hc => ve (And.intro eR eT) ?_; obtain ⟨u1, rfl, _, _, _, _⟩ := kItem_open hr; refine q_lfj (j := 2) sc3 hc (by decide) hb1 rfl ?_; refine ve (And.intro eR eT) ?_; refine q_ele H sl30 rfl k hkb2 hb rfl fun ad es hb1 hr hc => ve (And.intro eR eT) ?_; obtain ⟨u2, rfl, _, _, _, _⟩ := kItem_open hr; refine q_lfj (j := 2) sc3 hc (by decide) hb1 rfl ?_
  by_cases hD : a[k].f_Due = b[k].f_Due
  rotate_left
  · refine ve (And.intro eR (And.intro eT hD)) ?_
    rw [sameQ_bad hka hkb2 (by unfold sameI; rw [decide_eq_false hD]; simp)]
    first | exact ⟨kept_base H3 H, rfl, H.bel⟩ | exact ⟨rfl, H.bel⟩ | exact H.bel
  have eD : (a[k].f_Due = b[k].f_Due) = True := eq_true hD; refine ve (And.intro eR (And.intro eT eD)) ?_; refine q_ele H sl30 rfl k hka ha rfl fun ad es hb1 hr hc => ve (And.intro eR (And.intro eT eD)) ?_; obtain ⟨u1, rfl, _, _, _, hx1⟩ := kItem_open hr; refine q_lfj (j := 3) sc22 hc (by decide) hb1 rfl ?_; refine ve (And.intro eR (And.intro eT eD)) ?_; refine q_ele H sl30 rfl k hkb2 hb rfl fun ad es hb1 hr hc => ve (And.intro eR (And.intro eT eD)) ?_; obtain ⟨u2, rfl, _, _, _, hx2⟩ := kItem_open hr; refine q_lfj (j := 3) sc22 hc (by decide) hb1 rfl ?_; refine ve (And.intro eR (And.intro eT eD)) ?_; refine x_callw (specSame_ok w3 _ _ _ _ (H.rd hx1) (H.rd hx2)) ?_; refine ⟨kept_base H3 H, ?_⟩
  by_cases hB : a[k].f_Bytes = b[k].f_Bytes
  · refine ve (And.intro (And.intro eR (eq_true hB)) (And.intro eT eD)) ?_
    refine ⟨k + 1, i64_eq (by unfold w64; omega), ⟨hka, hkb2, fun i h1 h2 h => ?_, H⟩, by omega⟩
    by_cases h3 : i = k
    · subst h3; unfold sameI; rw [decide_eq_true hR, decide_eq_true hT, decide_eq_true hD, decide_eq_true hB]; rfl
    · exact hall i h1 h2 (by omega)
  · refine ve (And.intro (And.intro eR hB) (And.intro eT eD)) ?_
    rw [sameQ_bad hka hkb2 (by unfold sameI; rw [decide_eq_false hB]; simp)]
    first | exact ⟨kept_base H3 H, rfl, H.bel⟩ | exact ⟨rfl, H.bel⟩ | exact H.bel
theorem postOk_q {p : MPost} (h : queueOk p.f_Queue = false) : postOk p = false := by unfold postOk postFront; rw [h]; rfl
theorem postOk_f {p : MPost} (h : ¬ (queueOk p.f_Queue = true ∧ (0 ≤ p.f_Time ∧ p.f_Time ≤ 100000) ∧ p.f_Book.length ≤ 12000 ∧ (0 ≤ p.f_Sure ∧ p.f_Sure ≤ (p.f_Book.length : Int)))) : postOk p = false := by
  rw [Bool.eq_false_iff]; intro hp; exact h (postOk_iff.1 hp).1
theorem postOk_p {p : MPost} (h : ¬ play p.f_Book = (p.f_Queue, p.f_Time, p.f_Book.length)) : postOk p = false := by
  rw [Bool.eq_false_iff]; intro hp; exact h (postOk_iff.1 hp).2
theorem specPostOk_ok (w : World) (cs : List Value) (p : MPost) (h : kPost.rd w w.heap.size cs p) (hs : smPost p) :
    ACalls Tryz.prog 61 #[.agg cs.toArray] w fun r w' => r = .bool (postOk p) ∧ Below w.heap.size w w' := by
  unfold smPost at hs; obtain ⟨v0, v2, rfl, h0, h1, h2, h3⟩ := kPost_open h; have h2' := h2; obtain ⟨A2, c2, rfl, _, _, _⟩ := sl_open h2; have H := Sep.start w; refine body_of follows Tryz.func61 rfl rfl _ rfl (by kernel_rfl) (vs ?_); refine x_bx H [v0, .int .i64 p.f_Time, .slice A2 p.f_Book.length c2, .int .i64 p.f_Sure] fun g1 w1 H => vs ?_; refine x_ld H sc30 ?_; refine vs ?_; refine x_callb H (specQueueOk_ok w1 v0 _ (H.rd h0) hs.1) fun w2 H => ?_
  cases hq : queueOk p.f_Queue with
  | false =>
    refine vs ?_; rw [postOk_q hq]
    first | exact ⟨rfl, H.bel⟩ | exact H.bel
  | true =>
    refine vs ?_; refine x_ld H sc3 ?_; refine vs ?_; refine x_callw (l1In_ok w2 _ _ _) ?_
    by_cases hT : 0 ≤ p.f_Time ∧ p.f_Time ≤ 100000
    rotate_left
    · refine ve hT ?_
      rw [postOk_f fun hh => hT hh.2.1]
      first | exact ⟨rfl, H.bel⟩ | exact H.bel
    refine ve hT ?_; refine x_ld H sc22 ?_
    by_cases hB : (12000 : Int) < (p.f_Book.length : Int)
    · refine ve (And.intro hT hB) ?_
      rw [postOk_f fun hh => by have := hh.2.2.1; omega]
      first | exact ⟨rfl, H.bel⟩ | exact H.bel
    refine ve (And.intro hT hB) ?_; refine x_ld H sc3 ?_; refine ve (And.intro hT hB) ?_; refine x_ld H sc22 ?_; refine ve (And.intro hT hB) ?_; refine x_callw (l1In_ok w2 _ _ _) ?_
    by_cases hS : 0 ≤ p.f_Sure ∧ p.f_Sure ≤ (p.f_Book.length : Int)
    rotate_left
    · refine ve (And.intro hS (And.intro hT hB)) ?_
      rw [postOk_f fun hh => hS hh.2.2.2]
      first | exact ⟨rfl, H.bel⟩ | exact H.bel
    refine ve (And.intro hS (And.intro hT hB)) ?_; refine x_ld H sc22 ?_; refine vs ?_; refine x_call (specPlay_ok w2 _ _ (H.rd h2') (by omega)) fun _ w3 ⟨v', fp, e, S⟩ => ?_; subst e; have H := H.join S; simp only [List.cons_append, List.nil_append] at H; refine vs ?_; refine x_ld H sc22 ?_
    by_cases hU : ((play p.f_Book).2.2 : Int) = (p.f_Book.length : Int)
    rotate_left
    · refine ve hU ?_
      rw [postOk_p fun hh => hU (by rw [hh])]
      first | exact ⟨rfl, H.bel⟩ | exact H.bel
    have eU : (((play p.f_Book).2.2 : Int) = (p.f_Book.length : Int)) = True := eq_true hU; refine ve eU ?_; refine x_ld H sc3 ?_
    by_cases hN : (play p.f_Book).2.1 = p.f_Time
    rotate_left
    · refine ve (And.intro eU hN) ?_
      rw [postOk_p fun hh => hN (by rw [hh])]
      first | exact ⟨rfl, H.bel⟩ | exact H.bel
    have eN : ((play p.f_Book).2.1 = p.f_Time) = True := eq_true hN; refine ve (And.intro eU eN) ?_; refine x_ld H sc30 ?_; refine ve (And.intro eU eN) ?_; refine x_callb H (specQueues_ok w3 _ _ _ _ (H.own (.head _)) (H.rd h0)) fun w4 H => ?_; refine ve (And.intro eU eN) ?_
    have hf : postFront p = true := by
      unfold postFront; rw [hq, decide_eq_true hT, decide_eq_true hS, decide_eq_true (show p.f_Book.length ≤ 12000 by omega)]; rfl
    have e9 : postOk p = sameQ (play p.f_Book).1 p.f_Queue := by
      unfold postOk; rw [hf, decide_eq_true (show (play p.f_Book).2.2 = p.f_Book.length by omega), decide_eq_true hN]; rfl
    rw [e9]
    first | exact ⟨rfl, H.bel⟩ | exact H.bel
theorem postOk_len {p : MPost} (h : postOk p = true) : p.f_Queue.length ≤ 10 := (queueOk_iff.1 (postOk_iff.1 h).1.1).1
theorem one4 {a b : Value} {x y : Int} (ha : a.oneCell' = true) (hb : b.oneCell' = true) : ∀ v ∈ [a, .int .i64 x, b, .int .i64 y], v.oneCell' = true := by
  intro v hv; simp only [List.mem_cons, List.not_mem_nil, or_false] at hv
  rcases hv with rfl | rfl | rfl | rfl
  · exact ha
  · rfl
  · exact hb
  · rfl
theorem one1 {α : Type} {d : Kd α} {n : Nat} {w0 w : World} {L : List Ck} {fp : List Nat} {v : Value} {x : α} (H : Sep n w0 w L) (h : Ck.own d fp [v] x ∈ L) : v.oneCell' = true := Kd.one _ (H.own h) v (by simp)
def PostR (w : World) (p : MPost) (r : Value) (w' : World) : Prop := ∃ v0 f0 v2 f2, r = .agg #[v0, .int .i64 p.f_Time, v2, .int .i64 p.f_Sure] ∧ Sep w.heap.size w w' [Ck.own items f0 [v0] p.f_Queue, Ck.own (bytes 5) f2 [v2] p.f_Book]
theorem l15Copy_ok (w : World) (cs : List Value) (p : MPost) (h : kPost.rd w w.heap.size cs p) (hs : smPost p) :
    ACalls Tryz.prog 53 #[.agg cs.toArray] w fun r w' => PostR w p r w' := by
  unfold smPost at hs; obtain ⟨v0, v2, rfl, h0, h1, h2, h3⟩ := kPost_open h; have H := Sep.start w; refine body_of follows Tryz.func53 rfl rfl _ rfl (by kernel_rfl) (vs ?_); refine x_bx H [v0, .int .i64 p.f_Time, v2, .int .i64 p.f_Sure] fun g1 w1 H => vs ?_; have J := Sep.start w1; refine x_al J st32 fun g2 w2 J => vs ?_; refine fork_draw w1.heap.size [] fun w3 hh hb3 => ?_; have J := J.go (hb3 _); have J3 := J; refine rest_pre [(0, true), (1, true), (3, true), (4, true), (6, true), (7, true), (9, true), (10, true)] 5 ?_; refine vs ?_; refine q_ldB H J3 sc30 ?_; refine vs ?_; refine q_ldB H J3 sc3 ?_; refine vs ?_; refine q_ldB H J3 sc22 ?_; refine vs ?_; refine q_ldB H J3 sc3 ?_; refine vs ?_; refine rest_fork 2 5 4 ?_ ?_
  · refine vs ?_
    refine x_callf J (l13Queue_ok _ v0 _ (J.rd (H.rd h0)) hs.1) fun r0 f0 wa J => vs ?_; refine ⟨kept_base J3 J, ?_⟩; refine rest_end [(5, false), (8, false), (11, true), (12, false)] ?_; refine vs ?_; refine x_emp J pl_u8 sl22 fun gb wb J => vs ?_; refine ⟨kept_base J3 J, ?_⟩; refine x_app J pl_u8 sl22 (J.rd (H.rd h2)) ?_ ?_ fun f2 r2 wc J => vs ?_
    · simp only [List.length_nil]; omega
    · simp only [List.length_nil]; omega
    refine ⟨kept_base J3 J, ?_⟩; rw [List.nil_append] at J; obtain ⟨A0, c0, rfl, _⟩ := sl_open (J.om (fp := f0) (x := p.f_Queue)); obtain ⟨Ac, cc, rfl, _⟩ := sl_open (J.om (fp := f2) (x := p.f_Book)); refine q_bld bl32 [_, .int .i64 p.f_Time, _, .int .i64 p.f_Sure] ?_; refine vs ?_; have o0 := one1 (fp := f0) (x := p.f_Queue) J (by repeat (first | exact List.mem_cons_self | apply List.mem_cons_of_mem)); have o2 := one1 (fp := f2) (x := p.f_Book) J (by repeat (first | exact List.mem_cons_self | apply List.mem_cons_of_mem)); refine x_sta J st32 (vs := [.slice A0 p.f_Queue.length c0, .int .i64 p.f_Time, .slice Ac p.f_Book.length cc, .int .i64 p.f_Sure]) (h1 := one4 o0 o2) fun wd J => vs ?_; refine ⟨kept_base J3 J, ?_⟩; have H := H.join J; simp only [List.cons_append, List.nil_append] at H; exact ⟨_, _, rfl, res_cell H st32, _, _, _, _, rfl, H.two (by repeat (first | exact Out.here | apply Out.there)) (by repeat (first | exact Out.here | apply Out.there))⟩
  · refine vs ?_
    refine x_emp J pl_u8 sl22 fun gb wb J => vs ?_; refine ⟨kept_base J3 J, ?_⟩; refine rest_end [(2, false), (8, false), (11, true), (12, false)] ?_; refine vs ?_; refine x_callf J (l13Queue_ok _ v0 _ (J.rd (H.rd h0)) hs.1) fun r0 f0 wa J => vs ?_; refine ⟨kept_base J3 J, ?_⟩; refine x_app J pl_u8 sl22 (J.rd (H.rd h2)) ?_ ?_ fun f2 r2 wc J => vs ?_
    · simp only [List.length_nil]; omega
    · simp only [List.length_nil]; omega
    refine ⟨kept_base J3 J, ?_⟩; rw [List.nil_append] at J; obtain ⟨A0, c0, rfl, _⟩ := sl_open (J.om (fp := f0) (x := p.f_Queue)); obtain ⟨Ac, cc, rfl, _⟩ := sl_open (J.om (fp := f2) (x := p.f_Book)); refine q_bld bl32 [_, .int .i64 p.f_Time, _, .int .i64 p.f_Sure] ?_; refine vs ?_; have o0 := one1 (fp := f0) (x := p.f_Queue) J (by repeat (first | exact List.mem_cons_self | apply List.mem_cons_of_mem)); have o2 := one1 (fp := f2) (x := p.f_Book) J (by repeat (first | exact List.mem_cons_self | apply List.mem_cons_of_mem)); refine x_sta J st32 (vs := [.slice A0 p.f_Queue.length c0, .int .i64 p.f_Time, .slice Ac p.f_Book.length cc, .int .i64 p.f_Sure]) (h1 := one4 o0 o2) fun wd J => vs ?_; refine ⟨kept_base J3 J, ?_⟩; have H := H.join J; simp only [List.cons_append, List.nil_append] at H; exact ⟨_, _, rfl, res_cell H st32, _, _, _, _, rfl, H.two (by repeat (first | exact Out.here | apply Out.there)) (by repeat (first | exact Out.here | apply Out.there))⟩
theorem kLine_of {w : World} {n : Nat} {v4 : Value} (x : MLine) (h0 : -9223372036854775808 ≤ x.f_Kind ∧ x.f_Kind < 9223372036854775808) (h1 : x.f_Route.length ≤ 9223372036854775807) (h2 : -9223372036854775808 ≤ x.f_Topic ∧ x.f_Topic < 9223372036854775808) (h3 : -9223372036854775808 ≤ x.f_Due ∧ x.f_Due < 9223372036854775808) (h4 : (bytes 5).rd w n [v4] x.f_Bytes) :
    kLine.rd w n [.int .i64 x.f_Kind, .string ⟨x.f_Route.toArray⟩, .int .i64 x.f_Topic, .int .i64 x.f_Due, v4] x :=
  ⟨[_], _, rfl, ⟨rfl, h0⟩, [_], _, rfl, ⟨rfl, h1⟩, [_], _, rfl, ⟨rfl, h2⟩, [_], _, rfl, ⟨rfl, h3⟩, h4⟩
theorem l15Noted_ok {n : Nat} {w0 w : World} {L : List Ck} {f0 f2 : List Nat} {v0 v2 : Value} {q : List MItem} {bk : List UInt8} (t s : Int) (cs : List Value) (l : MLine) (H : Sep n w0 w (Ck.own items f0 [v0] q :: Ck.own (bytes 5) f2 [v2] bk :: L)) (h : kLine.rd w0 n cs l) (hR : l.f_Route.length ≤ 1048576) (hb : l.f_Bytes.length ≤ 1048576) (hbk : bk.length ≤ 1048576) :
    ACalls Tryz.prog 64 #[.agg #[v0, .int .i64 t, v2, .int .i64 s], .agg cs.toArray] w fun r w' => ∃ f' v', r = .tuple #[.agg #[v0, .int .i64 t, v', .int .i64 s], .bool (lineOk l && decide (bk.length + (lineBytes l).length ≤ 12000))] ∧ Sep n w0 w' (Ck.own items f0 [v0] q :: Ck.own (bytes 5) f' [v'] (bk ++ lineBytes l) :: L) := by
  have hone := Kd.one _ h; have h9 := h; obtain ⟨u, rfl, z0, z1, z2, z3, z4⟩ := kLine_open h; have hll := lineBytes_le l; have o0 := one1 H (.head _); have hfp : f2 = v2.ownBlock.toList := (pl_u8.slOw.1 (show (bytes 5).ow w f2 [v2] bk from H.ok _ (.tail _ (.head _)))).2.2; refine body_of follows Tryz.func64 rfl rfl _ rfl (by kernel_rfl) (vs ?_); refine x_bx H [v0, .int .i64 t, v2, .int .i64 s] fun g2 w1 H => vs ?_; refine x_bx H [.int .i64 l.f_Kind, .string ⟨(l.f_Route).toArray⟩, .int .i64 l.f_Topic, .int .i64 l.f_Due, u] fun g3 w2 H => vs ?_; refine x_al H st32 fun g4 w3 H => vs ?_; refine draw_zat [(0, true), (1, true), (2, true), (3, false), (4, false)] 5 [5, 6] (fpG f2) fun w4 hh hb4 => vs ?_; have H := H.go (hb4 _); refine q_ldG H sc22 (H.apartG (.there (.there (.there (.there .here)))) (.there (.there .here))) ?_; refine vs ?_; refine q_ldaG H st103 (H.apartG (.there (.there (.there (.there .here)))) (.there .here)) ?_; refine vs ?_; have S := Sep.start w4; refine x_callf S (specLineBytes_ok w4 _ l (H.rd h9) (by omega) (by omega)) fun rl fl w5 S => vs ?_; refine ⟨kept_baseG (Sep.start w4) S, ?_⟩; have H := H.join S; simp only [List.cons_append, List.nil_append] at H; refine x_appC H pl_u8 sl22 (H.own (.head _)) ?_ ?_ (fun f' v' w6 H hchg _ => vs ?_) (.there (.there (.there (.there (.there .here)))))
  · omega
  · omega
  refine ⟨kept_chg (kept_baseG (Sep.start w4) S) hchg (fun b hb => fpG_mem (by rw [hfp]; exact hb)) S.ns fpG_zero, ?_⟩; have o' := one1 (fp := f') (x := bk ++ lineBytes l) H (.tail _ (.tail _ (.tail _ (.tail _ (.tail _ (.head _)))))); refine dl_cons ⟨_, rfl, vs ?_⟩; refine dl_cons ⟨_, rfl, vs ?_⟩; refine x_st H sc22 (h1 := o') fun w7 H => ?_; refine dl_nil (vs ?_); have H := H.tail; have hn2 : g2 ≠ g4 := fun e => H.boxne (g := g4) (g' := g2) (h := .here) (h' := .there .here) e.symm; have hn3 : g3 ≠ g4 := fun e => H.boxne (g := g4) (g' := g3) (h := .here) (h' := .here) e.symm; have hol : (bk ++ lineBytes l).length = bk.length + (lineBytes l).length := List.length_append; obtain ⟨Av, cv, rfl, _⟩ := sl_open (H.own (fp := f') (x := bk ++ lineBytes l) (.tail _ (.tail _ (.tail _ (.tail _ (.head _)))))); refine draw_of [(0, true), (1, true), (2, false), (3, true), (4, true), (5, true), (6, true), (7, true), (8, true), (9, false), (10, true)] w7.heap.size [(g4, 0)] fun w8 hh hb8 => vs ?_; have H := H.go (hb8 _); have hw8 : w8.heap.size = w7.heap.size := by rw [hh]
  have hl2 : g2 < w7.heap.size := by rw [← hw8]; exact H.lt (.tail _ (.tail _ (.head _)))
  have hl3 : g3 < w7.heap.size := by rw [← hw8]; exact H.lt (.tail _ (.head _))
  have qa : ∀ k, (g2, k) ∉ [(g4, 0)] := fun k hk => by simp only [List.mem_singleton, Prod.mk.injEq] at hk; exact hn2 hk.1
  have qb : ∀ k, (g3, k) ∉ [(g4, 0)] := fun k hk => by simp only [List.mem_singleton, Prod.mk.injEq] at hk; exact hn3 hk.1
  refine qx_loadAgg st32 [v0, .int .i64 t, .slice Av (bk ++ lineBytes l).length cv, .int .i64 s] rfl (fun j v hj => by rw [Kd.add_plain, H.cell (.tail _ (.tail _ (.head _)))]; exact hj) hl2 qa ?_; refine vs ?_; refine qx_loadAgg st103 [.int .i64 l.f_Kind, .string ⟨(l.f_Route).toArray⟩, .int .i64 l.f_Topic, .int .i64 l.f_Due, u] rfl (fun j v hj => by rw [Kd.add_plain, H.cell (.tail _ (.head _))]; exact hj) hl3 qb ?_; refine vs ?_; have T := Sep.start w8; have c2 : w8.cell? ⟨g2, 2, none⟩ = some (.slice Av (bk ++ lineBytes l).length cv) := H.cell (.tail _ (.tail _ (.head _))) 2; refine x_callb T (specLineOk_ok w8 _ l (H.rd h9) (by omega) (by omega)) fun w9 T => ?_; have hk9 : Kept w7.heap.size [(g4, 0)] w8 w9 := by rw [← hw8]; exact kept_baseG (Sep.start w8) T
  have H := H.go T.bel; refine ⟨hk9, ?_⟩
  cases hok : lineOk l with
  | false =>
    refine vs ?_; refine x_staD H st32 (vs := [v0, .int .i64 t, .slice Av (bk ++ lineBytes l).length cv, .int .i64 s]) (fun w10 H hchg => vs ?_) (h1 := one4 o0 rfl); refine ⟨kept_chg hk9 hchg (fun b hb => by simp only [List.mem_singleton] at hb; subst hb; exact List.mem_singleton.2 rfl) (by rw [← hw8]; exact T.bel.size) (fun g t ht => by simp only [List.mem_singleton, Prod.mk.injEq] at ht; exact ht.2), ?_⟩; exact ⟨_, _, rfl, res_cell H st32, _, _, rfl, H.tail.tail.tail⟩
  | true =>
    refine vs ?_; refine qx_load sc22 (v := .slice Av (bk ++ lineBytes l).length cv) c2 hl2 qa ?_; refine vs ?_; refine x_staD H st32 (vs := [v0, .int .i64 t, .slice Av (bk ++ lineBytes l).length cv, .int .i64 s]) (fun w10 H hchg => vs ?_) (h1 := one4 o0 rfl); refine ⟨kept_chg hk9 hchg (fun b hb => by simp only [List.mem_singleton] at hb; subst hb; exact List.mem_singleton.2 rfl) (by rw [← hw8]; exact T.bel.size) (fun g t ht => by simp only [List.mem_singleton, Prod.mk.injEq] at ht; exact ht.2), ?_⟩; rw [hol]; have ed : decide (((bk.length + (lineBytes l).length : Nat) : Int) ≤ 12000) = decide (bk.length + (lineBytes l).length ≤ 12000) := decide_eq_decide.2 (by omega); rw [ed]; exact ⟨_, _, rfl, res_cell H st32, _, _, rfl, H.tail.tail.tail⟩
theorem specSync_ok (w : World) (cs : List Value) (p : MPost) (h : kPost.rd w w.heap.size cs p) (hs : smPost p) :
    ACalls Tryz.prog 48 #[.agg cs.toArray] w fun r w' => ∃ cs' fp, r = .agg cs'.toArray ∧ Sep w.heap.size w w' [Ck.own kPost fp cs' (syncP p)] := by
  have hs' := hs; unfold smPost at hs'; have h9 := h; obtain ⟨v0, v2, rfl, h0, h1, h2, h3⟩ := kPost_open h; obtain ⟨A2, c2, rfl, _⟩ := sl_open h2; have H := Sep.start w; refine body_of follows Tryz.func48 rfl rfl _ rfl (by kernel_rfl) (vs ?_); refine x_bx H [v0, .int .i64 p.f_Time, .slice A2 p.f_Book.length c2, .int .i64 p.f_Sure] fun g1 w1 H => vs ?_; refine x_al H st32 fun g2 w2 H => vs ?_; refine x_lda H st32 ?_; refine vs ?_; refine x_call (l15Copy_ok w2 _ p (H.rd h9) hs) fun _ w3 R => ?_; unfold PostR at R; obtain ⟨a0, f0, a2, f2, rfl, S⟩ := R; have H := H.join S; simp only [List.cons_append, List.nil_append] at H; have o0 := one1 (fp := f0) (x := p.f_Queue) H (.head _); obtain ⟨B2, d2, rfl, _⟩ := sl_open (H.own (fp := f2) (x := p.f_Book) (.tail _ (.head _))); refine vs ?_; refine x_al H st32 fun g4 w4 H => vs ?_; refine x_sta H st32 (vs := [a0, .int .i64 p.f_Time, .slice B2 p.f_Book.length d2, .int .i64 p.f_Sure]) (h1 := one4 o0 rfl) fun w5 H => vs ?_; refine x_lda H st32 ?_; refine vs ?_; refine x_callb H (specPostOk_ok w5 _ p (H.rd h9) hs) fun w6 H => ?_
  cases hok : postOk p with
  | false =>
    refine vs ?_; refine x_lda H st32 ?_; refine vs ?_; refine x_sta H st32 (vs := [a0, .int .i64 p.f_Time, .slice B2 p.f_Book.length d2, .int .i64 p.f_Sure]) (h1 := one4 o0 rfl) fun w7 H => vs ?_; have H := H.front (c := Ck.own (bytes 5) f2 [.slice B2 p.f_Book.length d2] p.f_Book); have H := H.front (c := Ck.own items f0 [a0] p.f_Queue); obtain ⟨fp, H⟩ := ownPost p H h1 h3; have e : syncP p = p := by unfold syncP; rw [if_neg (by rw [hok]; decide)]
    rw [e]; exact ⟨_, _, rfl, res_cell H st32, _, _, rfl, H.head⟩
  | true =>
    refine vs ?_; refine x_ld H sc22 ?_; refine vs ?_; refine x_st H sc3 fun w7 H => vs ?_; refine x_lda H st32 ?_; refine vs ?_; refine x_sta H st32 (vs := [a0, .int .i64 p.f_Time, .slice B2 p.f_Book.length d2, .int .i64 (p.f_Book.length : Int)]) (h1 := one4 o0 rfl) fun w8 H => vs ?_; have H := H.front (c := Ck.own (bytes 5) f2 [.slice B2 p.f_Book.length d2] p.f_Book); have H := H.front (c := Ck.own items f0 [a0] p.f_Queue); obtain ⟨fp, H⟩ := ownPost (⟨p.f_Queue, p.f_Time, p.f_Book, p.f_Book.length⟩ : MPost) H h1 (by dsimp only; omega); have e : syncP p = ⟨p.f_Queue, p.f_Time, p.f_Book, p.f_Book.length⟩ := by unfold syncP; rw [if_pos hok]
    rw [e]; exact ⟨_, _, rfl, res_cell H st32, _, _, rfl, H.head⟩
theorem syncP_tot {p : MPost} (hs : smPost p) : smPost (syncP p) := by
  unfold syncP
  split
  · exact hs
  · exact hs
theorem tick_bad {p : MPost} {now : Int} (h : ¬ (postOk p = true ∧ p.f_Time ≤ now ∧ now ≤ 100000)) : tickP p now = (p, 1) := by
  unfold tickP; rw [if_neg]; simp only [Bool.and_eq_true, decide_eq_true_eq]; exact h
theorem tick_full {p : MPost} {now : Int} (h : postOk p = true) (h2 : p.f_Time ≤ now ∧ now ≤ 100000) (h3 : ¬ p.f_Book.length + (lineBytes (timeLine now)).length ≤ 12000) : tickP p now = (p, 2) := by
  unfold tickP; rw [if_pos (by rw [h, decide_eq_true h2]; rfl), if_neg (by unfold fits; rw [decide_eq_false h3]; decide)]
theorem tick_done {p : MPost} {now : Int} (h : postOk p = true) (h2 : p.f_Time ≤ now ∧ now ≤ 100000) (h3 : p.f_Book.length + (lineBytes (timeLine now)).length ≤ 12000) : tickP p now = (⟨due p.f_Queue now, now, p.f_Book ++ lineBytes (timeLine now), p.f_Sure⟩, 0) := by
  unfold tickP; rw [if_pos (by rw [h, decide_eq_true h2]; rfl), if_pos (by unfold fits; rw [decide_eq_true h3])]
theorem timeLine_ok {n : Int} (h : 0 ≤ n ∧ n ≤ 100000) : lineOk (timeLine n) = true := by
  rw [lineOk_3 rfl]; have e : decide (0 ≤ (timeLine n).f_Due ∧ (timeLine n).f_Due ≤ 100000) = true := decide_eq_true h; rw [e]; rfl
theorem sm_due {q : List MItem} {n : Int} (h : smItemS q) : smItemS (due q n) := sm_filter h
theorem tickP_sm {p : MPost} {now : Int} (hs : smPost p) : smPost (tickP p now).1 := by
  unfold tickP
  split
  · split
    · rename_i h1 h2
      unfold fits at h2; simp only [decide_eq_true_eq] at h2; exact ⟨sm_due hs.1, by show (p.f_Book ++ lineBytes (timeLine now)).length ≤ 1048576; rw [List.length_append]; omega⟩
    · exact hs
  · exact hs
theorem timeLine_rd (w : World) (n : Nat) {t : Int} (h : 0 ≤ t ∧ t ≤ 100000) : kLine.rd w n [.int .i64 3, .string ⟨#[]⟩, .int .i64 0, .int .i64 t, .slice none 0 0] (timeLine t) :=
  kLine_of (timeLine t) (by show (-9223372036854775808 : Int) ≤ 3 ∧ (3 : Int) < 9223372036854775808; decide) (by show ([] : List UInt8).length ≤ 9223372036854775807; decide) (by show (-9223372036854775808 : Int) ≤ 0 ∧ (0 : Int) < 9223372036854775808; decide) (by show (-9223372036854775808 : Int) ≤ t ∧ t < 9223372036854775808; omega) (Kd.own_rd _ (sl_zero w) (by simp))
theorem specTick_ok (w : World) (cs : List Value) (p : MPost) (now : Int) (h : kPost.rd w w.heap.size cs p) (hs : smPost p) (hn : -9223372036854775808 ≤ now ∧ now < 9223372036854775808) :
    ACalls Tryz.prog 47 #[.agg cs.toArray, .int .i64 now] w fun r w' => ∃ cs' fp, r = .tuple #[.agg cs'.toArray, .int .i64 (tickP p now).2] ∧ Sep w.heap.size w w' [Ck.own kPost fp cs' (tickP p now).1] := by
  have hs' := hs; unfold smPost at hs'; have h9 := h; obtain ⟨v0, v2, rfl, h0, h1, h2, h3⟩ := kPost_open h; obtain ⟨A2, c2, rfl, _⟩ := sl_open h2; have H := Sep.start w; refine body_of follows Tryz.func47 rfl rfl _ rfl (by kernel_rfl) (vs ?_); refine x_bx H [v0, .int .i64 p.f_Time, .slice A2 p.f_Book.length c2, .int .i64 p.f_Sure] fun g1 w1 H => vs ?_; refine x_al H st32 fun g2 w2 H => vs ?_; refine x_lda H st32 ?_; refine vs ?_; refine x_call (l15Copy_ok _ _ p (H.rd h9) hs) fun _ w3 R => ?_; unfold PostR at R; obtain ⟨pa0, pf0, pa2, pf2, rfl, S⟩ := R; have H := H.join S; simp only [List.cons_append, List.nil_append] at H; have po0 := one1 (fp := pf0) (x := p.f_Queue) H (.head _); obtain ⟨pB, pd, rfl, _⟩ := sl_open (H.own (fp := pf2) (x := p.f_Book) (.tail _ (.head _))); refine vs ?_; refine x_al H st32 fun g4 w4 H => vs ?_; refine x_sta H st32 (vs := [pa0, .int .i64 p.f_Time, .slice pB p.f_Book.length pd, .int .i64 p.f_Sure]) (h1 := one4 po0 rfl) fun w4 H => vs ?_; refine x_lda H st32 ?_; refine vs ?_; refine x_callb H (specPostOk_ok _ _ p (H.rd h9) hs) fun w6 H => ?_
  cases hok : postOk p with
  | false =>
    refine vs ?_; refine x_lda H st32 ?_; refine vs ?_; refine x_sta H st32 (vs := [pa0, .int .i64 p.f_Time, .slice pB p.f_Book.length pd, .int .i64 p.f_Sure]) (h1 := one4 po0 rfl) fun wz H => vs ?_; have H := H.front (c := Ck.own (bytes 5) pf2 [.slice pB p.f_Book.length pd] p.f_Book); have H := H.front (c := Ck.own items pf0 [pa0] p.f_Queue); obtain ⟨fz, H⟩ := ownPost p H h1 h3; rw [tick_bad (fun hh => by have := hh.1; rw [hok] at this; cases this)]; exact ⟨_, _, rfl, res_cell H st32, _, _, rfl, H.head⟩
  | true =>
    refine vs ?_; refine x_ld H sc3 ?_; refine vs ?_; refine x_callw (l1In_ok w6 _ _ _) ?_
    by_cases hr : p.f_Time ≤ now ∧ now ≤ 100000
    rotate_left
    · refine ve hr ?_
      refine x_lda H st32 ?_; refine vs ?_; refine x_sta H st32 (vs := [pa0, .int .i64 p.f_Time, .slice pB p.f_Book.length pd, .int .i64 p.f_Sure]) (h1 := one4 po0 rfl) fun wz H => vs ?_; have H := H.front (c := Ck.own (bytes 5) pf2 [.slice pB p.f_Book.length pd] p.f_Book); have H := H.front (c := Ck.own items pf0 [pa0] p.f_Queue); obtain ⟨fz, H⟩ := ownPost p H h1 h3; rw [tick_bad (fun hh => hr hh.2)]; exact ⟨_, _, rfl, res_cell H st32, _, _, rfl, H.head⟩
    have hpt := (postOk_iff.1 hok).1.2.1; have hnr : 0 ≤ now ∧ now ≤ 100000 := by omega
    have hll := lineBytes_le (timeLine now); refine ve hr ?_; refine x_lda H st32 ?_; refine vs ?_; refine x_call (l15Copy_ok _ _ p (H.rd h9) hs) fun _ w9 R => ?_; unfold PostR at R; obtain ⟨ra0, rf0, ra2, rf2, rfl, S⟩ := R; have H := H.join S; simp only [List.cons_append, List.nil_append] at H; have ro0 := one1 (fp := rf0) (x := p.f_Queue) H (.head _); obtain ⟨rB, rd, rfl, _⟩ := sl_open (H.own (fp := rf2) (x := p.f_Book) (.tail _ (.head _))); refine vs ?_; refine x_build bl103 [.int .i64 3, .string ⟨#[]⟩, .int .i64 0, .int .i64 now, .slice none 0 0] ?_; refine vs ?_; refine x_call (l15Noted_ok p.f_Time p.f_Sure [.int .i64 3, .string ⟨#[]⟩, .int .i64 0, .int .i64 now, .slice none 0 0] (timeLine now) H (timeLine_rd _ _ hnr) (by show ([] : List UInt8).length ≤ 1048576; decide) (by show ([] : List UInt8).length ≤ 1048576; decide) hs'.2) fun _ w8 ⟨f8, v8, e, H⟩ => ?_; subst e; rw [timeLine_ok hnr, Bool.true_and]; have o8 := one1 (fp := f8) (x := p.f_Book ++ lineBytes (timeLine now)) H (.tail _ (.head _)); refine vs ?_; refine x_al H st32 fun g7 w10 H => vs ?_; refine x_sta H st32 (vs := [ra0, .int .i64 p.f_Time, v8, .int .i64 p.f_Sure]) (h1 := one4 ro0 o8) fun w11 H => vs ?_
    by_cases hf : p.f_Book.length + (lineBytes (timeLine now)).length ≤ 12000
    rotate_left
    · refine ve hf ?_
      refine x_lda H st32 ?_; refine vs ?_; refine x_sta H st32 (vs := [pa0, .int .i64 p.f_Time, .slice pB p.f_Book.length pd, .int .i64 p.f_Sure]) (h1 := one4 po0 rfl) fun wz H => vs ?_; have H := H.front (c := Ck.own (bytes 5) pf2 [.slice pB p.f_Book.length pd] p.f_Book); have H := H.front (c := Ck.own items pf0 [pa0] p.f_Queue); obtain ⟨fz, H⟩ := ownPost p H h1 h3; rw [tick_full hok hr hf]; exact ⟨_, _, rfl, res_cell H st32, _, _, rfl, H.head⟩
    refine ve (show (p.f_Book.length + (lineBytes (timeLine now)).length ≤ 12000) = True from eq_true hf) ?_; refine x_ld H sc30 ?_; refine vs ?_; refine x_callf H (specDue_ok w11 v0 _ now (H.rd h0) hs'.1) fun r10 f10 w12 H => vs ?_; have o10 := one1 H (.head _); refine x_st H sc30 (h1 := o10) fun w13 H => vs ?_; refine x_st H sc3 fun w14 H => vs ?_; refine x_lda H st32 ?_; refine vs ?_; refine x_sta H st32 (vs := [r10, .int .i64 now, v8, .int .i64 p.f_Sure]) (h1 := one4 o10 o8) fun w15 H => vs ?_; have H := H.front (c := Ck.own (bytes 5) f8 [v8] (p.f_Book ++ lineBytes (timeLine now))); have H := H.front (c := Ck.own items f10 [r10] (due p.f_Queue now)); obtain ⟨fz, H⟩ := ownPost (⟨due p.f_Queue now, now, p.f_Book ++ lineBytes (timeLine now), p.f_Sure⟩ : MPost) H hn h3; rw [tick_done hok hr hf]; exact ⟨_, _, rfl, res_cell H st32, _, _, rfl, H.head⟩
theorem drop_bad {p : MPost} {x : MItem} (h : ¬ (postOk p = true ∧ itemOk x = true ∧ p.f_Time ≤ x.f_Due)) : dropP p x = (p, 1) := by
  unfold dropP; rw [if_neg]; simp only [Bool.and_eq_true, decide_eq_true_eq, and_assoc]; exact h
theorem drop_full {p : MPost} {x : MItem} (h : postOk p = true) (h1 : itemOk x = true) (h2 : p.f_Time ≤ x.f_Due) (h3 : ¬ ((put p.f_Queue x).2 = true ∧ p.f_Book.length + (lineBytes (putLine x)).length ≤ 12000)) : dropP p x = (p, 2) := by
  unfold dropP; rw [if_pos (by rw [h, h1, decide_eq_true h2]; rfl), if_neg]; unfold fits; simp only [Bool.and_eq_true, decide_eq_true_eq]; exact h3
theorem drop_done {p : MPost} {x : MItem} (h : postOk p = true) (h1 : itemOk x = true) (h2 : p.f_Time ≤ x.f_Due) (h3 : (put p.f_Queue x).2 = true) (h4 : p.f_Book.length + (lineBytes (putLine x)).length ≤ 12000) : dropP p x = (⟨(put p.f_Queue x).1, p.f_Time, p.f_Book ++ lineBytes (putLine x), p.f_Sure⟩, 0) := by
  unfold dropP; rw [if_pos (by rw [h, h1, decide_eq_true h2]; rfl), if_pos (by unfold fits; rw [h3, decide_eq_true h4]; rfl)]
theorem dropP_sm {p : MPost} {x : MItem} (hs : smPost p) : smPost (dropP p x).1 := by
  unfold dropP
  split
  · rename_i h0
    split
    · rename_i h1
      unfold fits at h1; simp only [Bool.and_eq_true, decide_eq_true_eq] at h0 h1
      have hq : smItemS (put p.f_Queue x).1 := by
        unfold put
        split
        · rename_i hq
          exact ⟨by have := (queueOk_iff.1 hq).1; show (putL p.f_Queue x).length ≤ _; omega, fun y hy => itemOk_sm (queueOk_item hq y hy)⟩
        · exact hs.1
      exact ⟨hq, by show (p.f_Book ++ lineBytes (putLine x)).length ≤ 1048576; rw [List.length_append]; omega⟩
    · exact hs
  · exact hs
theorem putLine_ok {x : MItem} (h : itemOk x = true) : lineOk (putLine x) = true := by
  rw [lineOk_1 rfl]; exact h
theorem putLine_rd {w : World} {n : Nat} {x : MItem} {v : Value} (h : kItem.rd w n [.string ⟨x.f_Route.toArray⟩, .int .i64 x.f_Topic, .int .i64 x.f_Due, v] x) : kLine.rd w n [.int .i64 1, .string ⟨x.f_Route.toArray⟩, .int .i64 x.f_Topic, .int .i64 x.f_Due, v] (putLine x) := by
  obtain ⟨u, e, q0, q1, q2, q3⟩ := kItem_open h; simp only [List.cons.injEq, and_true, true_and] at e; subst e; exact kLine_of (putLine x) (by show (-9223372036854775808 : Int) ≤ 1 ∧ (1 : Int) < 9223372036854775808; decide) q0 q1 q2 q3
theorem qx_extract0 {P : Program} {m : Nat} {w : World} {KQ : Value → Prop} {G : List (Nat × Nat)} {tq : Tg (m, G, w, KQ)} {v0 v1 : Value} (h : KQ v0) : QS P m G w KQ tq (Instr.extract (.tuple #[v0, v1]) 0) :=
  QS_of (fun w _ => by simp [Instr.extract]) h
theorem qx_extract1 {P : Program} {m : Nat} {w : World} {KQ : Value → Prop} {G : List (Nat × Nat)} {tq : Tg (m, G, w, KQ)} {v0 v1 : Value} (h : KQ v1) : QS P m G w KQ tq (Instr.extract (.tuple #[v0, v1]) 1) :=
  QS_of (fun w _ => by simp [Instr.extract]) h
theorem specDrop_ok (w : World) (cs : List Value) (p : MPost) (ds : List Value) (x : MItem) (h : kPost.rd w w.heap.size cs p) (hx : kItem.rd w w.heap.size ds x) (hs : smPost p) (hsx : smItem x) :
    ACalls Tryz.prog 49 #[.agg cs.toArray, .agg ds.toArray] w fun r w' => ∃ cs' fp, r = .tuple #[.agg cs'.toArray, .int .i64 (dropP p x).2] ∧ Sep w.heap.size w w' [Ck.own kPost fp cs' (dropP p x).1] := by
  have hs' := hs; unfold smPost at hs'; have h9 := h; obtain ⟨v0, v2, rfl, h0, h1, h2, h3⟩ := kPost_open h; obtain ⟨A2, c2, rfl, _⟩ := sl_open h2; have H := Sep.start w; have hx9 := hx; have hsx' := hsx; unfold smItem at hsx'; obtain ⟨u3, rfl, q0, q1, q2, q3⟩ := kItem_open hx; obtain ⟨A9, c9, rfl, _⟩ := sl_open q3; refine body_of follows Tryz.func49 rfl rfl _ rfl (by kernel_rfl) (vs ?_); refine x_bx H [v0, .int .i64 p.f_Time, .slice A2 p.f_Book.length c2, .int .i64 p.f_Sure] fun g1 w1 H => vs ?_; refine x_bx H [.string ⟨x.f_Route.toArray⟩, .int .i64 x.f_Topic, .int .i64 x.f_Due, .slice A9 x.f_Bytes.length c9] fun g9 w9 H => vs ?_; refine x_al H st32 fun g2 w2 H => vs ?_; refine x_lda H st32 ?_; refine vs ?_; refine x_call (l15Copy_ok _ _ p (H.rd h9) hs) fun _ w3 R => ?_; unfold PostR at R; obtain ⟨pa0, pf0, pa2, pf2, rfl, S⟩ := R; have H := H.join S; simp only [List.cons_append, List.nil_append] at H; have po0 := one1 (fp := pf0) (x := p.f_Queue) H (.head _); obtain ⟨pB, pd, rfl, _⟩ := sl_open (H.own (fp := pf2) (x := p.f_Book) (.tail _ (.head _))); refine vs ?_; refine x_al H st32 fun g4 w4 H => vs ?_; refine x_sta H st32 (vs := [pa0, .int .i64 p.f_Time, .slice pB p.f_Book.length pd, .int .i64 p.f_Sure]) (h1 := one4 po0 rfl) fun w4 H => vs ?_; refine x_lda H st32 ?_; refine vs ?_; refine x_callb H (specPostOk_ok _ _ p (H.rd h9) hs) fun w6 H => ?_
  cases hok : postOk p with
  | false =>
    refine vs ?_; refine x_lda H st32 ?_; refine vs ?_; refine x_sta H st32 (vs := [pa0, .int .i64 p.f_Time, .slice pB p.f_Book.length pd, .int .i64 p.f_Sure]) (h1 := one4 po0 rfl) fun wz H => vs ?_; have H := H.front (c := Ck.own (bytes 5) pf2 [.slice pB p.f_Book.length pd] p.f_Book); have H := H.front (c := Ck.own items pf0 [pa0] p.f_Queue); obtain ⟨fz, H⟩ := ownPost p H h1 h3; rw [drop_bad (fun hh => by have := hh.1; rw [hok] at this; cases this)]; exact ⟨_, _, rfl, res_cell H st32, _, _, rfl, H.head⟩
  | true =>
    refine vs ?_; refine x_lda H st28 ?_; refine vs ?_; refine x_callb H (specItemOk_ok _ _ x (H.rd hx9) (by omega)) fun w7 H => ?_
    cases hio : itemOk x with
    | false =>
      refine vs ?_; refine x_lda H st32 ?_; refine vs ?_; refine x_sta H st32 (vs := [pa0, .int .i64 p.f_Time, .slice pB p.f_Book.length pd, .int .i64 p.f_Sure]) (h1 := one4 po0 rfl) fun wz H => vs ?_; have H := H.front (c := Ck.own (bytes 5) pf2 [.slice pB p.f_Book.length pd] p.f_Book); have H := H.front (c := Ck.own items pf0 [pa0] p.f_Queue); obtain ⟨fz, H⟩ := ownPost p H h1 h3; rw [drop_bad (fun hh => by have := hh.2.1; rw [hio] at this; cases this)]; exact ⟨_, _, rfl, res_cell H st32, _, _, rfl, H.head⟩
    | true =>
      refine vs ?_; refine x_ld H sc3 ?_; refine vs ?_; refine x_ld H sc3 ?_
      by_cases hd : x.f_Due < p.f_Time
      · refine ve hd ?_
        refine x_lda H st32 ?_; refine vs ?_; refine x_sta H st32 (vs := [pa0, .int .i64 p.f_Time, .slice pB p.f_Book.length pd, .int .i64 p.f_Sure]) (h1 := one4 po0 rfl) fun wz H => vs ?_; have H := H.front (c := Ck.own (bytes 5) pf2 [.slice pB p.f_Book.length pd] p.f_Book); have H := H.front (c := Ck.own items pf0 [pa0] p.f_Queue); obtain ⟨fz, H⟩ := ownPost p H h1 h3; rw [drop_bad (fun hh => by have := hh.2.2; omega)]; exact ⟨_, _, rfl, res_cell H st32, _, _, rfl, H.head⟩
      have hd2 : p.f_Time ≤ x.f_Due := by omega
      have hll := lineBytes_le (putLine x); have hql := postOk_len hok; refine ve hd ?_; refine x_ld H sc30 ?_; refine vs ?_; refine x_lda H st28 ?_; refine vs ?_; refine x_call (specPut_ok _ v0 _ _ x (H.rd h0) (H.rd hx9) hs'.1 hsx (by omega)) fun _ w8 ⟨vq, fq, e, S⟩ => ?_; subst e; have H := H.join S; simp only [List.cons_append, List.nil_append] at H; have oq := one1 (fp := fq) (x := (put p.f_Queue x).1) H (.head _); refine vs ?_
      refine cut_to (σ := Nat × Value × List Nat × Value × List Nat) (fun y => [(4, .pointer (some ⟨g2, 0, none⟩)), (6, .pointer (some ⟨g4, 0, none⟩)), (7, vq), (8, .bool (put p.f_Queue x).2), (9, .pointer (some ⟨y.1, 0, none⟩)), (10, .bool (decide (p.f_Book.length + (lineBytes (putLine x)).length ≤ 12000)))])
        (fun y w' => y.2.1.oneCell' = true ∧ y.2.2.2.1.oneCell' = true ∧ Sep w.heap.size w w' [Ck.box y.1 [y.2.1, .int .i64 p.f_Time, y.2.2.2.1, .int .i64 p.f_Sure] 32, Ck.own (bytes 5) y.2.2.2.2 [y.2.2.2.1] (p.f_Book ++ lineBytes (putLine x)), Ck.own items fq [vq] (put p.f_Queue x).1, Ck.box g4 [pa0, .int .i64 p.f_Time, .slice pB p.f_Book.length pd, .int .i64 p.f_Sure] 32, Ck.own items pf0 [pa0] p.f_Queue, Ck.own (bytes 5) pf2 [.slice pB p.f_Book.length pd] p.f_Book, Ck.box g2 [.slice none 0 0, .int .i64 0, .slice none 0 0, .int .i64 0] 32]) ?_ ?_
      · have J := Sep.start w8
        refine fork_draw w8.heap.size [] fun wa hh hba => ?_; have J := J.go (hba _); have J3 := J; refine rest_pre [(0, true), (2, true), (3, true), (4, true), (5, true), (6, true), (7, true), (8, true), (9, true), (10, true)] 8 ?_; refine vs ?_; refine q_ldaB H J3 st32 ?_; refine vs ?_; refine q_ldB H J3 sc9 ?_; refine vs ?_; refine q_ldB H J3 sc3 ?_; refine vs ?_; refine q_ldB H J3 sc3 ?_; refine vs ?_; refine q_ldB H J3 sc22 ?_; refine vs ?_; refine q_bld bl103 [.int .i64 1, .string ⟨x.f_Route.toArray⟩, .int .i64 x.f_Topic, .int .i64 x.f_Due, .slice A9 x.f_Bytes.length c9] ?_; refine vs ?_; refine rest_fork 1 15 7 ?_ ?_
        · refine vs ?_
          refine x_call (l15Copy_ok _ _ p (J.rd (H.rd h9)) hs) fun _ wk R => ?_; unfold PostR at R; obtain ⟨ra0, rf0, ra2, rf2, rfl, S⟩ := R; have J := J.join S; simp only [List.cons_append, List.nil_append] at J; have ro0 := one1 (fp := rf0) (x := p.f_Queue) J (.head _); refine vs ?_; refine ⟨kept_base J3 J, ?_⟩; refine rest_fork 11 15 6 ?_ ?_
          · refine vs ?_
            have J := J.front (c := Ck.own (bytes 5) rf2 [ra2] p.f_Book); have J := J.front (c := Ck.own items rf0 [ra0] p.f_Queue); refine x_call (l15Noted_ok p.f_Time p.f_Sure [.int .i64 1, .string ⟨x.f_Route.toArray⟩, .int .i64 x.f_Topic, .int .i64 x.f_Due, .slice A9 x.f_Bytes.length c9] (putLine x) J (putLine_rd (H.rd hx9)) hsx'.1 hsx'.2 hs'.2) fun _ wl ⟨f8, v8, e, J⟩ => ?_; subst e; rw [putLine_ok hio, Bool.true_and]; have o8 := one1 (fp := f8) (x := p.f_Book ++ lineBytes (putLine x)) J (.tail _ (.head _)); refine vs ?_; refine ⟨kept_base J3 J, ?_⟩; refine rest_end [(12, true), (13, true), (14, true), (15, false), (16, false), (17, true)] ?_; refine vs ?_; refine qx_extract0 ?_; refine vs ?_; refine qx_extract1 ?_; refine vs ?_; refine x_al J st32 fun g5 wm J => vs ?_; refine ⟨kept_base J3 J, ?_⟩; refine x_sta J st32 (vs := [ra0, .int .i64 p.f_Time, v8, .int .i64 p.f_Sure]) (h1 := one4 ro0 o8) fun wn J => vs ?_; refine ⟨kept_base J3 J, ?_⟩; have H := H.join J; simp only [List.cons_append, List.nil_append] at H; have H := H.front (c := Ck.box g2 [.slice none 0 0, .int .i64 0, .slice none 0 0, .int .i64 0] 32); have H := H.front (c := Ck.own (bytes 5) pf2 [.slice pB p.f_Book.length pd] p.f_Book); have H := H.front (c := Ck.own items pf0 [pa0] p.f_Queue); have H := H.front (c := Ck.box g4 [pa0, .int .i64 p.f_Time, .slice pB p.f_Book.length pd, .int .i64 p.f_Sure] 32); have H := H.front (c := Ck.own items fq [vq] (put p.f_Queue x).1); have H := H.front (c := Ck.own (bytes 5) f8 [v8] (p.f_Book ++ lineBytes (putLine x))); have H := H.front (c := Ck.box g5 [ra0, .int .i64 p.f_Time, v8, .int .i64 p.f_Sure] 32); exact ⟨(g5, ra0, rf0, v8, f8), vs trivial, ro0, o8, Sep.left (L := [_, _, _, _, _, _, _]) H⟩
          · refine vs ?_
            refine x_al J st32 fun g5 wm J => vs ?_; refine ⟨kept_base J3 J, ?_⟩; refine rest_end [(11, false), (12, true), (13, true), (14, true), (16, false), (17, true)] ?_; refine vs ?_; have J := J.front (c := Ck.own (bytes 5) rf2 [ra2] p.f_Book); have J := J.front (c := Ck.own items rf0 [ra0] p.f_Queue); refine x_call (l15Noted_ok p.f_Time p.f_Sure [.int .i64 1, .string ⟨x.f_Route.toArray⟩, .int .i64 x.f_Topic, .int .i64 x.f_Due, .slice A9 x.f_Bytes.length c9] (putLine x) J (putLine_rd (H.rd hx9)) hsx'.1 hsx'.2 hs'.2) fun _ wl ⟨f8, v8, e, J⟩ => ?_; subst e; rw [putLine_ok hio, Bool.true_and]; have o8 := one1 (fp := f8) (x := p.f_Book ++ lineBytes (putLine x)) J (.tail _ (.head _)); refine vs ?_; refine ⟨kept_base J3 J, ?_⟩; refine qx_extract0 ?_; refine vs ?_; refine qx_extract1 ?_; refine vs ?_; refine x_sta J st32 (vs := [ra0, .int .i64 p.f_Time, v8, .int .i64 p.f_Sure]) (h1 := one4 ro0 o8) fun wn J => vs ?_; refine ⟨kept_base J3 J, ?_⟩; have H := H.join J; simp only [List.cons_append, List.nil_append] at H; have H := H.front (c := Ck.box g2 [.slice none 0 0, .int .i64 0, .slice none 0 0, .int .i64 0] 32); have H := H.front (c := Ck.own (bytes 5) pf2 [.slice pB p.f_Book.length pd] p.f_Book); have H := H.front (c := Ck.own items pf0 [pa0] p.f_Queue); have H := H.front (c := Ck.box g4 [pa0, .int .i64 p.f_Time, .slice pB p.f_Book.length pd, .int .i64 p.f_Sure] 32); have H := H.front (c := Ck.own items fq [vq] (put p.f_Queue x).1); have H := H.front (c := Ck.own (bytes 5) f8 [v8] (p.f_Book ++ lineBytes (putLine x))); have H := H.front (c := Ck.box g5 [ra0, .int .i64 p.f_Time, v8, .int .i64 p.f_Sure] 32); exact ⟨(g5, ra0, rf0, v8, f8), vs trivial, ro0, o8, Sep.left (L := [_, _, _, _, _, _, _]) H⟩
        · refine vs ?_
          refine x_al J st32 fun g5 wm J => vs ?_; refine ⟨kept_base J3 J, ?_⟩; refine rest_end [(1, false), (11, false), (12, true), (13, true), (14, true), (16, false), (17, true)] ?_; refine vs ?_; refine x_call (l15Copy_ok _ _ p (J.rd (H.rd h9)) hs) fun _ wk R => ?_; unfold PostR at R; obtain ⟨ra0, rf0, ra2, rf2, rfl, S⟩ := R; have J := J.join S; simp only [List.cons_append, List.nil_append] at J; have ro0 := one1 (fp := rf0) (x := p.f_Queue) J (.head _); refine vs ?_; refine ⟨kept_base J3 J, ?_⟩; have J := J.front (c := Ck.own (bytes 5) rf2 [ra2] p.f_Book); have J := J.front (c := Ck.own items rf0 [ra0] p.f_Queue); refine x_call (l15Noted_ok p.f_Time p.f_Sure [.int .i64 1, .string ⟨x.f_Route.toArray⟩, .int .i64 x.f_Topic, .int .i64 x.f_Due, .slice A9 x.f_Bytes.length c9] (putLine x) J (putLine_rd (H.rd hx9)) hsx'.1 hsx'.2 hs'.2) fun _ wl ⟨f8, v8, e, J⟩ => ?_; subst e; rw [putLine_ok hio, Bool.true_and]; have o8 := one1 (fp := f8) (x := p.f_Book ++ lineBytes (putLine x)) J (.tail _ (.head _)); refine vs ?_; refine ⟨kept_base J3 J, ?_⟩; refine qx_extract0 ?_; refine vs ?_; refine qx_extract1 ?_; refine vs ?_; refine x_sta J st32 (vs := [ra0, .int .i64 p.f_Time, v8, .int .i64 p.f_Sure]) (h1 := one4 ro0 o8) fun wn J => vs ?_; refine ⟨kept_base J3 J, ?_⟩; have H := H.join J; simp only [List.cons_append, List.nil_append] at H; have H := H.front (c := Ck.box g2 [.slice none 0 0, .int .i64 0, .slice none 0 0, .int .i64 0] 32); have H := H.front (c := Ck.own (bytes 5) pf2 [.slice pB p.f_Book.length pd] p.f_Book); have H := H.front (c := Ck.own items pf0 [pa0] p.f_Queue); have H := H.front (c := Ck.box g4 [pa0, .int .i64 p.f_Time, .slice pB p.f_Book.length pd, .int .i64 p.f_Sure] 32); have H := H.front (c := Ck.own items fq [vq] (put p.f_Queue x).1)
          have H := H.front (c := Ck.own (bytes 5) f8 [v8] (p.f_Book ++ lineBytes (putLine x))); have H := H.front (c := Ck.box g5 [ra0, .int .i64 p.f_Time, v8, .int .i64 p.f_Sure] 32); exact ⟨(g5, ra0, rf0, v8, f8), vs trivial, ro0, o8, Sep.left (L := [_, _, _, _, _, _, _]) H⟩
      rintro ⟨g5, ra0, rf0, v8, f8⟩ s9 wf ⟨ro0, o8, H⟩; dsimp only at ro0 o8 H
      cases hput : (put p.f_Queue x).2 with
      | false =>
        refine vs ?_; refine x_lda H st32 ?_; refine vs ?_; refine x_sta H st32 (vs := [pa0, .int .i64 p.f_Time, .slice pB p.f_Book.length pd, .int .i64 p.f_Sure]) (h1 := one4 po0 rfl) fun wz H => vs ?_; have H := H.front (c := Ck.own (bytes 5) pf2 [.slice pB p.f_Book.length pd] p.f_Book); have H := H.front (c := Ck.own items pf0 [pa0] p.f_Queue); obtain ⟨fz, H⟩ := ownPost p H h1 h3; rw [drop_full hok hio hd2 (fun hh => by have := hh.1; rw [hput] at this; cases this)]; exact ⟨_, _, rfl, res_cell H st32, _, _, rfl, H.head⟩
      | true =>
        by_cases hf : p.f_Book.length + (lineBytes (putLine x)).length ≤ 12000
        rotate_left
        · refine ve hf ?_
          refine x_lda H st32 ?_; refine vs ?_; refine x_sta H st32 (vs := [pa0, .int .i64 p.f_Time, .slice pB p.f_Book.length pd, .int .i64 p.f_Sure]) (h1 := one4 po0 rfl) fun wz H => vs ?_; have H := H.front (c := Ck.own (bytes 5) pf2 [.slice pB p.f_Book.length pd] p.f_Book); have H := H.front (c := Ck.own items pf0 [pa0] p.f_Queue); obtain ⟨fz, H⟩ := ownPost p H h1 h3; rw [drop_full hok hio hd2 (fun hh => hf hh.2)]; exact ⟨_, _, rfl, res_cell H st32, _, _, rfl, H.head⟩
        refine ve (show (p.f_Book.length + (lineBytes (putLine x)).length ≤ 12000) = True from eq_true hf) ?_; refine x_st H sc30 (h1 := oq) fun wd H => vs ?_; refine x_lda H st32 ?_; refine vs ?_; refine x_sta H st32 (vs := [vq, .int .i64 p.f_Time, v8, .int .i64 p.f_Sure]) (h1 := one4 oq o8) fun we H => vs ?_; have H := H.front (c := Ck.own (bytes 5) f8 [v8] (p.f_Book ++ lineBytes (putLine x))); have H := H.front (c := Ck.own items fq [vq] (put p.f_Queue x).1); obtain ⟨fz, H⟩ := ownPost (⟨(put p.f_Queue x).1, p.f_Time, p.f_Book ++ lineBytes (putLine x), p.f_Sure⟩ : MPost) H h1 h3; rw [drop_done hok hio hd2 hput hf]; exact ⟨_, _, rfl, res_cell H st32, _, _, rfl, H.head⟩
theorem fetch_bad {p : MPost} {r : List UInt8} (h : ¬ (postOk p = true ∧ isRoute r = true)) : fetchP p r = (p, zItem, 1) := by
  unfold fetchP; rw [if_neg]; simp only [Bool.and_eq_true]; exact h
theorem fetch_none {p : MPost} {r : List UInt8} (h : postOk p = true) (h1 : isRoute r = true) (h2 : (takeQ p.f_Queue r).2.2 = false) : fetchP p r = (p, zItem, 3) := by
  unfold fetchP; rw [if_pos (by rw [h, h1]; rfl), if_neg (by rw [h2]; decide)]
theorem fetch_full {p : MPost} {r : List UInt8} (h : postOk p = true) (h1 : isRoute r = true) (h2 : (takeQ p.f_Queue r).2.2 = true) (h3 : ¬ p.f_Book.length + (lineBytes (takeLine r)).length ≤ 12000) : fetchP p r = (p, zItem, 2) := by
  unfold fetchP; rw [if_pos (by rw [h, h1]; rfl), if_pos h2, if_neg (by unfold fits; rw [decide_eq_false h3]; decide)]
theorem fetch_done {p : MPost} {r : List UInt8} (h : postOk p = true) (h1 : isRoute r = true) (h2 : (takeQ p.f_Queue r).2.2 = true) (h3 : p.f_Book.length + (lineBytes (takeLine r)).length ≤ 12000) : fetchP p r = (⟨(takeQ p.f_Queue r).2.1, p.f_Time, p.f_Book ++ lineBytes (takeLine r), p.f_Sure⟩, (takeQ p.f_Queue r).1, 0) := by
  unfold fetchP; rw [if_pos (by rw [h, h1]; rfl), if_pos h2, if_pos (by unfold fits; rw [decide_eq_true h3])]
theorem takeLine_ok {r : List UInt8} (h : isRoute r = true) : lineOk (takeLine r) = true := by
  rw [lineOk_2 rfl]; have e : isRoute (takeLine r).f_Route = true := h; rw [e]; rfl
theorem takeLine_rd (w : World) (n : Nat) {r : List UInt8} (h : r.length ≤ 9223372036854775807) : kLine.rd w n [.int .i64 2, .string ⟨r.toArray⟩, .int .i64 0, .int .i64 0, .slice none 0 0] (takeLine r) :=
  kLine_of (takeLine r) (by show (-9223372036854775808 : Int) ≤ 2 ∧ (2 : Int) < 9223372036854775808; decide) h (by show (-9223372036854775808 : Int) ≤ 0 ∧ (0 : Int) < 9223372036854775808; decide) (by show (-9223372036854775808 : Int) ≤ 0 ∧ (0 : Int) < 9223372036854775808; decide) (Kd.own_rd _ (sl_zero w) (by simp))
theorem smItem_z : smItem zItem := by unfold smItem zItem; decide
theorem takeQ_sm {q : List MItem} {r : List UInt8} (hs : smItemS q) : smItem (takeQ q r).1 ∧ smItemS (takeQ q r).2.1 := by
  unfold takeQ
  split
  · refine ⟨?_, sm_erase hs _⟩
    show smItem (itAt q _)
    unfold itAt; rw [List.getD_eq_getElem?_getD]
    rename_i i _
    by_cases h : i < q.length
    · rw [List.getElem?_eq_getElem h, Option.getD_some]; exact hs.2 _ (List.getElem_mem h)
    · rw [List.getElem?_eq_none (by omega), Option.getD_none]; exact smItem_z
  · exact ⟨smItem_z, hs⟩
theorem fetchP_sm {p : MPost} {r : List UInt8} (hs : smPost p) : smPost (fetchP p r).1 ∧ smItem (fetchP p r).2.1 := by
  have ht := takeQ_sm (r := r) hs.1; unfold fetchP
  split
  · split
    · split
      · rename_i h2
        unfold fits at h2; simp only [decide_eq_true_eq] at h2; exact ⟨⟨ht.2, by show (p.f_Book ++ lineBytes (takeLine r)).length ≤ 1048576; rw [List.length_append]; omega⟩, ht.1⟩
      · exact ⟨hs, smItem_z⟩
    · exact ⟨hs, smItem_z⟩
  · exact ⟨hs, smItem_z⟩
theorem specFetch_ok (w : World) (cs : List Value) (p : MPost) (r : List UInt8) (h : kPost.rd w w.heap.size cs p) (hs : smPost p) (hrl : r.length ≤ 1048576) :
    ACalls Tryz.prog 46 #[.agg cs.toArray, .string ⟨r.toArray⟩] w fun z w' => ∃ cs' fp ds' fi, z = .tuple #[.agg cs'.toArray, .agg ds'.toArray, .int .i64 (fetchP p r).2.2] ∧ Sep w.heap.size w w' [Ck.own kPost fp cs' (fetchP p r).1, Ck.own kItem fi ds' (fetchP p r).2.1] := by
  have hs' := hs; unfold smPost at hs'; have h9 := h; obtain ⟨v0, v2, rfl, h0, h1, h2, h3⟩ := kPost_open h; obtain ⟨A2, c2, rfl, _⟩ := sl_open h2; have H := Sep.start w; refine body_of follows Tryz.func46 rfl rfl _ rfl (by kernel_rfl) (vs ?_); refine x_bx H [v0, .int .i64 p.f_Time, .slice A2 p.f_Book.length c2, .int .i64 p.f_Sure] fun g1 w1 H => vs ?_; refine x_al H st32 fun g2 w2 H => vs ?_; refine x_al H st28 fun g8 w9 H => vs ?_; refine x_lda H st32 ?_; refine vs ?_; refine x_call (l15Copy_ok _ _ p (H.rd h9) hs) fun _ w3 R => ?_; unfold PostR at R; obtain ⟨pa0, pf0, pa2, pf2, rfl, S⟩ := R; have H := H.join S; simp only [List.cons_append, List.nil_append] at H; have po0 := one1 (fp := pf0) (x := p.f_Queue) H (.head _); obtain ⟨pB, pd, rfl, _⟩ := sl_open (H.own (fp := pf2) (x := p.f_Book) (.tail _ (.head _))); refine vs ?_; refine x_al H st32 fun g4 w4 H => vs ?_; refine x_sta H st32 (vs := [pa0, .int .i64 p.f_Time, .slice pB p.f_Book.length pd, .int .i64 p.f_Sure]) (h1 := one4 po0 rfl) fun w4 H => vs ?_; refine x_lda H st32 ?_; refine vs ?_; refine x_callb H (specPostOk_ok _ _ p (H.rd h9) hs) fun w6 H => ?_
  cases hok : postOk p with
  | false =>
    refine vs ?_; refine x_lda H st32 ?_; refine vs ?_; refine x_build bl28 [.string ⟨#[]⟩, .int .i64 0, .int .i64 0, .slice none 0 0] ?_; refine vs ?_; refine x_sta H st32 (vs := [pa0, .int .i64 p.f_Time, .slice pB p.f_Book.length pd, .int .i64 p.f_Sure]) (h1 := one4 po0 rfl) fun wz H => vs ?_; have H := H.nothing (kItem_zero wz); refine x_sta H st28 (vs := [.string ⟨#[]⟩, .int .i64 0, .int .i64 0, .slice none 0 0]) (h1 := Kd.one _ (H.own (.head _))) fun wy H => vs ?_; have H := H.front (c := Ck.own kItem [] [.string ⟨#[]⟩, .int .i64 0, .int .i64 0, .slice none 0 0] zItem); have H := H.front (c := Ck.own (bytes 5) pf2 [.slice pB p.f_Book.length pd] p.f_Book); have H := H.front (c := Ck.own items pf0 [pa0] p.f_Queue); obtain ⟨fz, H⟩ := ownPost p H h1 h3; rw [fetch_bad (fun hh => by have := hh.1; rw [hok] at this; cases this)]; exact ⟨_, _, rfl, res_cell H st32, _, _, rfl, res_cell H st28, _, _, _, _, rfl, H.two .here .here⟩
  | true =>
    refine vs ?_; refine x_callb H (specIsRoute_ok w6 r (by omega)) fun w7 H => ?_
    cases hro : isRoute r with
    | false =>
      refine vs ?_; refine x_lda H st32 ?_; refine vs ?_; refine x_build bl28 [.string ⟨#[]⟩, .int .i64 0, .int .i64 0, .slice none 0 0] ?_; refine vs ?_; refine x_sta H st32 (vs := [pa0, .int .i64 p.f_Time, .slice pB p.f_Book.length pd, .int .i64 p.f_Sure]) (h1 := one4 po0 rfl) fun wz H => vs ?_; have H := H.nothing (kItem_zero wz); refine x_sta H st28 (vs := [.string ⟨#[]⟩, .int .i64 0, .int .i64 0, .slice none 0 0]) (h1 := Kd.one _ (H.own (.head _))) fun wy H => vs ?_; have H := H.front (c := Ck.own kItem [] [.string ⟨#[]⟩, .int .i64 0, .int .i64 0, .slice none 0 0] zItem); have H := H.front (c := Ck.own (bytes 5) pf2 [.slice pB p.f_Book.length pd] p.f_Book); have H := H.front (c := Ck.own items pf0 [pa0] p.f_Queue); obtain ⟨fz, H⟩ := ownPost p H h1 h3; rw [fetch_bad (fun hh => by have := hh.2; rw [hro] at this; cases this)]; exact ⟨_, _, rfl, res_cell H st32, _, _, rfl, res_cell H st28, _, _, _, _, rfl, H.two .here .here⟩
    | true =>
      have hll := lineBytes_le (takeLine r); refine vs ?_; refine x_ld H sc30 ?_; refine vs ?_; refine x_call (specTake_ok _ v0 _ r (H.rd h0) hs'.1) fun _ w8 ⟨ds, fi, vq, fq, e, S⟩ => ?_; subst e; have H := H.join S; simp only [List.cons_append, List.nil_append] at H; have oq := one1 (fp := fq) (x := (takeQ p.f_Queue r).2.1) H (.head _); have oi0 := Kd.one _ (H.own (fp := fi) (x := (takeQ p.f_Queue r).1) (.tail _ (.head _))); obtain ⟨u5, e5, _⟩ := kItem_open (H.own (fp := fi) (x := (takeQ p.f_Queue r).1) (.tail _ (.head _))); subst e5; refine vs ?_; refine x_al H st28 fun g6 wa H => vs ?_; refine x_sta H st28 (h1 := oi0) fun wb H => ?_
      cases htk : (takeQ p.f_Queue r).2.2 with
      | false =>
        refine vs ?_; refine x_lda H st32 ?_; refine vs ?_; refine x_build bl28 [.string ⟨#[]⟩, .int .i64 0, .int .i64 0, .slice none 0 0] ?_; refine vs ?_; refine x_sta H st32 (vs := [pa0, .int .i64 p.f_Time, .slice pB p.f_Book.length pd, .int .i64 p.f_Sure]) (h1 := one4 po0 rfl) fun wz H => vs ?_; have H := H.nothing (kItem_zero wz); refine x_sta H st28 (vs := [.string ⟨#[]⟩, .int .i64 0, .int .i64 0, .slice none 0 0]) (h1 := Kd.one _ (H.own (.head _))) fun wy H => vs ?_; have H := H.front (c := Ck.own kItem [] [.string ⟨#[]⟩, .int .i64 0, .int .i64 0, .slice none 0 0] zItem); have H := H.front (c := Ck.own (bytes 5) pf2 [.slice pB p.f_Book.length pd] p.f_Book); have H := H.front (c := Ck.own items pf0 [pa0] p.f_Queue); obtain ⟨fz, H⟩ := ownPost p H h1 h3; rw [fetch_none hok hro htk]; exact ⟨_, _, rfl, res_cell H st32, _, _, rfl, res_cell H st28, _, _, _, _, rfl, H.two .here .here⟩
      | true =>
        refine vs ?_; refine x_lda H st32 ?_; refine vs ?_; refine x_call (l15Copy_ok _ _ p (H.rd h9) hs) fun _ wc R => ?_; unfold PostR at R; obtain ⟨ra0, rf0, ra2, rf2, rfl, S⟩ := R; have H := H.join S; simp only [List.cons_append, List.nil_append] at H; have ro0 := one1 (fp := rf0) (x := p.f_Queue) H (.head _); refine vs ?_; refine x_build bl103 [.int .i64 2, .string ⟨r.toArray⟩, .int .i64 0, .int .i64 0, .slice none 0 0] ?_; refine vs ?_; refine x_call (l15Noted_ok p.f_Time p.f_Sure [.int .i64 2, .string ⟨r.toArray⟩, .int .i64 0, .int .i64 0, .slice none 0 0] (takeLine r) H (takeLine_rd _ _ (by omega)) hrl (by show ([] : List UInt8).length ≤ 1048576; decide) hs'.2) fun _ wd ⟨f8, v8, e, H⟩ => ?_; subst e; rw [takeLine_ok hro, Bool.true_and]; have o8 := one1 (fp := f8) (x := p.f_Book ++ lineBytes (takeLine r)) H (.tail _ (.head _)); refine vs ?_; refine x_al H st32 fun g7 we H => vs ?_; refine x_sta H st32 (vs := [ra0, .int .i64 p.f_Time, v8, .int .i64 p.f_Sure]) (h1 := one4 ro0 o8) fun wf H => vs ?_
        by_cases hf : p.f_Book.length + (lineBytes (takeLine r)).length ≤ 12000
        rotate_left
        · refine ve hf ?_
          refine x_lda H st32 ?_; refine vs ?_; refine x_build bl28 [.string ⟨#[]⟩, .int .i64 0, .int .i64 0, .slice none 0 0] ?_; refine vs ?_; refine x_sta H st32 (vs := [pa0, .int .i64 p.f_Time, .slice pB p.f_Book.length pd, .int .i64 p.f_Sure]) (h1 := one4 po0 rfl) fun wz H => vs ?_; have H := H.nothing (kItem_zero wz); refine x_sta H st28 (vs := [.string ⟨#[]⟩, .int .i64 0, .int .i64 0, .slice none 0 0]) (h1 := Kd.one _ (H.own (.head _))) fun wy H => vs ?_; have H := H.front (c := Ck.own kItem [] [.string ⟨#[]⟩, .int .i64 0, .int .i64 0, .slice none 0 0] zItem); have H := H.front (c := Ck.own (bytes 5) pf2 [.slice pB p.f_Book.length pd] p.f_Book); have H := H.front (c := Ck.own items pf0 [pa0] p.f_Queue); obtain ⟨fz, H⟩ := ownPost p H h1 h3; rw [fetch_full hok hro htk hf]; exact ⟨_, _, rfl, res_cell H st32, _, _, rfl, res_cell H st28, _, _, _, _, rfl, H.two .here .here⟩
        refine ve (show (p.f_Book.length + (lineBytes (takeLine r)).length ≤ 12000) = True from eq_true hf) ?_; refine x_st H sc30 (h1 := oq) fun wg H => vs ?_; have oi := Kd.one _ (H.om (fp := fi) (x := (takeQ p.f_Queue r).1)); have ne1 : g7 ≠ g2 := H.boxne (cs := [vq, .int .i64 p.f_Time, v8, .int .i64 p.f_Sure]) (cs' := [.slice none 0 0, .int .i64 0, .slice none 0 0, .int .i64 0]) (t := 32) (t' := 32); have ne2 : g7 ≠ g8 := H.boxne (cs := [vq, .int .i64 p.f_Time, v8, .int .i64 p.f_Sure]) (cs' := [.string ⟨#[]⟩, .int .i64 0, .int .i64 0, .slice none 0 0]) (t := 32) (t' := 28); have ne3 : g6 ≠ g2 := H.boxne (cs := [.string ⟨(takeQ p.f_Queue r).1.f_Route.toArray⟩, .int .i64 (takeQ p.f_Queue r).1.f_Topic, .int .i64 (takeQ p.f_Queue r).1.f_Due, u5]) (cs' := [.slice none 0 0, .int .i64 0, .slice none 0 0, .int .i64 0]) (t := 28) (t' := 32); have ne4 : g6 ≠ g8 := H.boxne (cs := [.string ⟨(takeQ p.f_Queue r).1.f_Route.toArray⟩, .int .i64 (takeQ p.f_Queue r).1.f_Topic, .int .i64 (takeQ p.f_Queue r).1.f_Due, u5]) (cs' := [.string ⟨#[]⟩, .int .i64 0, .int .i64 0, .slice none 0 0]) (t := 28) (t' := 28); refine draw_of [(0, true), (1, true), (2, false), (3, false), (4, true)] wg.heap.size [(g2, 0), (g8, 0)] fun wj hh hbj => vs ?_; have H := H.go (hbj _); have hwj : wj.heap.size = wg.heap.size := by rw [hh]
        rw [← hwj]; have qa : ∀ k, (g7, k) ∉ [(g2, 0), (g8, 0)] := fun k hk => by simp only [List.mem_cons, List.not_mem_nil, or_false, Prod.mk.injEq] at hk; omega
        have qb : ∀ k, (g6, k) ∉ [(g2, 0), (g8, 0)] := fun k hk => by simp only [List.mem_cons, List.not_mem_nil, or_false, Prod.mk.injEq] at hk; omega
        have z0 : ∀ g t, (g, t) ∈ [(g2, 0), (g8, 0)] → t = 0 := fun g t ht => by simp only [List.mem_cons, List.not_mem_nil, or_false, Prod.mk.injEq] at ht; omega
        refine q_ldaG H st32 qa (cs := [vq, .int .i64 p.f_Time, v8, .int .i64 p.f_Sure]) ?_; refine vs ?_; refine q_ldaG H st28 qb (cs := [.string ⟨(takeQ p.f_Queue r).1.f_Route.toArray⟩, .int .i64 (takeQ p.f_Queue r).1.f_Topic, .int .i64 (takeQ p.f_Queue r).1.f_Due, u5]) ?_; refine vs ?_; refine x_staD H st32 (vs := [vq, .int .i64 p.f_Time, v8, .int .i64 p.f_Sure]) (fun wk H hc1 => vs ?_) (h1 := one4 oq o8); have k1 := kept_chg (G := [(g2, 0), (g8, 0)]) (Kept.refl wj.heap.size _ wj) hc1 (fun b hb => by simp only [List.mem_singleton] at hb; subst hb; exact .head _) (Nat.le_refl _) z0; refine ⟨k1, ?_⟩; refine x_staD H st28 (vs := [.string ⟨(takeQ p.f_Queue r).1.f_Route.toArray⟩, .int .i64 (takeQ p.f_Queue r).1.f_Topic, .int .i64 (takeQ p.f_Queue r).1.f_Due, u5]) (fun wl H hc2 => vs ?_) (h1 := oi); refine ⟨kept_chg k1 hc2 (fun b hb => by simp only [List.mem_singleton] at hb; subst hb; exact .tail _ (.head _)) hc1.size z0, ?_⟩; have H := H.front (c := Ck.own kItem fi [.string ⟨(takeQ p.f_Queue r).1.f_Route.toArray⟩, .int .i64 (takeQ p.f_Queue r).1.f_Topic, .int .i64 (takeQ p.f_Queue r).1.f_Due, u5] (takeQ p.f_Queue r).1); have H := H.front (c := Ck.own (bytes 5) f8 [v8] (p.f_Book ++ lineBytes (takeLine r))); have H := H.front (c := Ck.own items fq [vq] (takeQ p.f_Queue r).2.1); obtain ⟨fz, H⟩ := ownPost (⟨(takeQ p.f_Queue r).2.1, p.f_Time, p.f_Book ++ lineBytes (takeLine r), p.f_Sure⟩ : MPost) H h1 h3; rw [fetch_done hok hro htk hf]; exact ⟨_, _, rfl, res_cell H st32, _, _, rfl, res_cell H st28, _, _, _, _, rfl, H.two .here .here⟩
section
variable {P : Program} {w : World} {K : Value → World → Prop} {tg : Tg K}
theorem x_minB {ts : Array TypeId} {ty : TypeId} {a b : Int} (h : K (.int .i64 (min a b)) w) : Builtin' P K tg .min ts ty [.int .i64 a, .int .i64 b] w := by
  show vS P (Builtin.min_ ts ty #[.int .i64 a, .int .i64 b]) w K
  refine vS_run (v := .int .i64 (min a b)) ?_ h
  by_cases hab : b < a
  · have : ¬ (a ≤ b) := by omega
    simp [Builtin.min_, Builtin.min2, Int.min_def, hab, this]
  · have : a ≤ b := by omega
    simp [Builtin.min_, Builtin.min2, Int.min_def, hab, this]
end
def kkB (s L keep : Int) : Nat := (s + max 0 (min keep (L - s))).toNat
theorem kkB_le {s : Int} {n : Nat} {keep : Int} (h : 0 ≤ s ∧ s ≤ (n : Int)) : kkB s (n : Int) keep ≤ n := by unfold kkB; omega
theorem fall_d {s L : Int} (h : 0 ≤ s ∧ s ≤ L) (hL : L ≤ 12000) : w64 (L - s) = L - s := by unfold w64; omega
theorem fall_2 {s L keep : Int} (h : 0 ≤ s ∧ s ≤ L) (hL : L ≤ 12000) : w64 (s + min (max keep 0) (L - s)) = (kkB s L keep : Int) := by unfold w64 kkB; omega
theorem fall_bad {p : MPost} {keep : Int} (h : postOk p = false) : fallP p keep = p := by unfold fallP; rw [if_neg (by rw [h]; decide)]
theorem fall_ok {p : MPost} {keep : Int} (h : postOk p = true) : fallP p keep = ⟨(play (p.f_Book.take (kkB p.f_Sure p.f_Book.length keep))).1, (play (p.f_Book.take (kkB p.f_Sure p.f_Book.length keep))).2.1, (p.f_Book.take (kkB p.f_Sure p.f_Book.length keep)).take (play (p.f_Book.take (kkB p.f_Sure p.f_Book.length keep))).2.2, ((play (p.f_Book.take (kkB p.f_Sure p.f_Book.length keep))).2.2 : Int)⟩ := by unfold fallP; rw [if_pos h]; rfl
theorem playGo_fits (m : Nat) : ∀ (x : List UInt8) (q : List MItem) (now : Int) (k : Nat), x.length ≤ m → QI q → (0 ≤ now ∧ now ≤ 100000) →
    QI (playGo x q now k).1 ∧ (0 ≤ (playGo x q now k).2.1 ∧ (playGo x q now k).2.1 ≤ 100000) ∧ (playGo x q now k).2.2 ≤ k + x.length := by
  induction m with
  | zero =>
    intro x q now k hx hq hn
    have e : lineAt x = none := by
      cases h : lineAt x with
      | none => rfl
      | some y => obtain ⟨l, n⟩ := y; have := lineAt_len h; omega
    rw [playGo_none e]; exact ⟨hq, hn, Nat.le_add_right _ _⟩
  | succ m ih =>
    intro x q now k hx hq hn
    cases h : lineAt x with
    | none => rw [playGo_none h]; exact ⟨hq, hn, Nat.le_add_right _ _⟩
    | some y =>
      obtain ⟨l, n⟩ := y; obtain ⟨h18, hnl, hok, _⟩ := lineAt_len h; rw [playGo_some h]; have := ih (x.drop n) (lineStep q now l).1 (lineStep q now l).2 (k + n) (by rw [List.length_drop]; omega) (QI_step hq) (now_step hok hn); refine ⟨this.1, this.2.1, ?_⟩; have h3 := this.2.2; rw [List.length_drop] at h3; omega
theorem play_fits (x : List UInt8) : QI (play x).1 ∧ (0 ≤ (play x).2.1 ∧ (play x).2.1 ≤ 100000) ∧ (play x).2.2 ≤ x.length := by
  have := playGo_fits x.length x [] 0 0 (Nat.le_refl _) QI_nil (by decide); unfold play; simpa using this
theorem fallP_sm {p : MPost} {keep : Int} (hs : smPost p) : smPost (fallP p keep) := by
  cases h : postOk p with
  | false => rw [fall_bad h]; exact hs
  | true =>
    rw [fall_ok h]; refine ⟨(play_fits _).1.sm, ?_⟩; have := (postOk_iff.1 h).1.2.2.1
    show ((p.f_Book.take _).take _).length ≤ 1048576
    rw [List.length_take, List.length_take]; omega
theorem l1MaxB_ok (w : World) (a b : Int) : ACalls Tryz.prog 35 #[.int .i64 a, .int .i64 b] w fun r w' => r = .int .i64 (max a b) ∧ w' = w := by
  refine body_of follows Tryz.func35 rfl rfl _ rfl (by kernel_rfl) (vs ?_)
  by_cases q : b < a
  · refine ve q ?_
    congr 1; omega
  · refine ve q ?_
    congr 1; omega
theorem l1MinB_ok (w : World) (a b : Int) : ACalls Tryz.prog 22 #[.int .i64 a, .int .i64 b] w fun r w' => r = .int .i64 (min a b) ∧ w' = w := by
  refine body_of follows Tryz.func22 rfl rfl _ rfl (by kernel_rfl) (vs (ways ?_ ?_))
  · refine vh fun h => ?_
    exact i64_eq (by omega)
  · refine vh fun h => ?_
    exact i64_eq (by omega)
theorem specFallTo_ok (w : World) (cs : List Value) (p : MPost) (keep : Int) (h : kPost.rd w w.heap.size cs p) (hs : smPost p) :
    ACalls Tryz.prog 60 #[.agg cs.toArray, .int .i64 keep] w fun r w' => ∃ cs' fp, r = .agg cs'.toArray ∧ Sep w.heap.size w w' [Ck.own kPost fp cs' (fallP p keep)] := by
  have hs' := hs; unfold smPost at hs'; have h9 := h; obtain ⟨v0, v2, rfl, h0, h1, h2, h3⟩ := kPost_open h; obtain ⟨A2, c2, rfl, _⟩ := sl_open h2; have H := Sep.start w; refine body_of follows Tryz.func60 rfl rfl _ rfl (by kernel_rfl) (vs ?_); refine x_bx H [v0, .int .i64 p.f_Time, .slice A2 p.f_Book.length c2, .int .i64 p.f_Sure] fun g1 w1 H => vs ?_; refine x_al H st32 fun g2 w2 H => vs ?_; refine x_lda H st32 ?_; refine vs ?_; refine x_callb H (specPostOk_ok _ _ p (H.rd h9) hs) fun w6 H => ?_
  cases hok : postOk p with
  | false =>
    refine vs ?_; refine x_lda H st32 ?_; refine vs ?_; refine x_call (l15Copy_ok _ _ p (H.rd h9) hs) fun _ w3 R => ?_; unfold PostR at R; obtain ⟨pa0, pf0, pa2, pf2, rfl, S⟩ := R; have H := H.join S; simp only [List.cons_append, List.nil_append] at H; have po0 := one1 (fp := pf0) (x := p.f_Queue) H (.head _); obtain ⟨pB, pd, rfl, _⟩ := sl_open (H.own (fp := pf2) (x := p.f_Book) (.tail _ (.head _))); refine vs ?_; refine x_sta H st32 (vs := [pa0, .int .i64 p.f_Time, .slice pB p.f_Book.length pd, .int .i64 p.f_Sure]) (h1 := one4 po0 rfl) fun wz H => vs ?_; have H := H.front (c := Ck.own (bytes 5) pf2 [.slice pB p.f_Book.length pd] p.f_Book); have H := H.front (c := Ck.own items pf0 [pa0] p.f_Queue); obtain ⟨fz, H⟩ := ownPost p H h1 h3; rw [fall_bad hok]; exact ⟨_, _, rfl, res_cell H st32, _, _, rfl, H.head⟩
  | true =>
    have hS := (postOk_iff.1 hok).1.2.2.2; have hL := (postOk_iff.1 hok).1.2.2.1; have hkk : (kkB p.f_Sure p.f_Book.length keep) ≤ p.f_Book.length := kkB_le hS; obtain ⟨pq, pn, pm⟩ := play_fits (p.f_Book.take (kkB p.f_Sure p.f_Book.length keep)); have hpl : (p.f_Book.take (kkB p.f_Sure p.f_Book.length keep)).length ≤ 12000 := by rw [List.length_take]; omega
    refine vs ?_; refine cut_to (σ := Value × List Nat) (fun y => [(4, .pointer (some ⟨g2, 0, none⟩)), (5, y.1)]) (fun y w' => Sep w.heap.size w w' [Ck.own (bytes 5) y.2 [y.1] (p.f_Book.take (kkB p.f_Sure p.f_Book.length keep)), Ck.box g2 [.slice none 0 0, .int .i64 0, .slice none 0 0, .int .i64 0] 32]) ?_ ?_
    · have J := Sep.start w6
      refine fork_draw w6.heap.size [] fun wa hh hba => ?_; have J := J.go (hba _); have J3 := J; refine rest_pre [(1, true), (2, true), (3, true), (4, true), (5, true), (7, true), (8, true), (9, true), (10, true), (11, true), (12, true)] 7 ?_; refine vs ?_; refine q_ldB H J3 sc22 ?_; refine vs ?_; refine q_ldB H J3 sc3 ?_; refine vs ?_; refine q_ldB H J3 sc22 ?_; refine vs ?_; refine q_ldB H J3 sc3 ?_; refine ve (fall_d hS (by omega)) ?_; refine rest_fork 0 6 6 ?_ ?_
      · refine vs ?_
        refine x_emp J pl_u8 sl22 fun gb wb J => vs ?_; refine ⟨kept_base J3 J, ?_⟩; refine rest_end [(6, false), (13, false), (14, true), (15, true), (16, false), (17, true)] ?_; refine vs ?_; refine x_callw (l1MaxB_ok _ _ _) ?_; refine vs ?_; refine ⟨kept_base J3 J, ?_⟩; refine x_callw (l1MinB_ok _ _ _) ?_; refine vs ?_; refine ⟨kept_base J3 J, ?_⟩; refine ve (fall_2 (keep := keep) hS (by omega)) ?_; refine q_toN sl22 rfl (kkB p.f_Sure p.f_Book.length keep) h2 rfl hkk fun v4 hv4 => vs ?_; refine x_app J pl_u8 sl22 (J.rd (H.rd hv4)) ?_ ?_ fun f5 v5 wc J => vs ?_
        · simp only [List.length_nil, List.length_take]; omega
        · simp only [List.length_nil, List.length_take]; omega
        refine ⟨kept_base J3 J, ?_⟩; rw [List.nil_append] at J; have H := H.join J; simp only [List.cons_append, List.nil_append] at H; have H := H.front (c := Ck.box g2 [.slice none 0 0, .int .i64 0, .slice none 0 0, .int .i64 0] 32); have H := H.front (c := Ck.own (bytes 5) f5 [v5] (p.f_Book.take (kkB p.f_Sure p.f_Book.length keep))); exact ⟨(v5, f5), vs trivial, Sep.left (L := [_, _]) H⟩
      · refine vs ?_
        refine x_callw (l1MaxB_ok _ _ _) ?_; refine vs ?_; refine ⟨kept_base J3 J, ?_⟩; refine rest_fork 0 13 5 ?_ ?_
        · refine vs ?_
          refine x_emp J pl_u8 sl22 fun gb wb J => vs ?_; refine ⟨kept_base J3 J, ?_⟩; refine rest_end [(13, false), (14, true), (15, true), (16, false), (17, true)] ?_; refine vs ?_; refine x_callw (l1MinB_ok _ _ _) ?_; refine vs ?_; refine ⟨kept_base J3 J, ?_⟩; refine ve (fall_2 (keep := keep) hS (by omega)) ?_; refine q_toN sl22 rfl (kkB p.f_Sure p.f_Book.length keep) h2 rfl hkk fun v4 hv4 => vs ?_; refine x_app J pl_u8 sl22 (J.rd (H.rd hv4)) ?_ ?_ fun f5 v5 wc J => vs ?_
          · simp only [List.length_nil, List.length_take]; omega
          · simp only [List.length_nil, List.length_take]; omega
          refine ⟨kept_base J3 J, ?_⟩; rw [List.nil_append] at J; have H := H.join J; simp only [List.cons_append, List.nil_append] at H; have H := H.front (c := Ck.box g2 [.slice none 0 0, .int .i64 0, .slice none 0 0, .int .i64 0] 32); have H := H.front (c := Ck.own (bytes 5) f5 [v5] (p.f_Book.take (kkB p.f_Sure p.f_Book.length keep))); exact ⟨(v5, f5), vs trivial, Sep.left (L := [_, _]) H⟩
        · refine vs ?_
          refine x_callw (l1MinB_ok _ _ _) ?_; refine vs ?_; refine ⟨kept_base J3 J, ?_⟩; refine rest_end [(14, true), (15, true), (0, false), (16, false), (17, true)] ?_; refine vs ?_; refine ve (fall_2 (keep := keep) hS (by omega)) ?_; refine q_toN sl22 rfl (kkB p.f_Sure p.f_Book.length keep) h2 rfl hkk fun v4 hv4 => vs ?_; refine x_emp J pl_u8 sl22 fun gb wb J => vs ?_; refine ⟨kept_base J3 J, ?_⟩; refine x_app J pl_u8 sl22 (J.rd (H.rd hv4)) ?_ ?_ fun f5 v5 wc J => vs ?_
          · simp only [List.length_nil, List.length_take]; omega
          · simp only [List.length_nil, List.length_take]; omega
          refine ⟨kept_base J3 J, ?_⟩; rw [List.nil_append] at J; have H := H.join J; simp only [List.cons_append, List.nil_append] at H; have H := H.front (c := Ck.box g2 [.slice none 0 0, .int .i64 0, .slice none 0 0, .int .i64 0] 32); have H := H.front (c := Ck.own (bytes 5) f5 [v5] (p.f_Book.take (kkB p.f_Sure p.f_Book.length keep))); exact ⟨(v5, f5), vs trivial, Sep.left (L := [_, _]) H⟩
    rintro ⟨v5, f5⟩ s9 wf H; dsimp only at H; have hv5 := H.own (.head _); refine vs ?_; refine x_call (specPlay_ok _ v5 _ hv5 (by omega)) fun _ w7 ⟨vq, fq, e, S⟩ => ?_; subst e; have hv5 := Sep.rd S hv5; have H := H.join S; simp only [List.cons_append, List.nil_append] at H; refine vs ?_; refine x_emp H pl_u8 sl22 fun gb wb H => vs ?_; refine x_toN sl22 rfl (play (p.f_Book.take (kkB p.f_Sure p.f_Book.length keep))).2.2 (H.om (fp := f5) (x := p.f_Book.take (kkB p.f_Sure p.f_Book.length keep))) rfl pm fun v8 hv8 => vs ?_; refine x_app H pl_u8 sl22 hv8 ?_ ?_ fun f9 r9 w9 H => vs ?_
    · simp only [List.length_nil, List.length_take]; omega
    · simp only [List.length_nil, List.length_take]; omega
    rw [List.nil_append] at H; obtain ⟨Aq, cq, rfl, _⟩ := sl_open (H.own (fp := fq) (x := (play (p.f_Book.take (kkB p.f_Sure p.f_Book.length keep))).1) (by repeat (first | exact List.mem_cons_self | apply List.mem_cons_of_mem))); obtain ⟨Ab, cb, rfl, _⟩ := sl_open (H.own (fp := f9) (x := (p.f_Book.take (kkB p.f_Sure p.f_Book.length keep)).take (play (p.f_Book.take (kkB p.f_Sure p.f_Book.length keep))).2.2) (by repeat (first | exact List.mem_cons_self | apply List.mem_cons_of_mem))); refine x_build bl32 [.slice Aq (play (p.f_Book.take (kkB p.f_Sure p.f_Book.length keep))).1.length cq, .int .i64 (play (p.f_Book.take (kkB p.f_Sure p.f_Book.length keep))).2.1, .slice Ab ((p.f_Book.take (kkB p.f_Sure p.f_Book.length keep)).take (play (p.f_Book.take (kkB p.f_Sure p.f_Book.length keep))).2.2).length cb, .int .i64 ((play (p.f_Book.take (kkB p.f_Sure p.f_Book.length keep))).2.2 : Int)] ?_; refine vs ?_; refine x_sta H st32 (vs := [.slice Aq (play (p.f_Book.take (kkB p.f_Sure p.f_Book.length keep))).1.length cq, .int .i64 (play (p.f_Book.take (kkB p.f_Sure p.f_Book.length keep))).2.1, .slice Ab ((p.f_Book.take (kkB p.f_Sure p.f_Book.length keep)).take (play (p.f_Book.take (kkB p.f_Sure p.f_Book.length keep))).2.2).length cb, .int .i64 ((play (p.f_Book.take (kkB p.f_Sure p.f_Book.length keep))).2.2 : Int)]) (h1 := one4 rfl rfl) fun wz H => vs ?_; have H := H.front (c := Ck.own (bytes 5) f9 [.slice Ab ((p.f_Book.take (kkB p.f_Sure p.f_Book.length keep)).take (play (p.f_Book.take (kkB p.f_Sure p.f_Book.length keep))).2.2).length cb] ((p.f_Book.take (kkB p.f_Sure p.f_Book.length keep)).take (play (p.f_Book.take (kkB p.f_Sure p.f_Book.length keep))).2.2))
    have H := H.front (c := Ck.own items fq [.slice Aq (play (p.f_Book.take (kkB p.f_Sure p.f_Book.length keep))).1.length cq] (play (p.f_Book.take (kkB p.f_Sure p.f_Book.length keep))).1); obtain ⟨fz, H⟩ := ownPost (⟨(play (p.f_Book.take (kkB p.f_Sure p.f_Book.length keep))).1, (play (p.f_Book.take (kkB p.f_Sure p.f_Book.length keep))).2.1, (p.f_Book.take (kkB p.f_Sure p.f_Book.length keep)).take (play (p.f_Book.take (kkB p.f_Sure p.f_Book.length keep))).2.2, ((play (p.f_Book.take (kkB p.f_Sure p.f_Book.length keep))).2.2 : Int)⟩ : MPost) H (by dsimp only; omega) (by dsimp only; omega); rw [fall_ok hok]; exact ⟨_, _, rfl, res_cell H st32, _, _, rfl, H.head⟩
end Go.Proofs.YtcmckbgiiclomabGreatDoor.V
