/- Texts laid by programs, part 22. -/
import Derived.Test.YtcmckbgiiclomacGreatU21
import Derived.Test.YtcmckbgiiclomacGreatU05
import Derived.WideLaws
namespace Go.Proofs.YtcmckbgiiclomacGreat.V
open Go Go.RowKit
set_option maxRecDepth 100000
set_option maxHeartbeats 16000000
set_option linter.unusedSimpArgs false
set_option linter.unusedVariables false
set_option pp.deepTerms false
set_option pp.deepTerms.threshold 3
theorem jb1_ok (w : World) (cs : List Value) (x : MWorld) (ds : List Value) (y : MItem) (g : Nat) (h : kWorld.rd w w.heap.size cs x) (h' : kItem.rd w w.heap.size ds y) (hg : ∀ j, j < 13 → w.cell? ⟨g, j, none⟩ = cs[j]?) (hsl : x.f_Sent.length ≤ 1048576) (hn : ∀ z ∈ x.f_Sent, z.f_Note.length ≤ 200) :
    ACalls Tryz.prog 19 #[.agg ds.toArray, .pointer (some ⟨g, 0, none⟩)] w fun r w' => r = .bool (!blind x y) ∧ Below w.heap.size w w' := by
  have h8 := h'; have hcl := Kd.len _ h; obtain ⟨u3, rfl, i0, i1, i2, i3⟩ := kItem_open h'; have H := Sep.start w
  have hgl : g < w.heap.size := by
    have h0 := hg 0 (by decide); have : ∃ v, cs[0]? = some v := ⟨cs[0]'(by rw [hcl]; decide), List.getElem?_eq_getElem _⟩; obtain ⟨v, hv⟩ := this; rw [hv] at h0; exact World.block_lt_of_cell? _ _ h0
  refine body_of follows Tryz.func19 rfl rfl _ rfl (by kernel_rfl) (vs ?_); refine x_bx H [.string ⟨y.f_Route.toArray⟩, .int .i64 y.f_Topic, .int .i64 y.f_Due, u3] fun g1 w1 H => vs ?_; refine x_lds st33 (es := cs) (fun j hj => by rw [Kd.add_at, Nat.zero_add, H.bel.cell (p := ⟨g, j, none⟩) hgl]; exact hg j hj) hcl (vs ?_); refine x_lda H st45 ?_; refine vs ?_; refine x_callb H (implBlind_ok w1 _ x _ y (H.rd h) (H.rd h8) hsl hn) fun w2 H => vs ?_
  first | exact ⟨rfl, H.bel⟩ | exact H.bel
theorem jb2_ok (w : World) (cs : List Value) (x : MWorld) (ds : List Value) (y : MWire) (g : Nat) (h : kWorld.rd w w.heap.size cs x) (h' : kWire.rd w w.heap.size ds y) (hg : ∀ j, j < 13 → w.cell? ⟨g, j, none⟩ = cs[j]?) (hsl : x.f_Sent.length ≤ 1048576) (hn : ∀ z ∈ x.f_Sent, z.f_Note.length ≤ 200) :
    ACalls Tryz.prog 22 #[.agg ds.toArray, .pointer (some ⟨g, 0, none⟩)] w fun r w' => r = .bool (!wireBlind x y) ∧ Below w.heap.size w w' := by
  have hcl := Kd.len _ h; obtain ⟨v4, v5, rfl, _, hi, h5⟩ := kWire_open h'; have H := Sep.start w
  have hgl : g < w.heap.size := by
    have h0 := hg 0 (by decide); have : ∃ v, cs[0]? = some v := ⟨cs[0]'(by rw [hcl]; decide), List.getElem?_eq_getElem _⟩; obtain ⟨v, hv⟩ := this; rw [hv] at h0; exact World.block_lt_of_cell? _ _ h0
  refine body_of follows Tryz.func22 rfl rfl _ rfl (by kernel_rfl) (vs ?_); refine x_bx H [.bool y.f_ToPost, .string ⟨y.f_Item.f_Route.toArray⟩, .int .i64 y.f_Item.f_Topic, .int .i64 y.f_Item.f_Due, v4, v5] fun g1 w1 H => vs ?_; refine x_ld H sc4 ?_
  cases hp : y.f_ToPost with
  | true =>
    rw [hp] at H; refine ve hp ?_; refine x_lds st33 (es := cs) (fun j hj => by rw [Kd.add_at, Nat.zero_add, H.bel.cell (p := ⟨g, j, none⟩) hgl]; exact hg j hj) hcl (vs ?_); refine x_ldp H [.string ⟨y.f_Item.f_Route.toArray⟩, .int .i64 y.f_Item.f_Topic, .int .i64 y.f_Item.f_Due, v4] st45 ?_; refine vs ?_; refine x_callb H (implBlind_ok w1 _ x _ y.f_Item (H.rd h) (H.rd hi) hsl hn) fun w2 H => vs ?_; have e : wireBlind x y = blind x y.f_Item := by unfold wireBlind; rw [if_pos hp]
    rw [e]
    first | exact ⟨rfl, H.bel⟩ | exact H.bel
  | false =>
    rw [hp] at H; refine ve hp ?_; refine x_lds st33 (es := cs) (fun j hj => by rw [Kd.add_at, Nat.zero_add, H.bel.cell (p := ⟨g, j, none⟩) hgl]; exact hg j hj) hcl (vs ?_); refine x_ld H sc22 ?_; refine vs ?_; refine x_callb H (implSentAt_ok w1 _ x _ _ (H.rd h) (H.rd h5)) fun w2 H => ?_; have e : wireBlind x y = (sentAt x y.f_Bytes).isSome := by unfold wireBlind; rw [if_neg (by rw [hp]; decide)]
    rw [e]
    cases hat : sentAt x y.f_Bytes with
    | none =>
      refine ve (And.intro (show atI none = -1 from rfl) m1_lt) ?_
      first | exact ⟨rfl, H.bel⟩ | exact H.bel
    | some i =>
      refine ve (And.intro (show atI (some i) = (i : Int) from rfl) (neg_J (i := i))) ?_
      first | exact ⟨rfl, H.bel⟩ | exact H.bel
theorem implJudgeBlind_ok (w : World) (cs : List Value) (x : MWorld) (h : kWorld.rd w w.heap.size cs x) (hs : smWorld x) :
    ACalls Tryz.prog 8 #[.agg cs.toArray] w fun r w' => r = .bool (judgeBlind x) ∧ Below w.heap.size w w' := by
  have h9 := h; have hs9 := hs; unfold smWorld at hs; have hwl := Kd.len _ h; obtain ⟨v0, v3, v5, v7, v9, v10, v11, v12, rfl, h0, hC, hK, hP, hR, hN, hS⟩ := kWorld_open h; obtain ⟨_, _, eP, hQ, _, _, _⟩ := kPost_open hP; simp only [List.cons.injEq, and_true, true_and] at eP; obtain ⟨rfl, rfl⟩ := eP; have H := Sep.start w; refine body_of follows Tryz.func8 rfl rfl _ rfl (by kernel_rfl) (vs ?_); refine x_bx H [v0, .int .i64 x.f_Count, .int .i64 x.f_Known, v3, .int .i64 x.f_Post.f_Time, v5, .int .i64 x.f_Post.f_Sure, v7, .int .i64 x.f_Reader.f_Epoch, v9, v10, v11, v12] fun g1 w1 H => vs ?_; refine x_lda H st33 ?_; refine vs ?_; refine x_callb H (implWorldOk_ok w1 _ x (H.rd h9) hs9) fun w2 H => ?_
  cases hw : worldOk x with
  | false =>
    refine vs ?_; rw [judgeBlind_no hw]
    first | exact ⟨rfl, H.bel⟩ | exact H.bel
  | true =>
    have hn := worldOk_notes hw; refine vs ?_; refine x_ld H sc24 ?_; refine vs ?_; have hcell := fun j => H.cell (g := g1) (cs := [v0, .int .i64 x.f_Count, .int .i64 x.f_Known, v3, .int .i64 x.f_Post.f_Time, v5, .int .i64 x.f_Post.f_Sure, v7, .int .i64 x.f_Reader.f_Epoch, v9, v10, v11, v12]) (t := 33) (.head _) j; have hlt := H.lt (g := g1) (cs := [v0, .int .i64 x.f_Count, .int .i64 x.f_Known, v3, .int .i64 x.f_Post.f_Time, v5, .int .i64 x.f_Post.f_Sure, v7, .int .i64 x.f_Reader.f_Epoch, v9, v10, v11, v12]) (t := 33) (.head _); have h8 := H.rd h9; refine x_callb H (containsFuncI_ok w2 _ x.f_Post.f_Queue (fun y => !blind x y) 19 #[] #[.pointer (some ⟨g1, 0, none⟩)] (H.rd hQ) en19 fun w' es y hb hy => by rw [arr2]; exact jb1_ok w' _ x es y g1 (Kd.le _ (Kd.mono _ h8 hb) hb.size) hy (fun j hj => (hb.cell (p := ⟨g1, j, none⟩) hlt).trans (hcell j)) hs.2.2.2.2.1 hn) fun w3 H => ?_; rw [any_not]
    cases hq : x.f_Post.f_Queue.all (blind x) with
    | false =>
      refine vs ?_; have e : judgeBlind x = false := by unfold judgeBlind; rw [hq]; simp
      rw [e]
      first | exact ⟨rfl, H.bel⟩ | exact H.bel
    | true =>
      refine vs ?_; refine x_ld H sc30 ?_; refine vs ?_; have hcell := fun j => H.cell (g := g1) (cs := [v0, .int .i64 x.f_Count, .int .i64 x.f_Known, v3, .int .i64 x.f_Post.f_Time, v5, .int .i64 x.f_Post.f_Sure, v7, .int .i64 x.f_Reader.f_Epoch, v9, v10, v11, v12]) (t := 33) (.head _) j; have hlt := H.lt (g := g1) (cs := [v0, .int .i64 x.f_Count, .int .i64 x.f_Known, v3, .int .i64 x.f_Post.f_Time, v5, .int .i64 x.f_Post.f_Sure, v7, .int .i64 x.f_Reader.f_Epoch, v9, v10, v11, v12]) (t := 33) (.head _); have h8 := H.rd h9; refine x_callb H (containsFuncW_ok w3 _ x.f_Net (fun y => !wireBlind x y) 22 #[] #[.pointer (some ⟨g1, 0, none⟩)] (H.rd hN) en22 fun w' es y hb _ hy => by rw [arr2]; exact jb2_ok w' _ x es y g1 (Kd.le _ (Kd.mono _ h8 hb) hb.size) hy (fun j hj => (hb.cell (p := ⟨g1, j, none⟩) hlt).trans (hcell j)) hs.2.2.2.2.1 hn) fun w4 H => ?_; rw [any_not]; refine vs ?_; have e : judgeBlind x = x.f_Net.all (wireBlind x) := by unfold judgeBlind; rw [hw, hq]; rfl
      rw [e]
      cases x.f_Net.all (wireBlind x) <;> first | exact ⟨rfl, H.bel⟩ | exact H.bel
theorem l18Item_ok (w : World) (cs : List Value) (x : MWorld) (ds : List Value) (y : MItem) (h : kWorld.rd w w.heap.size cs x) (h' : kItem.rd w w.heap.size ds y) (hsl : x.f_Sent.length ≤ 1048576) (hn : ∀ z ∈ x.f_Sent, z.f_Note.length ≤ 200) :
    ACalls Tryz.prog 26 #[.agg cs.toArray, .agg ds.toArray] w fun r w' => r = .bool (blind x y) ∧ Below w.heap.size w w' := by
  have h9 := h; obtain ⟨v0, v3, v5, v7, v9, v10, v11, v12, rfl, h0, hC, hK, hP, hR, hN, hS⟩ := kWorld_open h; obtain ⟨A12, c12, rfl, _, _, haS⟩ := sl_open hS; obtain ⟨u3, rfl, i0, i1, i2, i3⟩ := kItem_open h'; have hb9 := i3; obtain ⟨B3, d3, rfl, _⟩ := sl_open i3; have H := Sep.start w; refine body_of follows Tryz.func26 rfl rfl _ rfl (by kernel_rfl) (vs ?_); refine x_bx H [v0, .int .i64 x.f_Count, .int .i64 x.f_Known, v3, .int .i64 x.f_Post.f_Time, v5, .int .i64 x.f_Post.f_Sure, v7, .int .i64 x.f_Reader.f_Epoch, v9, v10, v11, .slice A12 x.f_Sent.length c12] fun g1 w1 H => vs ?_; refine x_bx H [.string ⟨y.f_Route.toArray⟩, .int .i64 y.f_Topic, .int .i64 y.f_Due, .slice B3 y.f_Bytes.length d3] fun g2 w2 H => vs ?_; refine x_lda H st33 ?_; refine vs ?_; refine x_ld H sc22 ?_; refine vs ?_; refine x_callb H (l18Sent_ok w2 _ x _ _ (H.rd h9) (H.rd hb9) hsl) fun w3 H => ?_
  cases hat : sentAt x y.f_Bytes with
  | none =>
    have eb := blind_none (x := x) (y := y) hat; refine ve (And.intro (show atI none = -1 from rfl) m1_ge) ?_; refine draw_of [(0, true), (1, true), (2, true), (3, true), (4, true), (5, true), (6, true), (7, true), (8, true), (9, true), (10, true), (11, true), (12, true), (13, true), (14, true), (15, true), (16, true), (17, true), (18, true), (19, true), (20, true), (21, true), (22, true), (23, false), (24, true), (25, true), (26, true), (27, true), (28, true)] w3.heap.size [] fun w4 hh hb4 => ve m1_ge ?_; have J := (Sep.start w3).go (hb4 _); have H := H.go (hb4 _); rw [eb]
    first | exact ⟨kept_base J J, rfl, H.bel⟩ | exact ⟨rfl, H.bel⟩ | exact H.bel
  | some i =>
    have eb := blind_some (x := x) (y := y) hat; have hi := sentAt_lt hat; have hi0 : (0 : Int) ≤ (i : Int) := Int.natCast_nonneg _; rw [routeAt_eq hi, noteAt_eq hi] at eb; refine ve (And.intro (show atI (some i) = (i : Int) from rfl) hi0) ?_; have J := Sep.start w3; refine draw_of [(0, true), (1, true), (2, true), (3, true), (4, true), (5, true), (6, true), (7, true), (8, true), (9, true), (10, true), (11, true), (12, true), (13, true), (14, true), (15, true), (16, true), (17, true), (18, true), (19, true), (20, true), (21, true), (22, true), (23, false), (24, true), (25, true), (26, true), (27, true), (28, true)] w3.heap.size [] fun w4 hh hb4 => ve hi0 ?_; have J := J.go (hb4 _); have J3 := J; have H4 := H.go (hb4 _); refine q_ldB H J3 sc31 ?_; refine ve hi0 ?_; refine q_ele H4 sl31 rfl i hi haS rfl fun ad es hb1 hr hc => ve hi0 ?_; have hr : kSent.rd w w.heap.size es x.f_Sent[i] := hr; obtain ⟨y2, y3, rfl, _, _, r2, r3⟩ := kSent_open hr; refine q_lf0 sc9 hc (by decide) (Nat.lt_of_lt_of_le hb1 H.ns) rfl ?_; refine ve hi0 ?_; refine q_ldB H J3 sc9 ?_
    by_cases hR : x.f_Sent[i].f_Route = y.f_Route
    rotate_left
    · rw [decide_eq_false hR, Bool.false_and] at eb
      refine ve (And.intro hi0 (eq_false hR)) ?_; have H := H4; rw [eb]
      first | exact ⟨kept_base J J, rfl, H.bel⟩ | exact ⟨rfl, H.bel⟩ | exact H.bel
    have eR : (x.f_Sent[i].f_Route = y.f_Route) = True := eq_true hR; refine ve (And.intro hi0 eR) ?_; refine q_ldB H J3 sc22 ?_; refine ve (And.intro hi0 eR) ?_; refine q_ldB H J3 sc31 ?_; refine ve (And.intro hi0 eR) ?_; refine q_ele H4 sl31 rfl i hi haS rfl fun ad es hb1 hr hc => ve (And.intro hi0 eR) ?_; have hr : kSent.rd w w.heap.size es x.f_Sent[i] := hr; obtain ⟨z2, z3, rfl, _, _, s2, s3⟩ := kSent_open hr; refine q_lfj (j := 2) sc22 hc (by decide) (Nat.lt_of_lt_of_le hb1 H.ns) rfl ?_; refine ve (And.intro hi0 eR) ?_; have hnl := hn _ (List.getElem_mem hi); refine x_callf J (specPadded_ok w4 _ _ (H4.rd s2) hnl) fun rp fp w5 J => ?_; obtain ⟨Ap, cp, rfl, _⟩ := sl_open (J.own (.head _)); refine ve (And.intro hi0 eR) ?_; refine ⟨kept_base J3 J, ?_⟩; have H := H.join J; rw [padded_padLen]; have hpl := padLen_le hnl; refine ve (And.intro (w64_51 hpl) (And.intro hi0 eR)) ?_; rw [decide_eq_true hR, Bool.true_and] at eb; have e2 : blind x y = decide ((y.f_Bytes.length : Int) = ((51 + padLen x.f_Sent[i].f_Note.length : Nat) : Int)) := by rw [eb]; exact decide_eq_decide.2 (by omega)
    rw [e2]
    first | exact ⟨rfl, H.bel⟩ | exact H.bel
theorem specJudgeBlind_ok (w : World) (cs : List Value) (x : MWorld) (h : kWorld.rd w w.heap.size cs x) (hs : smWorld x) :
    ACalls Tryz.prog 11 #[.agg cs.toArray] w fun r w' => r = .bool (judgeBlind x) ∧ Below w.heap.size w w' := by
  have h9 := h; have hs9 := hs; unfold smWorld at hs; obtain ⟨v0, v3, v5, v7, v9, v10, v11, v12, rfl, h0, hC, hK, hP, hR, hN, hS⟩ := kWorld_open h; obtain ⟨_, _, eP, hQ, _, _, _⟩ := kPost_open hP; simp only [List.cons.injEq, and_true, true_and] at eP; obtain ⟨rfl, rfl⟩ := eP; obtain ⟨A3, c3, rfl, _, _, haQ⟩ := sl_open hQ; obtain ⟨A11, c11, rfl, _, _, haN⟩ := sl_open hN; obtain ⟨A12, c12, rfl, _⟩ := sl_open hS; have hql : x.f_Post.f_Queue.length ≤ 1048576 := by have := hs.2.1; unfold smPost at this; exact this.1.1
  have hnl := hs.2.2.2.1.1; have hsl := hs.2.2.2.2.1; have H := Sep.start w; refine body_of follows Tryz.func11 rfl rfl _ rfl (by kernel_rfl) (vs ?_); refine x_bx H [v0, .int .i64 x.f_Count, .int .i64 x.f_Known, .slice A3 x.f_Post.f_Queue.length c3, .int .i64 x.f_Post.f_Time, v5, .int .i64 x.f_Post.f_Sure, v7, .int .i64 x.f_Reader.f_Epoch, v9, v10, .slice A11 x.f_Net.length c11, .slice A12 x.f_Sent.length c12] fun g1 w1 H => vs ?_; refine x_lda H st33 ?_; refine vs ?_; refine x_callb H (specWorldOk_ok w1 _ x (H.rd h9) hs9) fun w2 H => ?_
  cases hw : worldOk x with
  | false =>
    refine vs ?_; rw [judgeBlind_no hw]
    first | exact ⟨rfl, H.bel⟩ | exact H.bel
  | true =>
    have hn := worldOk_notes hw; refine vs ?_
    refine loop_at (σ := Nat) (fun k => [(1, .pointer (some ⟨g1, 0, none⟩)), (3, .int .i64 (k : Int))])
      (fun k w' => k ≤ x.f_Post.f_Queue.length ∧ (∀ i (hi : i < x.f_Post.f_Queue.length), i < k → blind x x.f_Post.f_Queue[i] = true) ∧ Sep w.heap.size w w' [Ck.box g1 [v0, .int .i64 x.f_Count, .int .i64 x.f_Known, .slice A3 x.f_Post.f_Queue.length c3, .int .i64 x.f_Post.f_Time, v5, .int .i64 x.f_Post.f_Sure, v7, .int .i64 x.f_Reader.f_Epoch, v9, v10, .slice A11 x.f_Net.length c11, .slice A12 x.f_Sent.length c12] 33]) (fun k => x.f_Post.f_Queue.length - k) 0 (vs trivial) ⟨Nat.zero_le _, fun i hi h => absurd h (Nat.not_lt_zero i), H⟩ ?_
    rintro k s w3 ⟨hk, hall, H⟩; refine vs ?_; refine x_ld H sc24 ?_; refine vs (ways ?_ ?_)
    · refine vh fun hlt => ?_
      have hk2 : k < x.f_Post.f_Queue.length := by omega
      have J := Sep.start w3; refine draw_of [(0, true), (1, true), (2, true), (3, true), (4, true), (5, true), (6, true), (7, false), (8, true)] w3.heap.size [] fun w4 hh hb4 => vs ?_; have J := J.go (hb4 _); have J3 := J; have H4 := H.go (hb4 _); refine q_ldaB H J3 st33 ?_; refine vs ?_; refine q_ldB H J3 sc24 ?_; refine vs ?_; refine q_ele H4 sl24 rfl k hk2 haQ rfl fun ad es hb1 hr hc => vs ?_; have hr : kItem.rd w w.heap.size es x.f_Post.f_Queue[k] := hr; refine q_lds st45 hc (Kd.len _ hr) (Nat.lt_of_lt_of_le hb1 H.ns) ?_; refine vs ?_; refine x_callb J (l18Item_ok w4 _ x es _ (J.rd (H.rd h9)) (J.rd (H.rd hr)) hsl hn) fun w5 J => ?_; have H := H.join J; simp only [List.nil_append] at H
      cases hb : blind x x.f_Post.f_Queue[k] with
      | false =>
        refine vs ?_; refine ⟨kept_base J3 J, ?_⟩; rw [judgeBlind_q hk2 hb]
        first | exact ⟨rfl, H.bel⟩ | exact H.bel
      | true =>
        refine vs ?_; refine ⟨kept_base J3 J, ?_⟩; refine ⟨k + 1, i64_eq (w64_upJ hk2 hql), ⟨hk2, fun i hi h => ?_, H⟩, less_J hk2⟩
        by_cases h2 : i = k
        · subst h2; exact hb
        · exact hall i hi (below_J h h2)
    refine vh fun hlt => ?_; have hallQ : ∀ i (hi : i < x.f_Post.f_Queue.length), blind x x.f_Post.f_Queue[i] = true := fun i hi => hall i hi (by omega)
    refine loop_at (σ := Nat) (fun k => [(1, .pointer (some ⟨g1, 0, none⟩)), (4, .int .i64 (k : Int))])
      (fun k w' => k ≤ x.f_Net.length ∧ (∀ i (hi : i < x.f_Net.length), i < k → wireBlind x x.f_Net[i] = true) ∧ Sep w.heap.size w w' [Ck.box g1 [v0, .int .i64 x.f_Count, .int .i64 x.f_Known, .slice A3 x.f_Post.f_Queue.length c3, .int .i64 x.f_Post.f_Time, v5, .int .i64 x.f_Post.f_Sure, v7, .int .i64 x.f_Reader.f_Epoch, v9, v10, .slice A11 x.f_Net.length c11, .slice A12 x.f_Sent.length c12] 33]) (fun k => x.f_Net.length - k) 0 (vs trivial) ⟨Nat.zero_le _, fun i hi h => absurd h (Nat.not_lt_zero i), H⟩ ?_
    rintro k s w6 ⟨hk, hall, H⟩; refine vs ?_; refine x_ld H sc30 ?_; refine vs (ways ?_ ?_)
    rotate_left
    · refine vh fun hlt => ?_
      rw [judgeBlind_good hw hallQ fun i hi => hall i hi (by omega)]
      first | exact ⟨rfl, H.bel⟩ | exact H.bel
    refine vh fun hlt => ?_; have hk2 : k < x.f_Net.length := by omega
    have go : wireBlind x x.f_Net[k] = true → ∀ i (hi : i < x.f_Net.length), i < k + 1 → wireBlind x x.f_Net[i] = true := fun h i hi h3 => by
      by_cases h2 : i = k
      · subst h2; exact h
      · exact hall i hi (by omega)
    refine x_ld H sc30 ?_; refine vs ?_; refine x_ele H sl30 rfl k hk2 haN rfl fun ad es hb1 hr hc' => vs ?_; have hr : kWire.rd w w.heap.size es x.f_Net[k] := hr; have hr2 := hr; obtain ⟨u4, u5, rfl, _, ri, r5⟩ := kWire_open hr2; have r5' := r5; obtain ⟨B5, d5, rfl, _⟩ := sl_open r5; refine x_lds st50 hc' (Kd.len _ hr) (vs ?_); refine x_al H st50 fun g5 w7 H => vs ?_; refine x_sta H st50 (vs := [.bool x.f_Net[k].f_ToPost, .string ⟨x.f_Net[k].f_Item.f_Route.toArray⟩, .int .i64 x.f_Net[k].f_Item.f_Topic, .int .i64 x.f_Net[k].f_Item.f_Due, u4, .slice B5 x.f_Net[k].f_Bytes.length d5]) (h1 := Kd.one _ hr) fun w8 H => vs ?_; refine x_ld H sc4 ?_
    cases hp : x.f_Net[k].f_ToPost with
    | true =>
      rw [hp] at H; refine ve hp ?_; refine x_lda H st33 ?_; refine ve hp ?_; refine x_ldp H [.string ⟨x.f_Net[k].f_Item.f_Route.toArray⟩, .int .i64 x.f_Net[k].f_Item.f_Topic, .int .i64 x.f_Net[k].f_Item.f_Due, u4] st45 ?_; refine ve hp ?_; refine x_callb H (l18Item_ok w8 _ x _ _ (H.rd h9) (H.rd ri) hsl hn) fun w9 H => ?_; have e : wireBlind x x.f_Net[k] = blind x x.f_Net[k].f_Item := by unfold wireBlind; rw [if_pos hp]
      cases hb : blind x x.f_Net[k].f_Item with
      | false =>
        refine ve hp ?_; rw [judgeBlind_n hk2 (by rw [e]; exact hb)]
        first | exact ⟨rfl, H.bel⟩ | exact H.bel
      | true =>
        refine ve hp ?_; refine x_ld H sc4 ?_; refine ve hp ?_; exact ⟨k + 1, i64_eq (w64_upJ hk2 hnl), ⟨hk2, go (by rw [e]; exact hb), H.tail⟩, less_J hk2⟩
    | false =>
      rw [hp] at H; refine ve hp ?_; refine x_ld H sc4 ?_; refine ve hp ?_; refine x_lda H st33 ?_; refine ve hp ?_; refine x_ld H sc22 ?_; refine ve hp ?_; refine x_callb H (l18Sent_ok w8 _ x _ _ (H.rd h9) (H.rd r5') hsl) fun w9 H => ?_; have e : wireBlind x x.f_Net[k] = (sentAt x x.f_Net[k].f_Bytes).isSome := by unfold wireBlind; rw [if_neg (by rw [hp]; decide)]
      cases hat : sentAt x x.f_Net[k].f_Bytes with
      | none =>
        refine ve (And.intro (show atI none = -1 from rfl) (And.intro m1_lt hp)) ?_; rw [judgeBlind_n hk2 (by rw [e, hat]; rfl)]
        first | exact ⟨rfl, H.bel⟩ | exact H.bel
      | some i =>
        refine ve (And.intro (show atI (some i) = (i : Int) from rfl) (And.intro (neg_J (i := i)) hp)) ?_; exact ⟨k + 1, i64_eq (w64_upJ hk2 hnl), ⟨hk2, go (by rw [e, hat]; rfl), H.tail⟩, less_J hk2⟩
theorem implJudgeAll_ok (w : World) (cs : List Value) (x : MWorld) (h : kWorld.rd w w.heap.size cs x) (hs : smWorld x) :
    ACalls Tryz.prog 12 #[.agg cs.toArray] w fun r w' => r = .bool (judgeAll x) ∧ Below w.heap.size w w' := by
  have h9 := h; have hs9 := hs; unfold smWorld at hs; obtain ⟨v0, v3, v5, v7, v9, v10, v11, v12, rfl, h0, hC, hK, hP, hR, hN, hS⟩ := kWorld_open h; have H := Sep.start w; refine body_of follows Tryz.func12 rfl rfl _ rfl (by kernel_rfl) (vs ?_); refine x_bx H [v0, .int .i64 x.f_Count, .int .i64 x.f_Known, v3, .int .i64 x.f_Post.f_Time, v5, .int .i64 x.f_Post.f_Sure, v7, .int .i64 x.f_Reader.f_Epoch, v9, v10, v11, v12] fun g1 w1 H => vs ?_; refine x_lda H st33 ?_; refine vs ?_; refine x_callb H (implJudgeRead_ok w1 _ x (H.rd h9) hs9) fun w2 H => ?_
  cases ha : judgeRead x with
  | false =>
    refine vs ?_; have e : judgeAll x = false := by unfold judgeAll; rw [ha]; rfl
    rw [e]
    first | exact ⟨rfl, H.bel⟩ | exact H.bel
  | true =>
    refine vs ?_; refine x_lda H st33 ?_; refine vs ?_; refine x_callb H (implJudgeOnce_ok w2 _ x (H.rd h9) hs9) fun w3 H => ?_
    cases hb : judgeOnce x with
    | false =>
      refine vs ?_; have e : judgeAll x = false := by unfold judgeAll; rw [hb]; simp
      rw [e]
      first | exact ⟨rfl, H.bel⟩ | exact H.bel
    | true =>
      refine vs ?_; refine x_lda H st33 ?_; refine vs ?_; refine x_callb H (implJudgeBlind_ok w3 _ x (H.rd h9) hs9) fun w4 H => ?_; refine vs ?_; have e : judgeAll x = judgeBlind x := by unfold judgeAll; rw [ha, hb]; rfl
      rw [e]
      first | exact ⟨rfl, H.bel⟩ | exact H.bel
theorem bigO_ok (w : World) (v : Value) (a : List UInt8) (h : (bytes 5).rd w w.heap.size [v] a) :
    ACalls Tryz.prog 4 #[v] w fun r w' => r = .bool (decide (1048576 < (a.length : Int))) ∧ w' = w := by
  obtain ⟨A, c, rfl, _, _, _⟩ := sl_open h; refine body_of follows Tryz.func4 rfl rfl _ rfl (by kernel_rfl) (vs ?_)
  first | trivial | rfl | exact ⟨rfl, rfl⟩
theorem judgeRead_ok {x : MWorld} (h : judgeRead x = true) : worldOk x = true := by
  unfold judgeRead at h; exact (Bool.and_eq_true _ _ ▸ h).1
theorem FnJudges_ok (w0 : World) (v : Value) (l : List UInt8) (h0 : (bytes 5).rd w0 w0.heap.size [v] l) :
    ACalls Tryz.prog 3 #[v] w0 fun r w' => r = .bool true ∧ Below w0.heap.size w0 w' := by
  refine body_of follows Tryz.func3 rfl rfl _ rfl (by kernel_rfl) (vs ?_); refine x_callw (bigO_ok w0 v l h0) ?_
  by_cases c0 : 1048576 < (l.length : Int)
  · refine ve c0 ?_
    exact Below.refl ..
  refine ve c0 ?_; refine x_call (drawJudgeAll_ok w0 v l h0) fun _ w1 ⟨cs, fp, x, e, hs, H⟩ => ?_; subst e; have oX := Kd.one _ (H.own (.head _)); obtain ⟨v0, p0, p2, q0, q2, q3, v5, v6, rfl, _⟩ := kWorld_open (H.own (.head _)); refine vs ?_; refine x_al H st33 fun g3 w2 H => vs ?_; refine x_sta H st33 (vs := (wX x v0 p0 p2 q0 q2 q3 v5 v6)) (h1 := oX) fun w3 H => vs ?_; have hx := (H.ow kWorld fp (wX x v0 p0 p2 q0 q2 q3 v5 v6) x); obtain ⟨a, ha⟩ : ∃ a, a = judgeRead x := ⟨_, rfl⟩; obtain ⟨b, hb⟩ : ∃ b, b = judgeOnce x := ⟨_, rfl⟩; obtain ⟨c, hc⟩ : ∃ c, c = judgeBlind x := ⟨_, rfl⟩; obtain ⟨d, hd⟩ : ∃ d, d = judgeAll x := ⟨_, rfl⟩; have hd2 : d = (a && b && c) := by rw [hd, ha, hb, hc]; rfl
  have hw : a = true → worldOk x = true := fun h => judgeRead_ok (ha ▸ h); have J := Sep.start w3; refine draw_of [(0, true), (2, true), (4, true), (1, false), (3, false), (5, false), (6, true), (7, true), (8, true)] w3.heap.size [] fun w4 hh hb4 => vs ?_; have J := J.go (hb4 _); have J3 := J; refine q_ldaB H J3 st33 ?_; refine vs ?_; refine q_ldaB H J3 st33 ?_; refine vs ?_; refine q_ldaB H J3 st33 ?_; refine vs ?_; refine x_callb J (implJudgeRead_ok _ _ x (J.rd hx) hs) fun w5 J => ?_; rw [← ha]; refine vs ?_; refine ⟨kept_base J3 J, ?_⟩; refine x_callb J (implJudgeOnce_ok _ _ x (J.rd hx) hs) fun w6 J => ?_; rw [← hb]; refine vs ?_; refine ⟨kept_base J3 J, ?_⟩; refine x_callb J (implJudgeBlind_ok _ _ x (J.rd hx) hs) fun w7 J => ?_; rw [← hc]; refine vs ?_; refine ⟨kept_base J3 J, ?_⟩; have H := H.join J; simp only [List.cons_append, List.nil_append] at H; refine x_lda H st33 ?_; refine vs ?_; refine x_callb H (specJudgeRead_ok w7 _ x (H.ow kWorld fp (wX x v0 p0 p2 q0 q2 q3 v5 v6) x) hs) fun w8 H => ?_; rw [← ha]; refine vs ?_; refine x_lda H st33 ?_; refine vs ?_; refine x_callb H (specJudgeOnce_ok w8 _ x (H.ow kWorld fp (wX x v0 p0 p2 q0 q2 q3 v5 v6) x) hs) fun w9 H => ?_; rw [← hb]; refine vs ?_; refine x_lda H st33 ?_; refine vs ?_; refine x_callb H (specJudgeBlind_ok w9 _ x (H.ow kWorld fp (wX x v0 p0 p2 q0 q2 q3 v5 v6) x) hs) fun w10 H => ?_; rw [← hc]; refine vs ?_; refine x_lda H st33 ?_; refine vs ?_; refine x_callb H (implJudgeAll_ok w10 _ x (H.ow kWorld fp (wX x v0 p0 p2 q0 q2 q3 v5 v6) x) hs) fun w11 H => ?_; rw [← hd]
  cases a with
  | false =>
    have hd3 : d = false := by rw [hd2]; rfl
    subst hd3; refine vs ?_
    first | exact ⟨rfl, H.bel⟩ | exact H.bel
  | true =>
    have hok := hw rfl
    cases b with
    | false =>
      have hd3 : d = false := by rw [hd2]; rfl
      subst hd3; refine vs ?_; refine x_lda H st33 ?_; refine vs ?_; refine x_callb H (implWorldOk_ok w11 _ x (H.ow kWorld fp (wX x v0 p0 p2 q0 q2 q3 v5 v6) x) hs) fun w12 H => ?_; rw [hok]; refine vs ?_
      first | exact ⟨rfl, H.bel⟩ | exact H.bel
    | true =>
      have hd3 : d = c := by rw [hd2]; rfl
      subst hd3
      cases d with
      | false =>
        refine vs ?_; refine x_lda H st33 ?_; refine vs ?_; refine x_callb H (implWorldOk_ok w11 _ x (H.ow kWorld fp (wX x v0 p0 p2 q0 q2 q3 v5 v6) x) hs) fun w12 H => ?_; rw [hok]; refine vs ?_
        first | exact ⟨rfl, H.bel⟩ | exact H.bel
      | true =>
        refine vs ?_; refine x_lda H st33 ?_; refine vs ?_; refine x_callb H (implWorldOk_ok w11 _ x (H.ow kWorld fp (wX x v0 p0 p2 q0 q2 q3 v5 v6) x) hs) fun w12 H => ?_; rw [hok]; refine vs ?_
        first | exact ⟨rfl, H.bel⟩ | exact H.bel
theorem okw_one {P : Program} {w : World} {r : Reach} {base : Nat} {t : TypeId} {v : Value} (ht : (match P.underlying t with | some (.slice _) | some (.int _) | some .bool | some .string => true | _ => false) = true) (h : Value.okWide P w r base t v) : v.cells.toList = [v] := by
  unfold Value.okWide at h
  split at ht
  all_goals first
    | (rename_i hu; rw [hu] at h; simp only at h; unfold Cell.okWide at h; rw [hu] at h; cases v <;> first | rfl | (simp [Cell.ok, hu] at h))
    | cases ht
end Go.Proofs.YtcmckbgiiclomacGreat.V
