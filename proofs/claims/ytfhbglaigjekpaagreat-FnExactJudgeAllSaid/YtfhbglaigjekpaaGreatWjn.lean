/- What is judged of a world: both sides. Laid by a program. What is judged of a world: both sides. Laid by a program. What is judged of a world: both sides. Laid by a program. What is judged of a world: both sides. Laid by a program. What is judged of a world: both sides. Laid by a program. What is judged of a world: both sides. Laid by a program. What is judged of a world: both sides. Laid by a program. What is judged of a world: both sides. Laid by a program. -/
import Derived.Test.YtfhbglaigjekpaaGreatWwn
import Derived.Test.YtfhbglaigjekpaaGreatWpd
namespace Go.Proofs.YtfhbglaigjekpaaGreat.V
open Go Go.RowKit
set_option maxRecDepth 100000
set_option maxHeartbeats 4000000
set_option linter.unusedSimpArgs false
set_option linter.unusedVariables false
set_option pp.deepTerms false
set_option pp.deepTerms.threshold 3

theorem arr2 (a b : Value) : (#[] ++ #[a] ++ #[b] : Array Value) = #[a, b] := by simp
theorem w64_upJ {k n : Nat} (h : k < n) (hn : n ≤ 1048576) : w64 ((k : Int) + 1) = ((k + 1 : Nat) : Int) := by unfold w64; omega
theorem less_J {k n : Nat} (h : k < n) : n - (k + 1) < n - k := by omega
theorem below_J {j k : Nat} (h : j < k + 1) (h2 : ¬ j = k) : j < k := by omega
theorem neg_J {i : Nat} : ¬ ((i : Int) < 0) := by omega
theorem m1_lt : ((-1 : Int) < 0) = True := eq_true (by decide)
theorem m1_ge : ((0 : Int) ≤ -1) = False := eq_false (by decide)
theorem readAt_none {x : MWorld} {i : Nat} (h : sentAt x (listAt x.f_Reader.f_Seen i) = none) : readAt x i = false := by unfold readAt; rw [h]
theorem readAt_some {x : MWorld} {i k : Nat} (h : sentAt x (listAt x.f_Reader.f_Seen i) = some k) : readAt x i = decide (noteAt x k = listAt x.f_Reader.f_Got i) := by unfold readAt; rw [h]
theorem blind_none {x : MWorld} {y : MItem} (h : sentAt x y.f_Bytes = none) : blind x y = false := by unfold blind; rw [h]
theorem blind_some {x : MWorld} {y : MItem} {k : Nat} (h : sentAt x y.f_Bytes = some k) : blind x y = (decide (routeAt x k = y.f_Route) && decide (y.f_Bytes.length = 51 + padLen (noteAt x k).length)) := by unfold blind; rw [h]
theorem judgeOnce_no {x : MWorld} (h : worldOk x = false) : judgeOnce x = false := by unfold judgeOnce; rw [h]; rfl
theorem worldOk_reader {x : MWorld} (h : worldOk x = true) : x.f_Reader.f_Got.length = x.f_Reader.f_Seen.length := by
  have := (worldOk_iff.1 h).2.2.2.2.1
  by_cases hp : readerP x.f_Reader
  · exact hp.2.2.2.1
  · rw [readerOk_false hp] at this; cases this
theorem worldOk_notes {x : MWorld} (h : worldOk x = true) : ∀ y ∈ x.f_Sent, y.f_Note.length ≤ 200 := fun y hy =>
  (sentOk_iff.1 (List.all_eq_true.1 (worldOk_iff.1 h).2.2.2.2.2.2.2.2 y hy)).1
theorem padded_padLen (b : List UInt8) : (padded b).length = padLen b.length := by
  rw [padded_len]
  unfold padLen padZ stepOf
  split <;> rfl
theorem w64_51 {n : Nat} (h : n ≤ 400) : w64 (51 + (n : Int)) = ((51 + n : Nat) : Int) := by unfold w64; omega
theorem padLen_le {n : Nat} (h : n ≤ 200) : padLen n ≤ 400 := by unfold padLen; split <;> omega
theorem sentAt1_ok (w : World) (cs : List Value) (y : MSent) (g : Nat) (v : Value) (b : List UInt8) (h : kSent.rd w w.heap.size cs y) (h' : (bytes 5).rd w w.heap.size [v] b) (hg : w.cell? ⟨g, 0, none⟩ = some v) :
    ACalls Tryz.prog 155 #[.agg cs.toArray, .pointer (some ⟨g, 0, none⟩)] w fun r w' => r = .bool (sentBy b y) ∧ Below w.heap.size w w' := by
  obtain ⟨v2, v3, rfl, h0, h1, h2, h3⟩ := kSent_open h
  have H := Sep.start w
  refine body_of follows Tryz.func155 rfl rfl _ rfl (by kernel_rfl) (vs ?_)
  refine x_bx H [.string ⟨y.f_Route.toArray⟩, .int .i64 y.f_Epoch, v2, v3] fun g1 w1 H => vs ?_
  refine x_ld H sc22 ?_
  refine vs ?_
  refine x_load sc22 ((H.bel.cell (p := ⟨g, 0, none⟩) (World.block_lt_of_cell? _ _ hg)).trans hg) (vs ?_)
  refine x_callw (implSame_ok w1 _ _ _ _ (H.rd h3) (H.rd h')) (vs ?_)
  exact ⟨rfl, H.bel⟩
theorem implSentAt_ok (w : World) (cs : List Value) (x : MWorld) (v : Value) (b : List UInt8) (h : kWorld.rd w w.heap.size cs x) (h' : (bytes 5).rd w w.heap.size [v] b) :
    ACalls Tryz.prog 91 #[.agg cs.toArray, v] w fun r w' => r = .int .i64 (atI (sentAt x b)) ∧ Below w.heap.size w w' := by
  have hv := h'
  obtain ⟨Ab, cb, rfl, _⟩ := sl_open h'
  obtain ⟨v0, v3, v5, v7, v9, v10, v11, v12, rfl, h0, hC, hK, hP, hR, hN, hS⟩ := kWorld_open h
  have H := Sep.start w
  refine body_of follows Tryz.func91 rfl rfl _ rfl (by kernel_rfl) (vs ?_)
  refine x_bx H [v0, .int .i64 x.f_Count, .int .i64 x.f_Known, v3, .int .i64 x.f_Post.f_Time, v5, .int .i64 x.f_Post.f_Sure, v7, .int .i64 x.f_Reader.f_Epoch, v9, v10, v11, v12] fun g1 w1 H => vs ?_
  refine x_bx H [.slice Ab b.length cb] fun g2 w2 H => vs ?_
  refine x_ld H sc40 ?_
  refine vs ?_
  have hcell := H.cell (g := g2) (cs := [.slice Ab b.length cb]) (t := 22) (.head _) 0
  have hlt := H.lt (g := g2) (cs := [.slice Ab b.length cb]) (t := 22) (.head _)
  refine x_call (indexFuncS_ok w2 v12 x.f_Sent (sentBy b) 155 #[] #[.pointer (some ⟨g2, 0, none⟩)] (H.rd hS) en155 fun w' es y hb hm hy => by rw [arr2]; exact sentAt1_ok w' es y g2 _ b hy (Kd.le _ (Kd.mono _ (H.rd hv) hb) hb.size) ((hb.cell hlt).trans hcell)) fun _ w3 ⟨hr, hb⟩ => ?_
  have H := H.go hb
  rcases hr with ⟨k, hk, rfl, hp, hn⟩ | ⟨rfl, hn⟩
  · refine vs ?_
    rw [sentAt_some hk hp fun j hj hjk => hn j hj hjk]
    exact ⟨rfl, H.bel⟩
  · refine vs ?_
    rw [sentAt_none hn]
    exact ⟨rfl, H.bel⟩
theorem l18Sent_ok (w : World) (cs : List Value) (x : MWorld) (v : Value) (b : List UInt8) (h : kWorld.rd w w.heap.size cs x) (h' : (bytes 5).rd w w.heap.size [v] b) (hs : x.f_Sent.length ≤ 1048576) :
    ACalls Tryz.prog 89 #[.agg cs.toArray, v] w fun r w' => r = .int .i64 (atI (sentAt x b)) ∧ Below w.heap.size w w' := by
  have hv := h'
  obtain ⟨Ab, cb, rfl, _⟩ := sl_open h'
  obtain ⟨v0, v3, v5, v7, v9, v10, v11, v12, rfl, h0, hC, hK, hP, hR, hN, hS⟩ := kWorld_open h
  obtain ⟨A12, c12, rfl, _, _, haS⟩ := sl_open hS
  have H := Sep.start w
  refine body_of follows Tryz.func89 rfl rfl _ rfl (by kernel_rfl) (vs ?_)
  refine x_bx H [v0, .int .i64 x.f_Count, .int .i64 x.f_Known, v3, .int .i64 x.f_Post.f_Time, v5, .int .i64 x.f_Post.f_Sure, v7, .int .i64 x.f_Reader.f_Epoch, v9, v10, v11, .slice A12 x.f_Sent.length c12] fun g1 w1 H => vs ?_
  refine loop_at (σ := Nat) (fun k => [(1, .slice Ab b.length cb), (2, .pointer (some ⟨g1, 0, none⟩)), (5, .int .i64 (k : Int))])
    (fun k w' => k ≤ x.f_Sent.length ∧ (∀ i (hi : i < x.f_Sent.length), i < k → sentBy b x.f_Sent[i] = false) ∧ Sep w.heap.size w w' [Ck.box g1 [v0, .int .i64 x.f_Count, .int .i64 x.f_Known, v3, .int .i64 x.f_Post.f_Time, v5, .int .i64 x.f_Post.f_Sure, v7, .int .i64 x.f_Reader.f_Epoch, v9, v10, v11, .slice A12 x.f_Sent.length c12] 42]) (fun k => x.f_Sent.length - k) 0 (vs trivial) ⟨Nat.zero_le _, fun i hi h => absurd h (Nat.not_lt_zero i), H⟩ ?_
  rintro k s w2 ⟨hk, hall, H⟩
  refine vs ?_
  refine x_ld H sc40 ?_
  refine vs (ways ?_ ?_)
  · refine vh fun hlt => ?_
    have hk2 : k < x.f_Sent.length := by omega
    refine x_ld H sc40 ?_
    refine vs ?_
    refine x_ele H sl40 rfl k hk2 haS rfl fun ad es hb1 hr hc => vs ?_
    have hr : kSent.rd w w.heap.size es x.f_Sent[k] := hr
    obtain ⟨u2, u3, rfl, _, _, _, r3⟩ := kSent_open hr
    refine x_lfj (j := 3) sc22 hc (by decide) rfl ?_
    refine vs ?_
    refine x_callw (specSame_ok w2 _ _ _ _ (H.rd r3) (H.rd hv)) ?_
    by_cases he : x.f_Sent[k].f_Bytes = b
    · refine ve he ?_
      rw [sentAt_some hk2 (show sentBy b x.f_Sent[k] = true from decide_eq_true he) fun j hj hjk => hall j hj hjk]
      exact ⟨rfl, H.bel⟩
    · refine ve he ?_
      refine ⟨k + 1, i64_eq (w64_upJ hk2 hs), ⟨hk2, fun i hi h => ?_, H⟩, less_J hk2⟩
      by_cases h2 : i = k
      · subst h2; exact decide_eq_false he
      · exact hall i hi (below_J h h2)
  · refine vh fun hlt => ?_
    rw [sentAt_none fun j hj => hall j hj (by omega)]
    exact ⟨rfl, H.bel⟩
theorem implJudgeOnce_ok (w : World) (cs : List Value) (x : MWorld) (h : kWorld.rd w w.heap.size cs x) (hs : smWorld x) :
    ACalls Tryz.prog 17 #[.agg cs.toArray] w fun r w' => r = .bool (judgeOnce x) ∧ Below w.heap.size w w' := by
  have h9 := h
  have hs9 := hs
  unfold smWorld at hs
  obtain ⟨v0, v3, v5, v7, v9, v10, v11, v12, rfl, h0, hC, hK, hP, hR, hN, hS⟩ := kWorld_open h
  obtain ⟨_, _, _, eR, _, _, _, hG⟩ := kReader_open hR
  simp only [List.cons.injEq, and_true, true_and] at eR
  obtain ⟨rfl, rfl, rfl⟩ := eR
  obtain ⟨A10, c10, rfl, _⟩ := sl_open hG
  obtain ⟨A12, c12, rfl, _⟩ := sl_open hS
  have H := Sep.start w
  refine body_of follows Tryz.func17 rfl rfl _ rfl (by kernel_rfl) (vs ?_)
  refine x_bx H [v0, .int .i64 x.f_Count, .int .i64 x.f_Known, v3, .int .i64 x.f_Post.f_Time, v5, .int .i64 x.f_Post.f_Sure, v7, .int .i64 x.f_Reader.f_Epoch, v9, .slice A10 x.f_Reader.f_Got.length c10, v11, .slice A12 x.f_Sent.length c12] fun g1 w1 H => vs ?_
  refine x_lda H st42 ?_
  refine vs ?_
  refine x_callb H (implWorldOk_ok w1 _ x (H.rd h9) hs9) fun w2 H => ?_
  cases hw : worldOk x with
  | false =>
    refine vs ?_
    rw [judgeOnce_no hw]
    first | exact ⟨rfl, H.bel⟩ | exact H.bel
  | true =>
    refine vs ?_
    refine x_ld H sc26 ?_
    refine vs ?_
    refine x_ld H sc40 ?_
    refine vs ?_
    have e : judgeOnce x = decide ((x.f_Reader.f_Got.length : Int) ≤ (x.f_Sent.length : Int)) := by
      unfold judgeOnce; rw [hw, Bool.true_and]; exact decide_eq_decide.2 (by omega)
    rw [e]
    first | exact ⟨rfl, H.bel⟩ | exact H.bel
theorem specJudgeOnce_ok (w : World) (cs : List Value) (x : MWorld) (h : kWorld.rd w w.heap.size cs x) (hs : smWorld x) :
    ACalls Tryz.prog 16 #[.agg cs.toArray] w fun r w' => r = .bool (judgeOnce x) ∧ Below w.heap.size w w' := by
  have h9 := h
  have hs9 := hs
  unfold smWorld at hs
  obtain ⟨v0, v3, v5, v7, v9, v10, v11, v12, rfl, h0, hC, hK, hP, hR, hN, hS⟩ := kWorld_open h
  obtain ⟨_, _, _, eR, _, _, _, hG⟩ := kReader_open hR
  simp only [List.cons.injEq, and_true, true_and] at eR
  obtain ⟨rfl, rfl, rfl⟩ := eR
  obtain ⟨A10, c10, rfl, _⟩ := sl_open hG
  obtain ⟨A12, c12, rfl, _⟩ := sl_open hS
  have H := Sep.start w
  refine body_of follows Tryz.func16 rfl rfl _ rfl (by kernel_rfl) (vs ?_)
  refine x_bx H [v0, .int .i64 x.f_Count, .int .i64 x.f_Known, v3, .int .i64 x.f_Post.f_Time, v5, .int .i64 x.f_Post.f_Sure, v7, .int .i64 x.f_Reader.f_Epoch, v9, .slice A10 x.f_Reader.f_Got.length c10, v11, .slice A12 x.f_Sent.length c12] fun g1 w1 H => vs ?_
  refine x_lda H st42 ?_
  refine vs ?_
  refine x_callb H (specWorldOk_ok w1 _ x (H.rd h9) hs9) fun w2 H => ?_
  cases hw : worldOk x with
  | false =>
    refine vs ?_
    rw [judgeOnce_no hw]
    first | exact ⟨rfl, H.bel⟩ | exact H.bel
  | true =>
    refine vs ?_
    refine x_ld H sc26 ?_
    refine vs ?_
    refine x_ld H sc40 ?_
    refine vs ?_
    have e : judgeOnce x = decide ((x.f_Reader.f_Got.length : Int) ≤ (x.f_Sent.length : Int)) := by
      unfold judgeOnce; rw [hw, Bool.true_and]; exact decide_eq_decide.2 (by omega)
    rw [e]
    first | exact ⟨rfl, H.bel⟩ | exact H.bel

theorem implJudgeRead_ok (w : World) (cs : List Value) (x : MWorld) (h : kWorld.rd w w.heap.size cs x) (hs : smWorld x) :
    ACalls Tryz.prog 26 #[.agg cs.toArray] w fun r w' => r = .bool (judgeRead x) ∧ Below w.heap.size w w' := by
  have h9 := h
  have hs9 := hs
  unfold smWorld at hs
  obtain ⟨v0, v3, v5, v7, v9, v10, v11, v12, rfl, h0, hC, hK, hP, hR, hN, hS⟩ := kWorld_open h
  obtain ⟨_, _, _, eR, _, _, hE, hG⟩ := kReader_open hR
  simp only [List.cons.injEq, and_true, true_and] at eR
  obtain ⟨rfl, rfl, rfl⟩ := eR
  obtain ⟨A9, c9, rfl, _, _, haE⟩ := sl_open hE
  obtain ⟨A10, c10, rfl, _, _, haG⟩ := sl_open hG
  obtain ⟨A12, c12, rfl, _, _, haS⟩ := sl_open hS
  have hel : x.f_Reader.f_Seen.length ≤ 1048576 := by have := hs.2.2.1; unfold smReader at this; exact this.2.1.1
  have H := Sep.start w
  refine body_of follows Tryz.func26 rfl rfl _ rfl (by kernel_rfl) (vs ?_)
  refine x_bx H [v0, .int .i64 x.f_Count, .int .i64 x.f_Known, v3, .int .i64 x.f_Post.f_Time, v5, .int .i64 x.f_Post.f_Sure, v7, .int .i64 x.f_Reader.f_Epoch, .slice A9 x.f_Reader.f_Seen.length c9, .slice A10 x.f_Reader.f_Got.length c10, v11, .slice A12 x.f_Sent.length c12] fun g1 w1 H => vs ?_
  refine x_lda H st42 ?_
  refine vs ?_
  refine x_callb H (implWorldOk_ok w1 _ x (H.rd h9) hs9) fun w2 H => ?_
  cases hw : worldOk x with
  | false =>
    refine vs ?_
    rw [judgeRead_no hw]
    first | exact ⟨rfl, H.bel⟩ | exact H.bel
  | true =>
    have hgl := worldOk_reader hw
    refine vs ?_
    refine x_ld H sc26 ?_
    refine vs ?_
    refine loop_at (σ := Nat) (fun k => [(1, .pointer (some ⟨g1, 0, none⟩)), (11, .slice A9 x.f_Reader.f_Seen.length c9), (12, .int .i64 (x.f_Reader.f_Seen.length : Int)), (13, .int .i64 (k : Int))])
      (fun k w' => k ≤ x.f_Reader.f_Seen.length ∧ (∀ i, i < k → readAt x i = true) ∧ Sep w.heap.size w w' [Ck.box g1 [v0, .int .i64 x.f_Count, .int .i64 x.f_Known, v3, .int .i64 x.f_Post.f_Time, v5, .int .i64 x.f_Post.f_Sure, v7, .int .i64 x.f_Reader.f_Epoch, .slice A9 x.f_Reader.f_Seen.length c9, .slice A10 x.f_Reader.f_Got.length c10, v11, .slice A12 x.f_Sent.length c12] 42]) (fun k => x.f_Reader.f_Seen.length - k) 0 (vs trivial) ⟨Nat.zero_le _, fun i h => absurd h (Nat.not_lt_zero i), H⟩ ?_
    rintro k s w3 ⟨hk, hall, H⟩
    refine vs (ways ?_ ?_)
    rotate_left
    · refine vh fun hlt => ?_
      rw [judgeRead_good hw fun i hi => hall i (by omega)]
      first | exact ⟨rfl, H.bel⟩ | exact H.bel
    refine vh fun hlt => ?_
    have hk2 : k < x.f_Reader.f_Seen.length := by omega
    have hk3 : k < x.f_Reader.f_Got.length := by omega
    
    refine x_ele H sl26 rfl k hk2 haE rfl fun ad es hb1 hr hc => vs ?_
    obtain ⟨u, rfl⟩ := sl_one hr
    have hr2 : (bytes 5).rd w w.heap.size [u] x.f_Reader.f_Seen[k] := hr
    obtain ⟨Au, cu, rfl, _⟩ := sl_open hr
    refine x_ld1 sc22 hc rfl (vs ?_)
    refine x_lda H st42 ?_
    refine vs ?_
    refine x_callb H (implSentAt_ok w3 _ x _ _ (H.rd h9) (H.rd hr2)) fun w5 H => ?_
    cases hat : sentAt x x.f_Reader.f_Seen[k] with
    | none =>
      have er := readAt_none (x := x) (i := k) (by rw [listAt_eq hk2]; exact hat)
      refine ve (And.intro (show atI none = -1 from rfl) m1_lt) ?_
      refine draw_of [(0, true), (1, true), (2, true), (3, true), (4, true), (5, true), (6, true), (7, true), (8, true), (9, true), (10, true), (11, true), (12, true), (13, true), (14, true), (15, false), (16, true), (17, true)] w5.heap.size [] fun w6 hh hb6 => ve m1_lt ?_
      have J := (Sep.start w5).go (hb6 _)
      have H := H.go (hb6 _)
      rw [judgeRead_bad hk2 er]
      first | exact ⟨kept_base J J, rfl, H.bel⟩ | exact ⟨rfl, H.bel⟩ | exact H.bel
    | some i =>
      have er := readAt_some (x := x) (i := k) (by rw [listAt_eq hk2]; exact hat)
      have hi := sentAt_lt hat
      have hi0 := neg_J (i := i)
      rw [noteAt_eq hi, listAt_eq hk3] at er
      refine ve (And.intro (show atI (some i) = (i : Int) from rfl) hi0) ?_
      have J := Sep.start w5
      refine draw_of [(0, true), (1, true), (2, true), (3, true), (4, true), (5, true), (6, true), (7, true), (8, true), (9, true), (10, true), (11, true), (12, true), (13, true), (14, true), (15, false), (16, true), (17, true)] w5.heap.size [] fun w6 hh hb6 => ve hi0 ?_
      have J := J.go (hb6 _)
      have H6 := H.go (hb6 _)
      refine q_ldB H J sc40 ?_
      refine ve hi0 ?_
      refine q_ele H6 sl40 rfl i hi haS rfl fun ad es hb1 hr hc => ve hi0 ?_
      have hr : kSent.rd w w.heap.size es x.f_Sent[i] := hr
      obtain ⟨y2, y3, rfl, _, _, r2, r3⟩ := kSent_open hr
      refine q_lfj (j := 2) sc22 hc (by decide) (Nat.lt_of_lt_of_le hb1 H.ns) rfl ?_
      refine ve hi0 ?_
      refine q_ldB H J sc26 ?_
      refine ve hi0 ?_
      refine q_ele H6 sl26 rfl k hk3 haG rfl fun ad es hb1 hr hc => ve hi0 ?_
      obtain ⟨z, rfl⟩ := sl_one hr
      have hrz : (bytes 5).rd w w.heap.size [z] x.f_Reader.f_Got[k] := hr
      refine q_lf0 sc22 hc (by decide) (Nat.lt_of_lt_of_le hb1 H.ns) rfl ?_
      refine ve hi0 ?_
      refine x_callw (implSame_ok w6 _ _ _ _ (H6.rd r2) (H6.rd hrz)) ?_
      refine ⟨kept_base J J, ?_⟩
      have H := H6
      by_cases he : x.f_Sent[i].f_Note = x.f_Reader.f_Got[k]
      · rw [decide_eq_true he] at er
        refine ve (And.intro hi0 (eq_true he)) ?_
        refine ⟨k + 1, i64_eq (w64_upJ hk2 hel), ⟨hk2, fun j hj => ?_, H⟩, less_J hk2⟩
        by_cases h2 : j = k
        · subst h2; exact er
        · exact hall j (below_J hj h2)
      · rw [decide_eq_false he] at er
        refine ve (And.intro hi0 (eq_false he)) ?_
        rw [judgeRead_bad hk2 er]
        first | exact ⟨rfl, H.bel⟩ | exact H.bel

theorem specJudgeRead_ok (w : World) (cs : List Value) (x : MWorld) (h : kWorld.rd w w.heap.size cs x) (hs : smWorld x) :
    ACalls Tryz.prog 25 #[.agg cs.toArray] w fun r w' => r = .bool (judgeRead x) ∧ Below w.heap.size w w' := by
  have h9 := h
  have hs9 := hs
  unfold smWorld at hs
  obtain ⟨v0, v3, v5, v7, v9, v10, v11, v12, rfl, h0, hC, hK, hP, hR, hN, hS⟩ := kWorld_open h
  obtain ⟨_, _, _, eR, _, _, hE, hG⟩ := kReader_open hR
  simp only [List.cons.injEq, and_true, true_and] at eR
  obtain ⟨rfl, rfl, rfl⟩ := eR
  obtain ⟨A9, c9, rfl, _, _, haE⟩ := sl_open hE
  obtain ⟨A10, c10, rfl, _, _, haG⟩ := sl_open hG
  obtain ⟨A12, c12, rfl, _, _, haS⟩ := sl_open hS
  have hel : x.f_Reader.f_Seen.length ≤ 1048576 := by have := hs.2.2.1; unfold smReader at this; exact this.2.1.1
  have H := Sep.start w
  refine body_of follows Tryz.func25 rfl rfl _ rfl (by kernel_rfl) (vs ?_)
  refine x_bx H [v0, .int .i64 x.f_Count, .int .i64 x.f_Known, v3, .int .i64 x.f_Post.f_Time, v5, .int .i64 x.f_Post.f_Sure, v7, .int .i64 x.f_Reader.f_Epoch, .slice A9 x.f_Reader.f_Seen.length c9, .slice A10 x.f_Reader.f_Got.length c10, v11, .slice A12 x.f_Sent.length c12] fun g1 w1 H => vs ?_
  refine x_lda H st42 ?_
  refine vs ?_
  refine x_callb H (specWorldOk_ok w1 _ x (H.rd h9) hs9) fun w2 H => ?_
  cases hw : worldOk x with
  | false =>
    refine vs ?_
    rw [judgeRead_no hw]
    first | exact ⟨rfl, H.bel⟩ | exact H.bel
  | true =>
    have hgl := worldOk_reader hw
    refine vs ?_
    refine loop_at (σ := Nat) (fun k => [(1, .pointer (some ⟨g1, 0, none⟩)), (3, .int .i64 (k : Int))])
      (fun k w' => k ≤ x.f_Reader.f_Seen.length ∧ (∀ i, i < k → readAt x i = true) ∧ Sep w.heap.size w w' [Ck.box g1 [v0, .int .i64 x.f_Count, .int .i64 x.f_Known, v3, .int .i64 x.f_Post.f_Time, v5, .int .i64 x.f_Post.f_Sure, v7, .int .i64 x.f_Reader.f_Epoch, .slice A9 x.f_Reader.f_Seen.length c9, .slice A10 x.f_Reader.f_Got.length c10, v11, .slice A12 x.f_Sent.length c12] 42]) (fun k => x.f_Reader.f_Seen.length - k) 0 (vs trivial) ⟨Nat.zero_le _, fun i h => absurd h (Nat.not_lt_zero i), H⟩ ?_
    rintro k s w3 ⟨hk, hall, H⟩
    refine vs ?_
    refine x_ld H sc26 ?_
    refine vs (ways ?_ ?_)
    rotate_left
    · refine vh fun hlt => ?_
      rw [judgeRead_good hw fun i hi => hall i (by omega)]
      first | exact ⟨rfl, H.bel⟩ | exact H.bel
    refine vh fun hlt => ?_
    have hk2 : k < x.f_Reader.f_Seen.length := by omega
    have hk3 : k < x.f_Reader.f_Got.length := by omega
    
    have J := Sep.start w3
    refine draw_of [(0, true), (1, true), (2, true), (3, true), (4, true), (5, true), (6, true), (7, false), (8, true)] w3.heap.size [] fun w4 hh hb4 => vs ?_
    have J := J.go (hb4 _)
    have J3 := J
    have H4 := H.go (hb4 _)
    refine q_ldaB H J3 st42 ?_
    refine vs ?_
    refine q_ldB H J3 sc26 ?_
    refine vs ?_
    refine q_ele H4 sl26 rfl k hk2 haE rfl fun ad es hb1 hr hc => vs ?_
    obtain ⟨u, rfl⟩ := sl_one hr
    have hr2 : (bytes 5).rd w w.heap.size [u] x.f_Reader.f_Seen[k] := hr
    obtain ⟨Au, cu, rfl, _⟩ := sl_open hr
    refine q_lf0 sc22 hc (by decide) (Nat.lt_of_lt_of_le hb1 H.ns) rfl ?_
    refine vs ?_
    refine x_callb J (l18Sent_ok w4 _ x _ _ (J.rd (H.rd h9)) (J.rd (H.rd hr2)) hs.2.2.2.2.1) fun w5 J => vs ?_
    refine ⟨kept_base J3 J, ?_⟩
    have H := H.join J
    simp only [List.nil_append] at H
    cases hat : sentAt x x.f_Reader.f_Seen[k] with
    | none =>
      have er := readAt_none (x := x) (i := k) (by rw [listAt_eq hk2]; exact hat)
      refine ve (And.intro (show atI none = -1 from rfl) m1_lt) ?_
      refine draw_of [(0, true), (1, true), (2, true), (3, true), (4, true), (5, true), (6, true), (7, true), (8, true), (9, true), (10, true), (11, true), (12, true), (13, true), (14, true), (15, false), (16, true), (17, true)] w5.heap.size [] fun w6 hh hb6 => ve m1_lt ?_
      have J := (Sep.start w5).go (hb6 _)
      have H := H.go (hb6 _)
      rw [judgeRead_bad hk2 er]
      first | exact ⟨kept_base J J, rfl, H.bel⟩ | exact ⟨rfl, H.bel⟩ | exact H.bel
    | some i =>
      have er := readAt_some (x := x) (i := k) (by rw [listAt_eq hk2]; exact hat)
      have hi := sentAt_lt hat
      have hi0 := neg_J (i := i)
      rw [noteAt_eq hi, listAt_eq hk3] at er
      refine ve (And.intro (show atI (some i) = (i : Int) from rfl) hi0) ?_
      have J := Sep.start w5
      refine draw_of [(0, true), (1, true), (2, true), (3, true), (4, true), (5, true), (6, true), (7, true), (8, true), (9, true), (10, true), (11, true), (12, true), (13, true), (14, true), (15, false), (16, true), (17, true)] w5.heap.size [] fun w6 hh hb6 => ve hi0 ?_
      have J := J.go (hb6 _)
      have H6 := H.go (hb6 _)
      refine q_ldB H J sc40 ?_
      refine ve hi0 ?_
      refine q_ele H6 sl40 rfl i hi haS rfl fun ad es hb1 hr hc => ve hi0 ?_
      have hr : kSent.rd w w.heap.size es x.f_Sent[i] := hr
      obtain ⟨y2, y3, rfl, _, _, r2, r3⟩ := kSent_open hr
      refine q_lfj (j := 2) sc22 hc (by decide) (Nat.lt_of_lt_of_le hb1 H.ns) rfl ?_
      refine ve hi0 ?_
      refine q_ldB H J sc26 ?_
      refine ve hi0 ?_
      refine q_ele H6 sl26 rfl k hk3 haG rfl fun ad es hb1 hr hc => ve hi0 ?_
      obtain ⟨z, rfl⟩ := sl_one hr
      have hrz : (bytes 5).rd w w.heap.size [z] x.f_Reader.f_Got[k] := hr
      refine q_lf0 sc22 hc (by decide) (Nat.lt_of_lt_of_le hb1 H.ns) rfl ?_
      refine ve hi0 ?_
      refine x_callw (specSame_ok w6 _ _ _ _ (H6.rd r2) (H6.rd hrz)) ?_
      refine ⟨kept_base J J, ?_⟩
      have H := H6
      by_cases he : x.f_Sent[i].f_Note = x.f_Reader.f_Got[k]
      · rw [decide_eq_true he] at er
        refine ve (And.intro hi0 (eq_true he)) ?_
        refine ⟨k + 1, i64_eq (w64_upJ hk2 hel), ⟨hk2, fun j hj => ?_, H⟩, less_J hk2⟩
        by_cases h2 : j = k
        · subst h2; exact er
        · exact hall j (below_J hj h2)
      · rw [decide_eq_false he] at er
        refine ve (And.intro hi0 (eq_false he)) ?_
        rw [judgeRead_bad hk2 er]
        first | exact ⟨rfl, H.bel⟩ | exact H.bel

theorem implBlind_ok (w : World) (cs : List Value) (x : MWorld) (ds : List Value) (y : MItem) (h : kWorld.rd w w.heap.size cs x) (h' : kItem.rd w w.heap.size ds y) (hsl : x.f_Sent.length ≤ 1048576) (hn : ∀ z ∈ x.f_Sent, z.f_Note.length ≤ 200) :
    ACalls Tryz.prog 95 #[.agg cs.toArray, .agg ds.toArray] w fun r w' => r = .bool (blind x y) ∧ Below w.heap.size w w' := by
  have h9 := h
  obtain ⟨v0, v3, v5, v7, v9, v10, v11, v12, rfl, h0, hC, hK, hP, hR, hN, hS⟩ := kWorld_open h
  obtain ⟨A12, c12, rfl, _, _, haS⟩ := sl_open hS
  obtain ⟨u3, rfl, i0, i1, i2, i3⟩ := kItem_open h'
  have hb9 := i3
  obtain ⟨B3, d3, rfl, _⟩ := sl_open i3
  have H := Sep.start w
  refine body_of follows Tryz.func95 rfl rfl _ rfl (by kernel_rfl) (vs ?_)
  refine x_bx H [v0, .int .i64 x.f_Count, .int .i64 x.f_Known, v3, .int .i64 x.f_Post.f_Time, v5, .int .i64 x.f_Post.f_Sure, v7, .int .i64 x.f_Reader.f_Epoch, v9, v10, v11, .slice A12 x.f_Sent.length c12] fun g1 w1 H => vs ?_
  refine x_bx H [.string ⟨y.f_Route.toArray⟩, .int .i64 y.f_Topic, .int .i64 y.f_Due, .slice B3 y.f_Bytes.length d3] fun g2 w2 H => vs ?_
  refine x_lda H st42 ?_
  refine vs ?_
  refine x_ld H sc22 ?_
  refine vs ?_
  refine x_callb H (implSentAt_ok w2 _ x _ _ (H.rd h9) (H.rd hb9)) fun w3 H => ?_
  cases hat : sentAt x y.f_Bytes with
  | none =>
    have eb := blind_none (x := x) (y := y) hat
    refine ve (And.intro (show atI none = -1 from rfl) m1_ge) ?_
    refine draw_of [(0, true), (1, true), (2, true), (3, true), (4, true), (5, true), (6, true), (7, true), (8, true), (9, true), (10, true), (11, true), (12, true), (13, true), (14, true), (15, true), (16, true), (17, true), (18, true), (19, true), (20, true), (21, true), (22, true), (23, false), (24, true), (25, true), (26, true), (27, true), (28, true)] w3.heap.size [] fun w4 hh hb4 => ve m1_ge ?_
    have J := (Sep.start w3).go (hb4 _)
    have H := H.go (hb4 _)
    rw [eb]
    first | exact ⟨kept_base J J, rfl, H.bel⟩ | exact ⟨rfl, H.bel⟩ | exact H.bel
  | some i =>
    have eb := blind_some (x := x) (y := y) hat
    have hi := sentAt_lt hat
    have hi0 : (0 : Int) ≤ (i : Int) := Int.natCast_nonneg _
    rw [routeAt_eq hi, noteAt_eq hi] at eb
    refine ve (And.intro (show atI (some i) = (i : Int) from rfl) hi0) ?_
    have J := Sep.start w3
    refine draw_of [(0, true), (1, true), (2, true), (3, true), (4, true), (5, true), (6, true), (7, true), (8, true), (9, true), (10, true), (11, true), (12, true), (13, true), (14, true), (15, true), (16, true), (17, true), (18, true), (19, true), (20, true), (21, true), (22, true), (23, false), (24, true), (25, true), (26, true), (27, true), (28, true)] w3.heap.size [] fun w4 hh hb4 => ve hi0 ?_
    have J := J.go (hb4 _)
    have J3 := J
    have H4 := H.go (hb4 _)
    refine q_ldB H J3 sc40 ?_
    refine ve hi0 ?_
    refine q_ele H4 sl40 rfl i hi haS rfl fun ad es hb1 hr hc => ve hi0 ?_
    have hr : kSent.rd w w.heap.size es x.f_Sent[i] := hr
    obtain ⟨y2, y3, rfl, _, _, r2, r3⟩ := kSent_open hr
    refine q_lf0 sc9 hc (by decide) (Nat.lt_of_lt_of_le hb1 H.ns) rfl ?_
    refine ve hi0 ?_
    refine q_ldB H J3 sc9 ?_
    by_cases hR : x.f_Sent[i].f_Route = y.f_Route
    rotate_left
    · rw [decide_eq_false hR, Bool.false_and] at eb
      refine ve (And.intro hi0 (eq_false hR)) ?_
      have H := H4
      rw [eb]
      first | exact ⟨kept_base J J, rfl, H.bel⟩ | exact ⟨rfl, H.bel⟩ | exact H.bel
    have eR : (x.f_Sent[i].f_Route = y.f_Route) = True := eq_true hR
    refine ve (And.intro hi0 eR) ?_
    refine q_ldB H J3 sc22 ?_
    refine ve (And.intro hi0 eR) ?_
    refine q_ldB H J3 sc40 ?_
    refine ve (And.intro hi0 eR) ?_
    refine q_ele H4 sl40 rfl i hi haS rfl fun ad es hb1 hr hc => ve (And.intro hi0 eR) ?_
    have hr : kSent.rd w w.heap.size es x.f_Sent[i] := hr
    obtain ⟨z2, z3, rfl, _, _, s2, s3⟩ := kSent_open hr
    refine q_lfj (j := 2) sc22 hc (by decide) (Nat.lt_of_lt_of_le hb1 H.ns) rfl ?_
    refine ve (And.intro hi0 eR) ?_
    have hnl := hn _ (List.getElem_mem hi)
    refine x_callf J (implPadded_ok w4 _ _ (H4.rd s2) hnl) fun rp fp w5 J => ?_
    obtain ⟨Ap, cp, rfl, _⟩ := sl_open (J.own (.head _))
    refine ve (And.intro hi0 eR) ?_
    refine ⟨kept_base J3 J, ?_⟩
    have H := H.join J
    rw [padded_padLen]
    have hpl := padLen_le hnl
    refine ve (And.intro (w64_51 hpl) (And.intro hi0 eR)) ?_
    rw [decide_eq_true hR, Bool.true_and] at eb
    have e2 : blind x y = decide ((y.f_Bytes.length : Int) = ((51 + padLen x.f_Sent[i].f_Note.length : Nat) : Int)) := by rw [eb]; exact decide_eq_decide.2 (by omega)
    rw [e2]
    first | exact ⟨rfl, H.bel⟩ | exact H.bel

theorem l18Item_ok (w : World) (cs : List Value) (x : MWorld) (ds : List Value) (y : MItem) (h : kWorld.rd w w.heap.size cs x) (h' : kItem.rd w w.heap.size ds y) (hsl : x.f_Sent.length ≤ 1048576) (hn : ∀ z ∈ x.f_Sent, z.f_Note.length ≤ 200) :
    ACalls Tryz.prog 92 #[.agg cs.toArray, .agg ds.toArray] w fun r w' => r = .bool (blind x y) ∧ Below w.heap.size w w' := by
  have h9 := h
  obtain ⟨v0, v3, v5, v7, v9, v10, v11, v12, rfl, h0, hC, hK, hP, hR, hN, hS⟩ := kWorld_open h
  obtain ⟨A12, c12, rfl, _, _, haS⟩ := sl_open hS
  obtain ⟨u3, rfl, i0, i1, i2, i3⟩ := kItem_open h'
  have hb9 := i3
  obtain ⟨B3, d3, rfl, _⟩ := sl_open i3
  have H := Sep.start w
  refine body_of follows Tryz.func92 rfl rfl _ rfl (by kernel_rfl) (vs ?_)
  refine x_bx H [v0, .int .i64 x.f_Count, .int .i64 x.f_Known, v3, .int .i64 x.f_Post.f_Time, v5, .int .i64 x.f_Post.f_Sure, v7, .int .i64 x.f_Reader.f_Epoch, v9, v10, v11, .slice A12 x.f_Sent.length c12] fun g1 w1 H => vs ?_
  refine x_bx H [.string ⟨y.f_Route.toArray⟩, .int .i64 y.f_Topic, .int .i64 y.f_Due, .slice B3 y.f_Bytes.length d3] fun g2 w2 H => vs ?_
  refine x_lda H st42 ?_
  refine vs ?_
  refine x_ld H sc22 ?_
  refine vs ?_
  refine x_callb H (l18Sent_ok w2 _ x _ _ (H.rd h9) (H.rd hb9) hsl) fun w3 H => ?_
  cases hat : sentAt x y.f_Bytes with
  | none =>
    have eb := blind_none (x := x) (y := y) hat
    refine ve (And.intro (show atI none = -1 from rfl) m1_ge) ?_
    refine draw_of [(0, true), (1, true), (2, true), (3, true), (4, true), (5, true), (6, true), (7, true), (8, true), (9, true), (10, true), (11, true), (12, true), (13, true), (14, true), (15, true), (16, true), (17, true), (18, true), (19, true), (20, true), (21, true), (22, true), (23, false), (24, true), (25, true), (26, true), (27, true), (28, true)] w3.heap.size [] fun w4 hh hb4 => ve m1_ge ?_
    have J := (Sep.start w3).go (hb4 _)
    have H := H.go (hb4 _)
    rw [eb]
    first | exact ⟨kept_base J J, rfl, H.bel⟩ | exact ⟨rfl, H.bel⟩ | exact H.bel
  | some i =>
    have eb := blind_some (x := x) (y := y) hat
    have hi := sentAt_lt hat
    have hi0 : (0 : Int) ≤ (i : Int) := Int.natCast_nonneg _
    rw [routeAt_eq hi, noteAt_eq hi] at eb
    refine ve (And.intro (show atI (some i) = (i : Int) from rfl) hi0) ?_
    have J := Sep.start w3
    refine draw_of [(0, true), (1, true), (2, true), (3, true), (4, true), (5, true), (6, true), (7, true), (8, true), (9, true), (10, true), (11, true), (12, true), (13, true), (14, true), (15, true), (16, true), (17, true), (18, true), (19, true), (20, true), (21, true), (22, true), (23, false), (24, true), (25, true), (26, true), (27, true), (28, true)] w3.heap.size [] fun w4 hh hb4 => ve hi0 ?_
    have J := J.go (hb4 _)
    have J3 := J
    have H4 := H.go (hb4 _)
    refine q_ldB H J3 sc40 ?_
    refine ve hi0 ?_
    refine q_ele H4 sl40 rfl i hi haS rfl fun ad es hb1 hr hc => ve hi0 ?_
    have hr : kSent.rd w w.heap.size es x.f_Sent[i] := hr
    obtain ⟨y2, y3, rfl, _, _, r2, r3⟩ := kSent_open hr
    refine q_lf0 sc9 hc (by decide) (Nat.lt_of_lt_of_le hb1 H.ns) rfl ?_
    refine ve hi0 ?_
    refine q_ldB H J3 sc9 ?_
    by_cases hR : x.f_Sent[i].f_Route = y.f_Route
    rotate_left
    · rw [decide_eq_false hR, Bool.false_and] at eb
      refine ve (And.intro hi0 (eq_false hR)) ?_
      have H := H4
      rw [eb]
      first | exact ⟨kept_base J J, rfl, H.bel⟩ | exact ⟨rfl, H.bel⟩ | exact H.bel
    have eR : (x.f_Sent[i].f_Route = y.f_Route) = True := eq_true hR
    refine ve (And.intro hi0 eR) ?_
    refine q_ldB H J3 sc22 ?_
    refine ve (And.intro hi0 eR) ?_
    refine q_ldB H J3 sc40 ?_
    refine ve (And.intro hi0 eR) ?_
    refine q_ele H4 sl40 rfl i hi haS rfl fun ad es hb1 hr hc => ve (And.intro hi0 eR) ?_
    have hr : kSent.rd w w.heap.size es x.f_Sent[i] := hr
    obtain ⟨z2, z3, rfl, _, _, s2, s3⟩ := kSent_open hr
    refine q_lfj (j := 2) sc22 hc (by decide) (Nat.lt_of_lt_of_le hb1 H.ns) rfl ?_
    refine ve (And.intro hi0 eR) ?_
    have hnl := hn _ (List.getElem_mem hi)
    refine x_callf J (specPadded_ok w4 _ _ (H4.rd s2) hnl) fun rp fp w5 J => ?_
    obtain ⟨Ap, cp, rfl, _⟩ := sl_open (J.own (.head _))
    refine ve (And.intro hi0 eR) ?_
    refine ⟨kept_base J3 J, ?_⟩
    have H := H.join J
    rw [padded_padLen]
    have hpl := padLen_le hnl
    refine ve (And.intro (w64_51 hpl) (And.intro hi0 eR)) ?_
    rw [decide_eq_true hR, Bool.true_and] at eb
    have e2 : blind x y = decide ((y.f_Bytes.length : Int) = ((51 + padLen x.f_Sent[i].f_Note.length : Nat) : Int)) := by rw [eb]; exact decide_eq_decide.2 (by omega)
    rw [e2]
    first | exact ⟨rfl, H.bel⟩ | exact H.bel

theorem jb1_ok (w : World) (cs : List Value) (x : MWorld) (ds : List Value) (y : MItem) (g : Nat) (h : kWorld.rd w w.heap.size cs x) (h' : kItem.rd w w.heap.size ds y) (hg : ∀ j, j < 13 → w.cell? ⟨g, j, none⟩ = cs[j]?) (hsl : x.f_Sent.length ≤ 1048576) (hn : ∀ z ∈ x.f_Sent, z.f_Note.length ≤ 200) :
    ACalls Tryz.prog 94 #[.agg ds.toArray, .pointer (some ⟨g, 0, none⟩)] w fun r w' => r = .bool (!blind x y) ∧ Below w.heap.size w w' := by
  have h8 := h'
  have hcl := Kd.len _ h
  obtain ⟨u3, rfl, i0, i1, i2, i3⟩ := kItem_open h'
  have H := Sep.start w
  have hgl : g < w.heap.size := by
    have h0 := hg 0 (by decide)
    have : ∃ v, cs[0]? = some v := ⟨cs[0]'(by rw [hcl]; decide), List.getElem?_eq_getElem _⟩
    obtain ⟨v, hv⟩ := this
    rw [hv] at h0
    exact World.block_lt_of_cell? _ _ h0
  refine body_of follows Tryz.func94 rfl rfl _ rfl (by kernel_rfl) (vs ?_)
  refine x_bx H [.string ⟨y.f_Route.toArray⟩, .int .i64 y.f_Topic, .int .i64 y.f_Due, u3] fun g1 w1 H => vs ?_
  refine x_lds st42 (es := cs) (fun j hj => by rw [Kd.add_at, Nat.zero_add, H.bel.cell (p := ⟨g, j, none⟩) hgl]; exact hg j hj) hcl (vs ?_)
  refine x_lda H st81 ?_
  refine vs ?_
  refine x_callb H (implBlind_ok w1 _ x _ y (H.rd h) (H.rd h8) hsl hn) fun w2 H => vs ?_
  first | exact ⟨rfl, H.bel⟩ | exact H.bel
theorem jb2_ok (w : World) (cs : List Value) (x : MWorld) (ds : List Value) (y : MWire) (g : Nat) (h : kWorld.rd w w.heap.size cs x) (h' : kWire.rd w w.heap.size ds y) (hg : ∀ j, j < 13 → w.cell? ⟨g, j, none⟩ = cs[j]?) (hsl : x.f_Sent.length ≤ 1048576) (hn : ∀ z ∈ x.f_Sent, z.f_Note.length ≤ 200) :
    ACalls Tryz.prog 96 #[.agg ds.toArray, .pointer (some ⟨g, 0, none⟩)] w fun r w' => r = .bool (!wireBlind x y) ∧ Below w.heap.size w w' := by
  have hcl := Kd.len _ h
  obtain ⟨v4, v5, rfl, _, hi, h5⟩ := kWire_open h'
  have H := Sep.start w
  have hgl : g < w.heap.size := by
    have h0 := hg 0 (by decide)
    have : ∃ v, cs[0]? = some v := ⟨cs[0]'(by rw [hcl]; decide), List.getElem?_eq_getElem _⟩
    obtain ⟨v, hv⟩ := this
    rw [hv] at h0
    exact World.block_lt_of_cell? _ _ h0
  refine body_of follows Tryz.func96 rfl rfl _ rfl (by kernel_rfl) (vs ?_)
  refine x_bx H [.bool y.f_ToPost, .string ⟨y.f_Item.f_Route.toArray⟩, .int .i64 y.f_Item.f_Topic, .int .i64 y.f_Item.f_Due, v4, v5] fun g1 w1 H => vs ?_
  refine x_ld H sc4 ?_
  cases hp : y.f_ToPost with
  | true =>
    rw [hp] at H
    refine ve hp ?_
    refine x_lds st42 (es := cs) (fun j hj => by rw [Kd.add_at, Nat.zero_add, H.bel.cell (p := ⟨g, j, none⟩) hgl]; exact hg j hj) hcl (vs ?_)
    refine x_ldp H [.string ⟨y.f_Item.f_Route.toArray⟩, .int .i64 y.f_Item.f_Topic, .int .i64 y.f_Item.f_Due, v4] st81 ?_
    refine vs ?_
    refine x_callb H (implBlind_ok w1 _ x _ y.f_Item (H.rd h) (H.rd hi) hsl hn) fun w2 H => vs ?_
    have e : wireBlind x y = blind x y.f_Item := by unfold wireBlind; rw [if_pos hp]
    rw [e]
    first | exact ⟨rfl, H.bel⟩ | exact H.bel
  | false =>
    rw [hp] at H
    refine ve hp ?_
    refine x_lds st42 (es := cs) (fun j hj => by rw [Kd.add_at, Nat.zero_add, H.bel.cell (p := ⟨g, j, none⟩) hgl]; exact hg j hj) hcl (vs ?_)
    refine x_ld H sc22 ?_
    refine vs ?_
    refine x_callb H (implSentAt_ok w1 _ x _ _ (H.rd h) (H.rd h5)) fun w2 H => ?_
    have e : wireBlind x y = (sentAt x y.f_Bytes).isSome := by unfold wireBlind; rw [if_neg (by rw [hp]; decide)]
    rw [e]
    cases hat : sentAt x y.f_Bytes with
    | none =>
      refine ve (And.intro (show atI none = -1 from rfl) m1_lt) ?_
      first | exact ⟨rfl, H.bel⟩ | exact H.bel
    | some i =>
      refine ve (And.intro (show atI (some i) = (i : Int) from rfl) (neg_J (i := i))) ?_
      first | exact ⟨rfl, H.bel⟩ | exact H.bel
theorem implJudgeBlind_ok (w : World) (cs : List Value) (x : MWorld) (h : kWorld.rd w w.heap.size cs x) (hs : smWorld x) :
    ACalls Tryz.prog 28 #[.agg cs.toArray] w fun r w' => r = .bool (judgeBlind x) ∧ Below w.heap.size w w' := by
  have h9 := h
  have hs9 := hs
  unfold smWorld at hs
  have hwl := Kd.len _ h
  obtain ⟨v0, v3, v5, v7, v9, v10, v11, v12, rfl, h0, hC, hK, hP, hR, hN, hS⟩ := kWorld_open h
  obtain ⟨_, _, eP, hQ, _, _, _⟩ := kPost_open hP
  simp only [List.cons.injEq, and_true, true_and] at eP
  obtain ⟨rfl, rfl⟩ := eP
  have H := Sep.start w
  refine body_of follows Tryz.func28 rfl rfl _ rfl (by kernel_rfl) (vs ?_)
  refine x_bx H [v0, .int .i64 x.f_Count, .int .i64 x.f_Known, v3, .int .i64 x.f_Post.f_Time, v5, .int .i64 x.f_Post.f_Sure, v7, .int .i64 x.f_Reader.f_Epoch, v9, v10, v11, v12] fun g1 w1 H => vs ?_
  refine x_lda H st42 ?_
  refine vs ?_
  refine x_callb H (implWorldOk_ok w1 _ x (H.rd h9) hs9) fun w2 H => ?_
  cases hw : worldOk x with
  | false =>
    refine vs ?_
    rw [judgeBlind_no hw]
    first | exact ⟨rfl, H.bel⟩ | exact H.bel
  | true =>
    have hn := worldOk_notes hw
    refine vs ?_
    refine x_ld H sc35 ?_
    refine vs ?_
    have hcell := fun j => H.cell (g := g1) (cs := [v0, .int .i64 x.f_Count, .int .i64 x.f_Known, v3, .int .i64 x.f_Post.f_Time, v5, .int .i64 x.f_Post.f_Sure, v7, .int .i64 x.f_Reader.f_Epoch, v9, v10, v11, v12]) (t := 42) (.head _) j
    have hlt := H.lt (g := g1) (cs := [v0, .int .i64 x.f_Count, .int .i64 x.f_Known, v3, .int .i64 x.f_Post.f_Time, v5, .int .i64 x.f_Post.f_Sure, v7, .int .i64 x.f_Reader.f_Epoch, v9, v10, v11, v12]) (t := 42) (.head _)
    have h8 := H.rd h9
    refine x_callb H (containsFuncI_ok w2 _ x.f_Post.f_Queue (fun y => !blind x y) 94 #[] #[.pointer (some ⟨g1, 0, none⟩)] (H.rd hQ) en94 fun w' es y hb hy => by rw [arr2]; exact jb1_ok w' _ x es y g1 (Kd.le _ (Kd.mono _ h8 hb) hb.size) hy (fun j hj => (hb.cell (p := ⟨g1, j, none⟩) hlt).trans (hcell j)) hs.2.2.2.2.1 hn) fun w3 H => ?_
    rw [any_not]
    cases hq : x.f_Post.f_Queue.all (blind x) with
    | false =>
      refine vs ?_
      have e : judgeBlind x = false := by unfold judgeBlind; rw [hq]; simp
      rw [e]
      first | exact ⟨rfl, H.bel⟩ | exact H.bel
    | true =>
      refine vs ?_
      refine x_ld H sc39 ?_
      refine vs ?_
      have hcell := fun j => H.cell (g := g1) (cs := [v0, .int .i64 x.f_Count, .int .i64 x.f_Known, v3, .int .i64 x.f_Post.f_Time, v5, .int .i64 x.f_Post.f_Sure, v7, .int .i64 x.f_Reader.f_Epoch, v9, v10, v11, v12]) (t := 42) (.head _) j
      have hlt := H.lt (g := g1) (cs := [v0, .int .i64 x.f_Count, .int .i64 x.f_Known, v3, .int .i64 x.f_Post.f_Time, v5, .int .i64 x.f_Post.f_Sure, v7, .int .i64 x.f_Reader.f_Epoch, v9, v10, v11, v12]) (t := 42) (.head _)
      have h8 := H.rd h9
      refine x_callb H (containsFuncW_ok w3 _ x.f_Net (fun y => !wireBlind x y) 96 #[] #[.pointer (some ⟨g1, 0, none⟩)] (H.rd hN) en96 fun w' es y hb _ hy => by rw [arr2]; exact jb2_ok w' _ x es y g1 (Kd.le _ (Kd.mono _ h8 hb) hb.size) hy (fun j hj => (hb.cell (p := ⟨g1, j, none⟩) hlt).trans (hcell j)) hs.2.2.2.2.1 hn) fun w4 H => ?_
      rw [any_not]
      refine vs ?_
      have e : judgeBlind x = x.f_Net.all (wireBlind x) := by unfold judgeBlind; rw [hw, hq]; rfl
      rw [e]
      cases x.f_Net.all (wireBlind x) <;> first | exact ⟨rfl, H.bel⟩ | exact H.bel

theorem specJudgeBlind_ok (w : World) (cs : List Value) (x : MWorld) (h : kWorld.rd w w.heap.size cs x) (hs : smWorld x) :
    ACalls Tryz.prog 27 #[.agg cs.toArray] w fun r w' => r = .bool (judgeBlind x) ∧ Below w.heap.size w w' := by
  have h9 := h
  have hs9 := hs
  unfold smWorld at hs
  obtain ⟨v0, v3, v5, v7, v9, v10, v11, v12, rfl, h0, hC, hK, hP, hR, hN, hS⟩ := kWorld_open h
  obtain ⟨_, _, eP, hQ, _, _, _⟩ := kPost_open hP
  simp only [List.cons.injEq, and_true, true_and] at eP
  obtain ⟨rfl, rfl⟩ := eP
  obtain ⟨A3, c3, rfl, _, _, haQ⟩ := sl_open hQ
  obtain ⟨A11, c11, rfl, _, _, haN⟩ := sl_open hN
  obtain ⟨A12, c12, rfl, _⟩ := sl_open hS
  have hql : x.f_Post.f_Queue.length ≤ 1048576 := by have := hs.2.1; unfold smPost at this; exact this.1.1
  have hnl := hs.2.2.2.1.1
  have hsl := hs.2.2.2.2.1
  have H := Sep.start w
  refine body_of follows Tryz.func27 rfl rfl _ rfl (by kernel_rfl) (vs ?_)
  refine x_bx H [v0, .int .i64 x.f_Count, .int .i64 x.f_Known, .slice A3 x.f_Post.f_Queue.length c3, .int .i64 x.f_Post.f_Time, v5, .int .i64 x.f_Post.f_Sure, v7, .int .i64 x.f_Reader.f_Epoch, v9, v10, .slice A11 x.f_Net.length c11, .slice A12 x.f_Sent.length c12] fun g1 w1 H => vs ?_
  refine x_lda H st42 ?_
  refine vs ?_
  refine x_callb H (specWorldOk_ok w1 _ x (H.rd h9) hs9) fun w2 H => ?_
  cases hw : worldOk x with
  | false =>
    refine vs ?_
    rw [judgeBlind_no hw]
    first | exact ⟨rfl, H.bel⟩ | exact H.bel
  | true =>
    have hn := worldOk_notes hw
    refine vs ?_
    refine loop_at (σ := Nat) (fun k => [(1, .pointer (some ⟨g1, 0, none⟩)), (3, .int .i64 (k : Int))])
      (fun k w' => k ≤ x.f_Post.f_Queue.length ∧ (∀ i (hi : i < x.f_Post.f_Queue.length), i < k → blind x x.f_Post.f_Queue[i] = true) ∧ Sep w.heap.size w w' [Ck.box g1 [v0, .int .i64 x.f_Count, .int .i64 x.f_Known, .slice A3 x.f_Post.f_Queue.length c3, .int .i64 x.f_Post.f_Time, v5, .int .i64 x.f_Post.f_Sure, v7, .int .i64 x.f_Reader.f_Epoch, v9, v10, .slice A11 x.f_Net.length c11, .slice A12 x.f_Sent.length c12] 42]) (fun k => x.f_Post.f_Queue.length - k) 0 (vs trivial) ⟨Nat.zero_le _, fun i hi h => absurd h (Nat.not_lt_zero i), H⟩ ?_
    rintro k s w3 ⟨hk, hall, H⟩
    refine vs ?_
    refine x_ld H sc35 ?_
    refine vs (ways ?_ ?_)
    · refine vh fun hlt => ?_
      have hk2 : k < x.f_Post.f_Queue.length := by omega
      have J := Sep.start w3
      refine draw_of [(0, true), (1, true), (2, true), (3, true), (4, true), (5, true), (6, true), (7, false), (8, true)] w3.heap.size [] fun w4 hh hb4 => vs ?_
      have J := J.go (hb4 _)
      have J3 := J
      have H4 := H.go (hb4 _)
      refine q_ldaB H J3 st42 ?_
      refine vs ?_
      refine q_ldB H J3 sc35 ?_
      refine vs ?_
      refine q_ele H4 sl35 rfl k hk2 haQ rfl fun ad es hb1 hr hc => vs ?_
      have hr : kItem.rd w w.heap.size es x.f_Post.f_Queue[k] := hr
      refine q_lds st81 hc (Kd.len _ hr) (Nat.lt_of_lt_of_le hb1 H.ns) ?_
      refine vs ?_
      refine x_callb J (l18Item_ok w4 _ x es _ (J.rd (H.rd h9)) (J.rd (H.rd hr)) hsl hn) fun w5 J => ?_
      have H := H.join J
      simp only [List.nil_append] at H
      cases hb : blind x x.f_Post.f_Queue[k] with
      | false =>
        refine vs ?_
        refine ⟨kept_base J3 J, ?_⟩
        rw [judgeBlind_q hk2 hb]
        first | exact ⟨rfl, H.bel⟩ | exact H.bel
      | true =>
        refine vs ?_
        refine ⟨kept_base J3 J, ?_⟩
        refine ⟨k + 1, i64_eq (w64_upJ hk2 hql), ⟨hk2, fun i hi h => ?_, H⟩, less_J hk2⟩
        by_cases h2 : i = k
        · subst h2; exact hb
        · exact hall i hi (below_J h h2)
    refine vh fun hlt => ?_
    have hallQ : ∀ i (hi : i < x.f_Post.f_Queue.length), blind x x.f_Post.f_Queue[i] = true := fun i hi => hall i hi (by omega)
    refine loop_at (σ := Nat) (fun k => [(1, .pointer (some ⟨g1, 0, none⟩)), (4, .int .i64 (k : Int))])
      (fun k w' => k ≤ x.f_Net.length ∧ (∀ i (hi : i < x.f_Net.length), i < k → wireBlind x x.f_Net[i] = true) ∧ Sep w.heap.size w w' [Ck.box g1 [v0, .int .i64 x.f_Count, .int .i64 x.f_Known, .slice A3 x.f_Post.f_Queue.length c3, .int .i64 x.f_Post.f_Time, v5, .int .i64 x.f_Post.f_Sure, v7, .int .i64 x.f_Reader.f_Epoch, v9, v10, .slice A11 x.f_Net.length c11, .slice A12 x.f_Sent.length c12] 42]) (fun k => x.f_Net.length - k) 0 (vs trivial) ⟨Nat.zero_le _, fun i hi h => absurd h (Nat.not_lt_zero i), H⟩ ?_
    rintro k s w6 ⟨hk, hall, H⟩
    refine vs ?_
    refine x_ld H sc39 ?_
    refine vs (ways ?_ ?_)
    rotate_left
    · refine vh fun hlt => ?_
      rw [judgeBlind_good hw hallQ fun i hi => hall i hi (by omega)]
      first | exact ⟨rfl, H.bel⟩ | exact H.bel
    refine vh fun hlt => ?_
    have hk2 : k < x.f_Net.length := by omega
    have go : wireBlind x x.f_Net[k] = true → ∀ i (hi : i < x.f_Net.length), i < k + 1 → wireBlind x x.f_Net[i] = true := fun h i hi h3 => by
      by_cases h2 : i = k
      · subst h2; exact h
      · exact hall i hi (by omega)
    refine x_ld H sc39 ?_
    refine vs ?_
    refine x_ele H sl39 rfl k hk2 haN rfl fun ad es hb1 hr hc' => vs ?_
    have hr : kWire.rd w w.heap.size es x.f_Net[k] := hr
    have hr2 := hr
    obtain ⟨u4, u5, rfl, _, ri, r5⟩ := kWire_open hr2
    have r5' := r5
    obtain ⟨B5, d5, rfl, _⟩ := sl_open r5
    refine x_lds st88 hc' (Kd.len _ hr) (vs ?_)
    refine x_al H st88 fun g5 w7 H => vs ?_
    refine x_sta H st88 (vs := [.bool x.f_Net[k].f_ToPost, .string ⟨x.f_Net[k].f_Item.f_Route.toArray⟩, .int .i64 x.f_Net[k].f_Item.f_Topic, .int .i64 x.f_Net[k].f_Item.f_Due, u4, .slice B5 x.f_Net[k].f_Bytes.length d5]) (h1 := Kd.one _ hr) fun w8 H => vs ?_
    refine x_ld H sc4 ?_
    cases hp : x.f_Net[k].f_ToPost with
    | true =>
      rw [hp] at H
      refine ve hp ?_
      refine x_lda H st42 ?_
      refine ve hp ?_
      refine x_ldp H [.string ⟨x.f_Net[k].f_Item.f_Route.toArray⟩, .int .i64 x.f_Net[k].f_Item.f_Topic, .int .i64 x.f_Net[k].f_Item.f_Due, u4] st81 ?_
      refine ve hp ?_
      refine x_callb H (l18Item_ok w8 _ x _ _ (H.rd h9) (H.rd ri) hsl hn) fun w9 H => ?_
      have e : wireBlind x x.f_Net[k] = blind x x.f_Net[k].f_Item := by unfold wireBlind; rw [if_pos hp]
      cases hb : blind x x.f_Net[k].f_Item with
      | false =>
        refine ve hp ?_
        rw [judgeBlind_n hk2 (by rw [e]; exact hb)]
        first | exact ⟨rfl, H.bel⟩ | exact H.bel
      | true =>
        refine ve hp ?_
        refine x_ld H sc4 ?_
        refine ve hp ?_
        exact ⟨k + 1, i64_eq (w64_upJ hk2 hnl), ⟨hk2, go (by rw [e]; exact hb), H.tail⟩, less_J hk2⟩
    | false =>
      rw [hp] at H
      refine ve hp ?_
      refine x_ld H sc4 ?_
      refine ve hp ?_
      refine x_lda H st42 ?_
      refine ve hp ?_
      refine x_ld H sc22 ?_
      refine ve hp ?_
      refine x_callb H (l18Sent_ok w8 _ x _ _ (H.rd h9) (H.rd r5') hsl) fun w9 H => ?_
      have e : wireBlind x x.f_Net[k] = (sentAt x x.f_Net[k].f_Bytes).isSome := by unfold wireBlind; rw [if_neg (by rw [hp]; decide)]
      cases hat : sentAt x x.f_Net[k].f_Bytes with
      | none =>
        refine ve (And.intro (show atI none = -1 from rfl) (And.intro m1_lt hp)) ?_
        rw [judgeBlind_n hk2 (by rw [e, hat]; rfl)]
        first | exact ⟨rfl, H.bel⟩ | exact H.bel
      | some i =>
        refine ve (And.intro (show atI (some i) = (i : Int) from rfl) (And.intro (neg_J (i := i)) hp)) ?_
        exact ⟨k + 1, i64_eq (w64_upJ hk2 hnl), ⟨hk2, go (by rw [e, hat]; rfl), H.tail⟩, less_J hk2⟩

theorem implJudgeAll_ok (w : World) (cs : List Value) (x : MWorld) (h : kWorld.rd w w.heap.size cs x) (hs : smWorld x) :
    ACalls Tryz.prog 30 #[.agg cs.toArray] w fun r w' => r = .bool (judgeAll x) ∧ Below w.heap.size w w' := by
  have h9 := h
  have hs9 := hs
  unfold smWorld at hs
  obtain ⟨v0, v3, v5, v7, v9, v10, v11, v12, rfl, h0, hC, hK, hP, hR, hN, hS⟩ := kWorld_open h
  have H := Sep.start w
  refine body_of follows Tryz.func30 rfl rfl _ rfl (by kernel_rfl) (vs ?_)
  refine x_bx H [v0, .int .i64 x.f_Count, .int .i64 x.f_Known, v3, .int .i64 x.f_Post.f_Time, v5, .int .i64 x.f_Post.f_Sure, v7, .int .i64 x.f_Reader.f_Epoch, v9, v10, v11, v12] fun g1 w1 H => vs ?_
  refine x_lda H st42 ?_
  refine vs ?_
  refine x_callb H (implJudgeRead_ok w1 _ x (H.rd h9) hs9) fun w2 H => ?_
  cases ha : judgeRead x with
  | false =>
    refine vs ?_
    have e : judgeAll x = false := by unfold judgeAll; rw [ha]; rfl
    rw [e]
    first | exact ⟨rfl, H.bel⟩ | exact H.bel
  | true =>
    refine vs ?_
    refine x_lda H st42 ?_
    refine vs ?_
    refine x_callb H (implJudgeOnce_ok w2 _ x (H.rd h9) hs9) fun w3 H => ?_
    cases hb : judgeOnce x with
    | false =>
      refine vs ?_
      have e : judgeAll x = false := by unfold judgeAll; rw [hb]; simp
      rw [e]
      first | exact ⟨rfl, H.bel⟩ | exact H.bel
    | true =>
      refine vs ?_
      refine x_lda H st42 ?_
      refine vs ?_
      refine x_callb H (implJudgeBlind_ok w3 _ x (H.rd h9) hs9) fun w4 H => ?_
      refine vs ?_
      have e : judgeAll x = judgeBlind x := by unfold judgeAll; rw [ha, hb]; rfl
      rw [e]
      first | exact ⟨rfl, H.bel⟩ | exact H.bel
theorem specJudgeAll_ok (w : World) (cs : List Value) (x : MWorld) (h : kWorld.rd w w.heap.size cs x) (hs : smWorld x) :
    ACalls Tryz.prog 29 #[.agg cs.toArray] w fun r w' => r = .bool (judgeAll x) ∧ Below w.heap.size w w' := by
  have h9 := h
  have hs9 := hs
  unfold smWorld at hs
  obtain ⟨v0, v3, v5, v7, v9, v10, v11, v12, rfl, h0, hC, hK, hP, hR, hN, hS⟩ := kWorld_open h
  have H := Sep.start w
  refine body_of follows Tryz.func29 rfl rfl _ rfl (by kernel_rfl) (vs ?_)
  refine x_bx H [v0, .int .i64 x.f_Count, .int .i64 x.f_Known, v3, .int .i64 x.f_Post.f_Time, v5, .int .i64 x.f_Post.f_Sure, v7, .int .i64 x.f_Reader.f_Epoch, v9, v10, v11, v12] fun g1 w1 H => vs ?_
  refine x_lda H st42 ?_
  refine vs ?_
  refine x_callb H (specJudgeRead_ok w1 _ x (H.rd h9) hs9) fun w2 H => ?_
  cases ha : judgeRead x with
  | false =>
    refine vs ?_
    have e : judgeAll x = false := by unfold judgeAll; rw [ha]; rfl
    rw [e]
    first | exact ⟨rfl, H.bel⟩ | exact H.bel
  | true =>
    refine vs ?_
    refine x_lda H st42 ?_
    refine vs ?_
    refine x_callb H (specJudgeOnce_ok w2 _ x (H.rd h9) hs9) fun w3 H => ?_
    cases hb : judgeOnce x with
    | false =>
      refine vs ?_
      have e : judgeAll x = false := by unfold judgeAll; rw [hb]; simp
      rw [e]
      first | exact ⟨rfl, H.bel⟩ | exact H.bel
    | true =>
      refine vs ?_
      refine x_lda H st42 ?_
      refine vs ?_
      refine x_callb H (specJudgeBlind_ok w3 _ x (H.rd h9) hs9) fun w4 H => ?_
      refine vs ?_
      have e : judgeAll x = judgeBlind x := by unfold judgeAll; rw [ha, hb]; rfl
      rw [e]
      first | exact ⟨rfl, H.bel⟩ | exact H.bel
end Go.Proofs.YtfhbglaigjekpaaGreat.V
