/- Texts laid by programs, part 9. -/
import Derived.Test.YtcmckbgiiclomacGreatU07
import Derived.Test.YtcmckbgiiclomacGreatU06
import Derived.Test.YtcmckbgiiclomacGreatU08
import Derived.Test.YtcmckbgiiclomacGreatU03
import Derived.Test.YtcmckbgiiclomacGreatU05
namespace Go.Proofs.YtcmckbgiiclomacGreat.V
open Go Go.RowKit
set_option maxRecDepth 100000
set_option maxHeartbeats 4000000
set_option linter.unusedSimpArgs false
set_option linter.unusedVariables false
set_option pp.deepTerms false
set_option pp.deepTerms.threshold 3
theorem itemOf_ok (w : World) (cs : List Value) (l : MLine) (h : kLine.rd w w.heap.size cs l) (hb : l.f_Bytes.length ≤ 1099511627776) :
    ACalls Tryz.prog 80 #[.agg cs.toArray] w fun r w' => ∃ cs' fp, r = .agg cs'.toArray ∧ Sep w.heap.size w w' [Ck.own kItem fp cs' (itemOf l)] := by
  obtain ⟨v4, rfl, h0, h1, h2, h3, h4⟩ := kLine_open h; have H := Sep.start w; refine body_of follows Tryz.func80 rfl rfl _ rfl (by kernel_rfl) (vs ?_); refine x_bx H [.int .i64 l.f_Kind, .string ⟨(l.f_Route).toArray⟩, .int .i64 l.f_Topic, .int .i64 l.f_Due, v4] fun g1 w1 H => vs ?_; have J := Sep.start w1; refine x_al J st45 fun g2 w2 J => vs ?_; refine draw_of [(0, true), (1, true), (2, true), (3, true), (4, true), (5, true), (6, true), (7, true), (8, false), (9, true), (10, false)] w1.heap.size [] fun w3 hh hb3 => vs ?_; have J := J.go (hb3 _); have J3 := J; refine q_ldB H J3 sc9 ?_; refine vs ?_; refine q_ldB H J3 sc3 ?_; refine vs ?_; refine q_ldB H J3 sc3 ?_; refine vs ?_; refine q_ldB H J3 sc22 ?_; refine vs ?_; refine x_callf J (cloneBy_ok w3 v4 _ (J.rd (H.rd h4)) hb) fun r4 f4 w4 J => vs ?_; refine ⟨kept_base J3 J, ?_⟩; obtain ⟨A4, c4, rfl, _⟩ := sl_open (J.own (.head _)); refine q_bld bl45 [_, _, _, _] ?_; refine vs ?_; obtain ⟨fp, J⟩ := ownItem (itemOf l) J h1 h2 h3; refine x_sta J st45 (h1 := Kd.one _ (J.own (.head _))) fun w7 J => vs ?_; refine ⟨kept_base J3 J, ?_⟩; have H := H.join J; simp only [List.cons_append, List.nil_append] at H; exact ⟨_, _, rfl, res_cell H st45, _, _, rfl, H.head⟩
theorem l14Item_ok (w : World) (cs : List Value) (l : MLine) (h : kLine.rd w w.heap.size cs l) (hb : l.f_Bytes.length ≤ 1099511627776) :
    ACalls Tryz.prog 136 #[.agg cs.toArray] w fun r w' => ∃ cs' fp, r = .agg cs'.toArray ∧ Sep w.heap.size w w' [Ck.own kItem fp cs' (itemOf l)] := by
  obtain ⟨v4, rfl, h0, h1, h2, h3, h4⟩ := kLine_open h; have H := Sep.start w; refine body_of follows Tryz.func136 rfl rfl _ rfl (by kernel_rfl) (vs ?_); refine x_bx H [.int .i64 l.f_Kind, .string ⟨(l.f_Route).toArray⟩, .int .i64 l.f_Topic, .int .i64 l.f_Due, v4] fun g1 w1 H => vs ?_; have J := Sep.start w1; refine x_al J st45 fun g2 w2 J => vs ?_; refine draw_of [(0, true), (1, true), (2, true), (3, true), (4, true), (5, true), (7, true), (8, true), (6, false), (9, false), (10, true), (11, false)] w1.heap.size [] fun w3 hh hb3 => vs ?_; have J := J.go (hb3 _); have J3 := J; refine q_ldB H J3 sc9 ?_; refine vs ?_; refine q_ldB H J3 sc3 ?_; refine vs ?_; refine q_ldB H J3 sc3 ?_; refine vs ?_; refine q_ldB H J3 sc22 ?_; refine vs ?_; refine x_emp J pl_u8 sl22 fun g4 w4 J => vs ?_; refine ⟨kept_base J3 J, ?_⟩; refine x_app J pl_u8 sl22 (J.rd (H.rd h4)) ?_ ?_ fun f4 r4 w5 J => vs ?_
  · simp only [List.length_nil]; omega
  · simp only [List.length_nil]; omega
  rw [List.nil_append] at J; refine ⟨kept_base J3 J, ?_⟩; obtain ⟨A4, c4, rfl, _⟩ := sl_open (J.own (.head _)); refine q_bld bl45 [_, _, _, _] ?_; refine vs ?_; obtain ⟨fp, J⟩ := ownItem (itemOf l) J h1 h2 h3; refine x_sta J st45 (h1 := Kd.one _ (J.own (.head _))) fun w7 J => vs ?_; refine ⟨kept_base J3 J, ?_⟩; have H := H.join J; simp only [List.cons_append, List.nil_append] at H; exact ⟨_, _, rfl, res_cell H st45, _, _, rfl, H.head⟩
theorem lineOk_1 {l : MLine} (h : l.f_Kind = 1) : lineOk l = itemOk (itemOf l) := by unfold lineOk; rw [if_pos h]
theorem lineOk_2 {l : MLine} (h : l.f_Kind = 2) : lineOk l = (isRoute l.f_Route && decide (l.f_Topic = 0) && decide (l.f_Due = 0) && decide (l.f_Bytes.length = 0)) := by
  unfold lineOk; rw [if_neg (by omega), if_pos h]
theorem lineOk_3 {l : MLine} (h : l.f_Kind = 3) : lineOk l = (decide (0 ≤ l.f_Due ∧ l.f_Due ≤ 100000) && decide (l.f_Route = []) && decide (l.f_Topic = 0) && decide (l.f_Bytes.length = 0)) := by
  unfold lineOk; rw [if_neg (by omega), if_neg (by omega), if_pos h]
theorem lineOk_0 {l : MLine} (h1 : ¬ l.f_Kind = 1) (h2 : ¬ l.f_Kind = 2) (h3 : ¬ l.f_Kind = 3) : lineOk l = false := by
  unfold lineOk; rw [if_neg h1, if_neg h2, if_neg h3]
theorem len0 (l : List UInt8) : decide (l.length = 0) = decide ((l.length : Int) = 0) := decide_eq_decide.2 (by omega)
theorem implLineOk_ok (w : World) (cs : List Value) (l : MLine) (h : kLine.rd w w.heap.size cs l) (hR : l.f_Route.length ≤ 1099511627776) (hb : l.f_Bytes.length ≤ 1099511627776) :
    ACalls Tryz.prog 138 #[.agg cs.toArray] w fun r w' => r = .bool (lineOk l) ∧ Below w.heap.size w w' := by
  have h9 := h; obtain ⟨v4, rfl, h0, h1, h2, h3, h4⟩ := kLine_open h; obtain ⟨A4, c4, rfl, _, _, _⟩ := sl_open h4; have H := Sep.start w; refine body_of follows Tryz.func138 rfl rfl _ rfl (by kernel_rfl) (vs ?_); refine x_bx H [.int .i64 l.f_Kind, .string ⟨(l.f_Route).toArray⟩, .int .i64 l.f_Topic, .int .i64 l.f_Due, .slice A4 l.f_Bytes.length c4] fun g1 w1 H => vs ?_; refine x_ld H sc3 ?_
  by_cases k1 : l.f_Kind = 1
  · refine ve (eq_true k1) ?_
    refine x_lda H st90 ?_; refine vs ?_; refine x_call (itemOf_ok w1 _ l (H.rd h9) hb) fun _ w2 ⟨cs2, f2, e, S⟩ => ?_; subst e; have H := H.join S; refine vs ?_; refine x_callb H (implItemOk_ok w2 _ (itemOf l) (H.own (.head _)) hR) fun w3 H => vs ?_; rw [lineOk_1 k1]
    first | exact ⟨rfl, H.bel⟩ | exact H.bel
  by_cases k2 : l.f_Kind = 2
  · refine ve (And.intro k1 (eq_true k2)) ?_
    refine x_ld H sc9 ?_; refine vs ?_; refine x_callb H (implIsRoute_ok w1 _ hR) fun w2 H => ?_
    cases hr : isRoute l.f_Route with
    | false =>
      refine vs ?_; rw [show lineOk l = false by rw [lineOk_2 k2, hr]; rfl]
      first | exact ⟨rfl, H.bel⟩ | exact H.bel
    | true =>
      refine vs ?_; refine x_ld H sc3 ?_
      by_cases hT : l.f_Topic = 0
      · refine ve (eq_true hT) ?_
        refine x_ld H sc3 ?_
        by_cases hD : l.f_Due = 0
        · refine ve (And.intro (eq_true hT) (eq_true hD)) ?_
          refine x_ld H sc22 ?_; refine ve (And.intro (eq_true hT) (eq_true hD)) ?_; rw [show lineOk l = decide ((l.f_Bytes.length : Int) = 0) by rw [lineOk_2 k2, hr, decide_eq_true hT, decide_eq_true hD, len0]; rfl]
          first | exact ⟨rfl, H.bel⟩ | exact H.bel
        · refine ve (And.intro (eq_true hT) hD) ?_
          rw [show lineOk l = false by rw [lineOk_2 k2, decide_eq_false hD]; simp]
          first | exact ⟨rfl, H.bel⟩ | exact H.bel
      · refine ve hT ?_
        rw [show lineOk l = false by rw [lineOk_2 k2, decide_eq_false hT]; simp]
        first | exact ⟨rfl, H.bel⟩ | exact H.bel
  by_cases k3 : l.f_Kind = 3
  · refine ve (And.intro k1 (And.intro k2 (eq_true k3))) ?_
    refine x_ld H sc3 ?_; refine vs ?_; refine x_callw (in_ok w1 _ _ _) ?_
    by_cases hD : 0 ≤ l.f_Due ∧ l.f_Due ≤ 100000
    · refine ve hD ?_
      refine x_ld H sc9 ?_; refine ve hD ?_
      by_cases hE : l.f_Route = []
      · refine ve (And.intro hD (eq_true hE)) ?_
        refine x_ld H sc3 ?_
        by_cases hT : l.f_Topic = 0
        · refine ve (And.intro hD (And.intro (eq_true hE) (eq_true hT))) ?_
          refine x_ld H sc22 ?_; refine ve (And.intro hD (And.intro (eq_true hE) (eq_true hT))) ?_; rw [show lineOk l = decide ((l.f_Bytes.length : Int) = 0) by rw [lineOk_3 k3, decide_eq_true hT, decide_eq_true hD, decide_eq_true hE, len0]; rfl]
          first | exact ⟨rfl, H.bel⟩ | exact H.bel
        · refine ve (And.intro hD (And.intro (eq_true hE) hT)) ?_
          rw [show lineOk l = false by rw [lineOk_3 k3, decide_eq_false hT]; simp]
          first | exact ⟨rfl, H.bel⟩ | exact H.bel
      · refine ve (And.intro hD hE) ?_
        rw [show lineOk l = false by rw [lineOk_3 k3, decide_eq_false hE]; simp]
        first | exact ⟨rfl, H.bel⟩ | exact H.bel
    · refine ve hD ?_
      rw [show lineOk l = false by rw [lineOk_3 k3, decide_eq_false hD]; simp]
      first | exact ⟨rfl, H.bel⟩ | exact H.bel
  refine ve (And.intro k1 (And.intro k2 k3)) ?_; rw [lineOk_0 k1 k2 k3]
  first | exact ⟨rfl, H.bel⟩ | exact H.bel
theorem specLineOk_ok (w : World) (cs : List Value) (l : MLine) (h : kLine.rd w w.heap.size cs l) (hR : l.f_Route.length ≤ 1099511627776) (hb : l.f_Bytes.length ≤ 1099511627776) :
    ACalls Tryz.prog 150 #[.agg cs.toArray] w fun r w' => r = .bool (lineOk l) ∧ Below w.heap.size w w' := by
  have h9 := h; obtain ⟨v4, rfl, h0, h1, h2, h3, h4⟩ := kLine_open h; obtain ⟨A4, c4, rfl, _, _, _⟩ := sl_open h4; have H := Sep.start w; refine body_of follows Tryz.func150 rfl rfl _ rfl (by kernel_rfl) (vs ?_); refine x_bx H [.int .i64 l.f_Kind, .string ⟨(l.f_Route).toArray⟩, .int .i64 l.f_Topic, .int .i64 l.f_Due, .slice A4 l.f_Bytes.length c4] fun g1 w1 H => vs ?_; refine x_ld H sc3 ?_
  by_cases k1 : l.f_Kind = 1
  · refine ve (eq_true k1) ?_
    refine x_lda H st90 ?_; refine vs ?_; refine x_call (l14Item_ok w1 _ l (H.rd h9) hb) fun _ w2 ⟨cs2, f2, e, S⟩ => ?_; subst e; have H := H.join S; refine vs ?_; refine x_callb H (specItemOk_ok w2 _ (itemOf l) (H.own (.head _)) hR) fun w3 H => vs ?_; rw [lineOk_1 k1]
    first | exact ⟨rfl, H.bel⟩ | exact H.bel
  by_cases k2 : l.f_Kind = 2
  · refine ve (And.intro k1 (eq_true k2)) ?_
    refine x_ld H sc9 ?_; refine vs ?_; refine x_callb H (specIsRoute_ok w1 _ hR) fun w2 H => ?_
    cases hr : isRoute l.f_Route with
    | false =>
      refine vs ?_; rw [show lineOk l = false by rw [lineOk_2 k2, hr]; rfl]
      first | exact ⟨rfl, H.bel⟩ | exact H.bel
    | true =>
      refine vs ?_; refine x_ld H sc3 ?_
      by_cases hT : l.f_Topic = 0
      · refine ve (eq_true hT) ?_
        refine x_ld H sc3 ?_
        by_cases hD : l.f_Due = 0
        · refine ve (And.intro (eq_true hT) (eq_true hD)) ?_
          refine x_ld H sc22 ?_; refine ve (And.intro (eq_true hT) (eq_true hD)) ?_; rw [show lineOk l = decide ((l.f_Bytes.length : Int) = 0) by rw [lineOk_2 k2, hr, decide_eq_true hT, decide_eq_true hD, len0]; rfl]
          first | exact ⟨rfl, H.bel⟩ | exact H.bel
        · refine ve (And.intro (eq_true hT) hD) ?_
          rw [show lineOk l = false by rw [lineOk_2 k2, decide_eq_false hD]; simp]
          first | exact ⟨rfl, H.bel⟩ | exact H.bel
      · refine ve hT ?_
        rw [show lineOk l = false by rw [lineOk_2 k2, decide_eq_false hT]; simp]
        first | exact ⟨rfl, H.bel⟩ | exact H.bel
  by_cases k3 : l.f_Kind = 3
  · refine ve (And.intro k1 (And.intro k2 (eq_true k3))) ?_
    refine x_ld H sc9 ?_; refine vs ?_
    by_cases hE : l.f_Route = []
    · refine ve (eq_true hE) ?_
      refine x_ld H sc3 ?_
      by_cases hT : l.f_Topic = 0
      · refine ve (And.intro (eq_true hE) (eq_true hT)) ?_
        refine x_ld H sc3 ?_; refine ve (And.intro (eq_true hE) (eq_true hT)) ?_; refine x_callw (l1In_ok w1 _ _ _) ?_
        by_cases hD : 0 ≤ l.f_Due ∧ l.f_Due ≤ 100000
        · refine ve (And.intro hD (And.intro (eq_true hE) (eq_true hT))) ?_
          refine x_ld H sc22 ?_; refine ve (And.intro hD (And.intro (eq_true hE) (eq_true hT))) ?_; rw [show lineOk l = decide ((l.f_Bytes.length : Int) = 0) by rw [lineOk_3 k3, decide_eq_true hT, decide_eq_true hD, decide_eq_true hE, len0]; rfl]
          first | exact ⟨rfl, H.bel⟩ | exact H.bel
        · refine ve (And.intro hD (And.intro (eq_true hE) (eq_true hT))) ?_
          rw [show lineOk l = false by rw [lineOk_3 k3, decide_eq_false hD]; simp]
          first | exact ⟨rfl, H.bel⟩ | exact H.bel
      · refine ve (And.intro (eq_true hE) hT) ?_
        rw [show lineOk l = false by rw [lineOk_3 k3, decide_eq_false hT]; simp]
        first | exact ⟨rfl, H.bel⟩ | exact H.bel
    · refine ve hE ?_
      rw [show lineOk l = false by rw [lineOk_3 k3, decide_eq_false hE]; simp]
      first | exact ⟨rfl, H.bel⟩ | exact H.bel
  refine ve (And.intro k1 (And.intro k2 k3)) ?_; rw [lineOk_0 k1 k2 k3]
  first | exact ⟨rfl, H.bel⟩ | exact H.bel
theorem u8i_eq (n : Int) : n % 256 = ((u8i n).toNat : Int) := by
  unfold u8i; rw [UInt8.toNat_ofNat']; omega
theorem lineHead_join (l : MLine) : [[u8i l.f_Kind], lineRoute l, [u8i l.f_Topic], greatB l.f_Due 4, greatB (l.f_Bytes.length : Int) 2, l.f_Bytes].flatten = lineHead l := by
  unfold lineHead; simp
theorem implLineBytes_ok (w : World) (cs : List Value) (l : MLine) (h : kLine.rd w w.heap.size cs l) (hR : l.f_Route.length ≤ 1099511627776) (hb : l.f_Bytes.length ≤ 1099511627776) :
    ACalls Tryz.prog 108 #[.agg cs.toArray] w fun r w' => ∃ fp, Sep w.heap.size w w' [Ck.own (bytes 5) fp [r] (lineBytes l)] := by
  have h9 := h; obtain ⟨v4, rfl, h0, h1, h2, h3, hb4⟩ := kLine_open h; have hb5 := hb4; obtain ⟨A4, c4, rfl, _, _, _⟩ := sl_open hb4; have H := Sep.start w; refine body_of follows Tryz.func108 rfl rfl _ rfl (by kernel_rfl) (vs ?_); refine x_bx H [.int .i64 l.f_Kind, .string ⟨(l.f_Route).toArray⟩, .int .i64 l.f_Topic, .int .i64 l.f_Due, .slice A4 l.f_Bytes.length c4] fun g1 w1 H => vs ?_; refine x_lda H st90 ?_; refine vs ?_; refine x_callb H (implLineOk_ok w1 _ l (H.rd h9) hR hb) fun w2 H => ?_
  cases hok : lineOk l with
  | false =>
    refine vs ?_; rw [lineBytes_no hok]; exact ⟨_, (H.nothing (sl_zero w2)).head⟩
  | true =>
    have hlr := lineRoute_len hok; have hlb := lineOk_bytes hok; have hlh := lineHead_len hok; have hjo := lineHead_join l; refine vs ?_; refine x_mk H pl_u8 (x := 0) (m := 8) sl22 trivial (by decide) (by decide) fun g2 w3 H => vs ?_; refine x_ld H sc3 ?_
    by_cases k3 : l.f_Kind = 3
    · have er : lineRoute l = List.replicate 8 0 := by unfold lineRoute; rw [if_pos k3]
      refine ve (eq_true k3) ?_; obtain ⟨f3, r3, e3, H⟩ : ∃ f3 r3, Value.slice (some ⟨g2, 0, none⟩) 8 8 = r3 ∧ Sep w.heap.size w w3 [Ck.own (bytes 5) f3 [r3] (lineRoute l), Ck.box g1 [.int .i64 l.f_Kind, .string ⟨(l.f_Route).toArray⟩, .int .i64 l.f_Topic, .int .i64 l.f_Due, .slice A4 l.f_Bytes.length c4] 90] := ⟨_, _, rfl, by rw [er]; exact H⟩; refine ve e3 ?_; have hr3 := H.own (.head _); have J := Sep.start w3; refine fork_draw w3.heap.size [] fun w4 hh hb4 => ?_; have J := J.go (hb4 _); have J3 := J; refine rest_pre [(0, true), (1, true), (2, true), (4, true), (5, true), (6, true), (7, true), (9, true), (10, true), (12, true), (13, true), (14, true), (16, true), (17, true)] 7 ?_; refine vs ?_; refine q_ldB H J3 sc3 ?_; refine vs ?_; refine q_ldB H J3 sc3 ?_; refine vs ?_; refine q_ldB H J3 sc3 ?_; refine vs ?_; refine q_ldB H J3 sc22 ?_; refine vs ?_; refine q_ldB H J3 sc22 ?_; refine vs ?_; refine rest_fork3 3 8 11 6 ?_ ?_ ?_
      · refine vs ?_
        refine ve (u8i_eq l.f_Kind) ?_; refine x_lst J pl_u8 sl22 [u8i l.f_Kind] (by simp) fun ga wa J => vs ?_; refine ⟨kept_base J3 J, ?_⟩; refine rest_fork 8 11 5 ?_ ?_
        · refine vs ?_
          refine ve (u8i_eq l.f_Topic) ?_; refine x_lst J pl_u8 sl22 [u8i l.f_Topic] (by simp) fun gb wb J => vs ?_; refine ⟨kept_base J3 J, ?_⟩; refine rest_end [(11, false), (15, false), (18, false), (19, false), (20, true)] ?_; refine vs ?_; refine x_callf J (implGreat_ok _ l.f_Due 4 (by omega)) fun rc fc wc J => vs ?_; refine ⟨kept_base J3 J, ?_⟩; refine x_callf J (implGreat_ok _ (l.f_Bytes.length : Int) 2 (by omega)) fun rd fd wd J => vs ?_; refine ⟨kept_base J3 J, ?_⟩; refine x_lstR (d := bytes 5) J sl27 rfl [.slice (some ⟨ga, 0, none⟩) 1 1, r3, .slice (some ⟨gb, 0, none⟩) 1 1, rc, rd, .slice A4 l.f_Bytes.length c4] [[u8i l.f_Kind], lineRoute l, [u8i l.f_Topic], greatB l.f_Due 4, greatB (l.f_Bytes.length : Int) 2, l.f_Bytes] ⟨J.om (fp := [ga]), J.rd hr3, J.om (fp := [gb]), J.om (fp := fc), J.om (fp := fd), J.rd (H.rd hb5), trivial⟩ fun ge we J hre => vs ?_; refine ⟨kept_base J3 J, ?_⟩; refine x_callf J (joined_ok _ _ _ hre (by rw [hjo]; omega)) fun rf ff wf J => vs ?_; refine ⟨kept_base J3 J, ?_⟩; rw [hjo] at J; obtain ⟨Af, cf, rfl, _⟩ := sl_open (J.own (.head _)); refine vs ?_; refine x_callf J (implGreat_ok _ ((lineHead l).length : Int) 2 (by omega)) fun rg fg wg J => vs ?_; refine x_app J pl_u8 sl22 (J.own (.head _)) ?_ ?_ fun fh rh wh J => vs ?_
          · have := greatB_len ((lineHead l).length : Int) 2; omega
          · have := greatB_len ((lineHead l).length : Int) 2; omega
          have e : lineBytes l = lineHead l ++ greatB ((lineHead l).length : Int) 2 := by unfold lineBytes; rw [if_pos hok]
          rw [e]; have J := J.tail; exact ⟨_, (H.join J).head⟩
        · refine vs ?_
          refine x_callf J (implGreat_ok _ l.f_Due 4 (by omega)) fun rc fc wc J => vs ?_; refine ⟨kept_base J3 J, ?_⟩; refine rest_fork 8 15 4 ?_ ?_
          · refine vs ?_
            refine ve (u8i_eq l.f_Topic) ?_; refine x_lst J pl_u8 sl22 [u8i l.f_Topic] (by simp) fun gb wb J => vs ?_; refine ⟨kept_base J3 J, ?_⟩; refine rest_end [(15, false), (18, false), (19, false), (20, true)] ?_; refine vs ?_; refine x_callf J (implGreat_ok _ (l.f_Bytes.length : Int) 2 (by omega)) fun rd fd wd J => vs ?_; refine ⟨kept_base J3 J, ?_⟩; refine x_lstR (d := bytes 5) J sl27 rfl [.slice (some ⟨ga, 0, none⟩) 1 1, r3, .slice (some ⟨gb, 0, none⟩) 1 1, rc, rd, .slice A4 l.f_Bytes.length c4] [[u8i l.f_Kind], lineRoute l, [u8i l.f_Topic], greatB l.f_Due 4, greatB (l.f_Bytes.length : Int) 2, l.f_Bytes] ⟨J.om (fp := [ga]), J.rd hr3, J.om (fp := [gb]), J.om (fp := fc), J.om (fp := fd), J.rd (H.rd hb5), trivial⟩ fun ge we J hre => vs ?_; refine ⟨kept_base J3 J, ?_⟩; refine x_callf J (joined_ok _ _ _ hre (by rw [hjo]; omega)) fun rf ff wf J => vs ?_; refine ⟨kept_base J3 J, ?_⟩; rw [hjo] at J; obtain ⟨Af, cf, rfl, _⟩ := sl_open (J.own (.head _)); refine vs ?_; refine x_callf J (implGreat_ok _ ((lineHead l).length : Int) 2 (by omega)) fun rg fg wg J => vs ?_; refine x_app J pl_u8 sl22 (J.own (.head _)) ?_ ?_ fun fh rh wh J => vs ?_
            · have := greatB_len ((lineHead l).length : Int) 2; omega
            · have := greatB_len ((lineHead l).length : Int) 2; omega
            have e : lineBytes l = lineHead l ++ greatB ((lineHead l).length : Int) 2 := by unfold lineBytes; rw [if_pos hok]
            rw [e]; have J := J.tail; exact ⟨_, (H.join J).head⟩
          · refine vs ?_
            refine x_callf J (implGreat_ok _ (l.f_Bytes.length : Int) 2 (by omega)) fun rd fd wd J => vs ?_; refine ⟨kept_base J3 J, ?_⟩; refine rest_end [(8, false), (18, false), (19, false), (20, true)] ?_; refine vs ?_; refine ve (u8i_eq l.f_Topic) ?_; refine x_lst J pl_u8 sl22 [u8i l.f_Topic] (by simp) fun gb wb J => vs ?_; refine ⟨kept_base J3 J, ?_⟩; refine x_lstR (d := bytes 5) J sl27 rfl [.slice (some ⟨ga, 0, none⟩) 1 1, r3, .slice (some ⟨gb, 0, none⟩) 1 1, rc, rd, .slice A4 l.f_Bytes.length c4] [[u8i l.f_Kind], lineRoute l, [u8i l.f_Topic], greatB l.f_Due 4, greatB (l.f_Bytes.length : Int) 2, l.f_Bytes] ⟨J.om (fp := [ga]), J.rd hr3, J.om (fp := [gb]), J.om (fp := fc), J.om (fp := fd), J.rd (H.rd hb5), trivial⟩ fun ge we J hre => vs ?_; refine ⟨kept_base J3 J, ?_⟩; refine x_callf J (joined_ok _ _ _ hre (by rw [hjo]; omega)) fun rf ff wf J => vs ?_; refine ⟨kept_base J3 J, ?_⟩; rw [hjo] at J; obtain ⟨Af, cf, rfl, _⟩ := sl_open (J.own (.head _)); refine vs ?_; refine x_callf J (implGreat_ok _ ((lineHead l).length : Int) 2 (by omega)) fun rg fg wg J => vs ?_; refine x_app J pl_u8 sl22 (J.own (.head _)) ?_ ?_ fun fh rh wh J => vs ?_
            · have := greatB_len ((lineHead l).length : Int) 2; omega
            · have := greatB_len ((lineHead l).length : Int) 2; omega
            have e : lineBytes l = lineHead l ++ greatB ((lineHead l).length : Int) 2 := by unfold lineBytes; rw [if_pos hok]
            rw [e]; have J := J.tail; exact ⟨_, (H.join J).head⟩
      · refine vs ?_
        refine ve (u8i_eq l.f_Topic) ?_; refine x_lst J pl_u8 sl22 [u8i l.f_Topic] (by simp) fun gb wb J => vs ?_; refine ⟨kept_base J3 J, ?_⟩; refine rest_fork 3 11 5 ?_ ?_
        · refine vs ?_
          refine ve (u8i_eq l.f_Kind) ?_; refine x_lst J pl_u8 sl22 [u8i l.f_Kind] (by simp) fun ga wa J => vs ?_; refine ⟨kept_base J3 J, ?_⟩; refine rest_end [(11, false), (15, false), (18, false), (19, false), (20, true)] ?_; refine vs ?_; refine x_callf J (implGreat_ok _ l.f_Due 4 (by omega)) fun rc fc wc J => vs ?_; refine ⟨kept_base J3 J, ?_⟩; refine x_callf J (implGreat_ok _ (l.f_Bytes.length : Int) 2 (by omega)) fun rd fd wd J => vs ?_; refine ⟨kept_base J3 J, ?_⟩; refine x_lstR (d := bytes 5) J sl27 rfl [.slice (some ⟨ga, 0, none⟩) 1 1, r3, .slice (some ⟨gb, 0, none⟩) 1 1, rc, rd, .slice A4 l.f_Bytes.length c4] [[u8i l.f_Kind], lineRoute l, [u8i l.f_Topic], greatB l.f_Due 4, greatB (l.f_Bytes.length : Int) 2, l.f_Bytes] ⟨J.om (fp := [ga]), J.rd hr3, J.om (fp := [gb]), J.om (fp := fc), J.om (fp := fd), J.rd (H.rd hb5), trivial⟩ fun ge we J hre => vs ?_; refine ⟨kept_base J3 J, ?_⟩; refine x_callf J (joined_ok _ _ _ hre (by rw [hjo]; omega)) fun rf ff wf J => vs ?_; refine ⟨kept_base J3 J, ?_⟩; rw [hjo] at J; obtain ⟨Af, cf, rfl, _⟩ := sl_open (J.own (.head _)); refine vs ?_; refine x_callf J (implGreat_ok _ ((lineHead l).length : Int) 2 (by omega)) fun rg fg wg J => vs ?_; refine x_app J pl_u8 sl22 (J.own (.head _)) ?_ ?_ fun fh rh wh J => vs ?_
          · have := greatB_len ((lineHead l).length : Int) 2; omega
          · have := greatB_len ((lineHead l).length : Int) 2; omega
          have e : lineBytes l = lineHead l ++ greatB ((lineHead l).length : Int) 2 := by unfold lineBytes; rw [if_pos hok]
          rw [e]; have J := J.tail; exact ⟨_, (H.join J).head⟩
        · refine vs ?_
          refine x_callf J (implGreat_ok _ l.f_Due 4 (by omega)) fun rc fc wc J => vs ?_; refine ⟨kept_base J3 J, ?_⟩; refine rest_fork 3 15 4 ?_ ?_
          · refine vs ?_
            refine ve (u8i_eq l.f_Kind) ?_; refine x_lst J pl_u8 sl22 [u8i l.f_Kind] (by simp) fun ga wa J => vs ?_; refine ⟨kept_base J3 J, ?_⟩; refine rest_end [(15, false), (18, false), (19, false), (20, true)] ?_; refine vs ?_; refine x_callf J (implGreat_ok _ (l.f_Bytes.length : Int) 2 (by omega)) fun rd fd wd J => vs ?_; refine ⟨kept_base J3 J, ?_⟩; refine x_lstR (d := bytes 5) J sl27 rfl [.slice (some ⟨ga, 0, none⟩) 1 1, r3, .slice (some ⟨gb, 0, none⟩) 1 1, rc, rd, .slice A4 l.f_Bytes.length c4] [[u8i l.f_Kind], lineRoute l, [u8i l.f_Topic], greatB l.f_Due 4, greatB (l.f_Bytes.length : Int) 2, l.f_Bytes] ⟨J.om (fp := [ga]), J.rd hr3, J.om (fp := [gb]), J.om (fp := fc), J.om (fp := fd), J.rd (H.rd hb5), trivial⟩ fun ge we J hre => vs ?_; refine ⟨kept_base J3 J, ?_⟩; refine x_callf J (joined_ok _ _ _ hre (by rw [hjo]; omega)) fun rf ff wf J => vs ?_; refine ⟨kept_base J3 J, ?_⟩; rw [hjo] at J; obtain ⟨Af, cf, rfl, _⟩ := sl_open (J.own (.head _)); refine vs ?_; refine x_callf J (implGreat_ok _ ((lineHead l).length : Int) 2 (by omega)) fun rg fg wg J => vs ?_; refine x_app J pl_u8 sl22 (J.own (.head _)) ?_ ?_ fun fh rh wh J => vs ?_
            · have := greatB_len ((lineHead l).length : Int) 2; omega
            · have := greatB_len ((lineHead l).length : Int) 2; omega
            have e : lineBytes l = lineHead l ++ greatB ((lineHead l).length : Int) 2 := by unfold lineBytes; rw [if_pos hok]
            rw [e]; have J := J.tail; exact ⟨_, (H.join J).head⟩
          · refine vs ?_
            refine x_callf J (implGreat_ok _ (l.f_Bytes.length : Int) 2 (by omega)) fun rd fd wd J => vs ?_; refine ⟨kept_base J3 J, ?_⟩; refine rest_end [(3, false), (18, false), (19, false), (20, true)] ?_; refine vs ?_; refine ve (u8i_eq l.f_Kind) ?_; refine x_lst J pl_u8 sl22 [u8i l.f_Kind] (by simp) fun ga wa J => vs ?_; refine ⟨kept_base J3 J, ?_⟩; refine x_lstR (d := bytes 5) J sl27 rfl [.slice (some ⟨ga, 0, none⟩) 1 1, r3, .slice (some ⟨gb, 0, none⟩) 1 1, rc, rd, .slice A4 l.f_Bytes.length c4] [[u8i l.f_Kind], lineRoute l, [u8i l.f_Topic], greatB l.f_Due 4, greatB (l.f_Bytes.length : Int) 2, l.f_Bytes] ⟨J.om (fp := [ga]), J.rd hr3, J.om (fp := [gb]), J.om (fp := fc), J.om (fp := fd), J.rd (H.rd hb5), trivial⟩ fun ge we J hre => vs ?_; refine ⟨kept_base J3 J, ?_⟩; refine x_callf J (joined_ok _ _ _ hre (by rw [hjo]; omega)) fun rf ff wf J => vs ?_; refine ⟨kept_base J3 J, ?_⟩; rw [hjo] at J; obtain ⟨Af, cf, rfl, _⟩ := sl_open (J.own (.head _)); refine vs ?_; refine x_callf J (implGreat_ok _ ((lineHead l).length : Int) 2 (by omega)) fun rg fg wg J => vs ?_; refine x_app J pl_u8 sl22 (J.own (.head _)) ?_ ?_ fun fh rh wh J => vs ?_
            · have := greatB_len ((lineHead l).length : Int) 2; omega
            · have := greatB_len ((lineHead l).length : Int) 2; omega
            have e : lineBytes l = lineHead l ++ greatB ((lineHead l).length : Int) 2 := by unfold lineBytes; rw [if_pos hok]
            rw [e]; have J := J.tail; exact ⟨_, (H.join J).head⟩
      · refine vs ?_
        refine x_callf J (implGreat_ok _ l.f_Due 4 (by omega)) fun rc fc wc J => vs ?_; refine ⟨kept_base J3 J, ?_⟩; refine rest_fork3 3 8 15 5 ?_ ?_ ?_
        · refine vs ?_
          refine ve (u8i_eq l.f_Kind) ?_; refine x_lst J pl_u8 sl22 [u8i l.f_Kind] (by simp) fun ga wa J => vs ?_; refine ⟨kept_base J3 J, ?_⟩; refine rest_fork 8 15 4 ?_ ?_
          · refine vs ?_
            refine ve (u8i_eq l.f_Topic) ?_; refine x_lst J pl_u8 sl22 [u8i l.f_Topic] (by simp) fun gb wb J => vs ?_; refine ⟨kept_base J3 J, ?_⟩; refine rest_end [(15, false), (18, false), (19, false), (20, true)] ?_; refine vs ?_; refine x_callf J (implGreat_ok _ (l.f_Bytes.length : Int) 2 (by omega)) fun rd fd wd J => vs ?_; refine ⟨kept_base J3 J, ?_⟩; refine x_lstR (d := bytes 5) J sl27 rfl [.slice (some ⟨ga, 0, none⟩) 1 1, r3, .slice (some ⟨gb, 0, none⟩) 1 1, rc, rd, .slice A4 l.f_Bytes.length c4] [[u8i l.f_Kind], lineRoute l, [u8i l.f_Topic], greatB l.f_Due 4, greatB (l.f_Bytes.length : Int) 2, l.f_Bytes] ⟨J.om (fp := [ga]), J.rd hr3, J.om (fp := [gb]), J.om (fp := fc), J.om (fp := fd), J.rd (H.rd hb5), trivial⟩ fun ge we J hre => vs ?_; refine ⟨kept_base J3 J, ?_⟩; refine x_callf J (joined_ok _ _ _ hre (by rw [hjo]; omega)) fun rf ff wf J => vs ?_; refine ⟨kept_base J3 J, ?_⟩; rw [hjo] at J; obtain ⟨Af, cf, rfl, _⟩ := sl_open (J.own (.head _)); refine vs ?_; refine x_callf J (implGreat_ok _ ((lineHead l).length : Int) 2 (by omega)) fun rg fg wg J => vs ?_; refine x_app J pl_u8 sl22 (J.own (.head _)) ?_ ?_ fun fh rh wh J => vs ?_
            · have := greatB_len ((lineHead l).length : Int) 2; omega
            · have := greatB_len ((lineHead l).length : Int) 2; omega
            have e : lineBytes l = lineHead l ++ greatB ((lineHead l).length : Int) 2 := by unfold lineBytes; rw [if_pos hok]
            rw [e]; have J := J.tail; exact ⟨_, (H.join J).head⟩
          · refine vs ?_
            refine x_callf J (implGreat_ok _ (l.f_Bytes.length : Int) 2 (by omega)) fun rd fd wd J => vs ?_; refine ⟨kept_base J3 J, ?_⟩; refine rest_end [(8, false), (18, false), (19, false), (20, true)] ?_; refine vs ?_; refine ve (u8i_eq l.f_Topic) ?_; refine x_lst J pl_u8 sl22 [u8i l.f_Topic] (by simp) fun gb wb J => vs ?_; refine ⟨kept_base J3 J, ?_⟩; refine x_lstR (d := bytes 5) J sl27 rfl [.slice (some ⟨ga, 0, none⟩) 1 1, r3, .slice (some ⟨gb, 0, none⟩) 1 1, rc, rd, .slice A4 l.f_Bytes.length c4] [[u8i l.f_Kind], lineRoute l, [u8i l.f_Topic], greatB l.f_Due 4, greatB (l.f_Bytes.length : Int) 2, l.f_Bytes] ⟨J.om (fp := [ga]), J.rd hr3, J.om (fp := [gb]), J.om (fp := fc), J.om (fp := fd), J.rd (H.rd hb5), trivial⟩ fun ge we J hre => vs ?_; refine ⟨kept_base J3 J, ?_⟩; refine x_callf J (joined_ok _ _ _ hre (by rw [hjo]; omega)) fun rf ff wf J => vs ?_; refine ⟨kept_base J3 J, ?_⟩; rw [hjo] at J; obtain ⟨Af, cf, rfl, _⟩ := sl_open (J.own (.head _)); refine vs ?_; refine x_callf J (implGreat_ok _ ((lineHead l).length : Int) 2 (by omega)) fun rg fg wg J => vs ?_; refine x_app J pl_u8 sl22 (J.own (.head _)) ?_ ?_ fun fh rh wh J => vs ?_
            · have := greatB_len ((lineHead l).length : Int) 2; omega
            · have := greatB_len ((lineHead l).length : Int) 2; omega
            have e : lineBytes l = lineHead l ++ greatB ((lineHead l).length : Int) 2 := by unfold lineBytes; rw [if_pos hok]
            rw [e]; have J := J.tail; exact ⟨_, (H.join J).head⟩
        · refine vs ?_
          refine ve (u8i_eq l.f_Topic) ?_; refine x_lst J pl_u8 sl22 [u8i l.f_Topic] (by simp) fun gb wb J => vs ?_; refine ⟨kept_base J3 J, ?_⟩; refine rest_fork 3 15 4 ?_ ?_
          · refine vs ?_
            refine ve (u8i_eq l.f_Kind) ?_; refine x_lst J pl_u8 sl22 [u8i l.f_Kind] (by simp) fun ga wa J => vs ?_; refine ⟨kept_base J3 J, ?_⟩; refine rest_end [(15, false), (18, false), (19, false), (20, true)] ?_; refine vs ?_; refine x_callf J (implGreat_ok _ (l.f_Bytes.length : Int) 2 (by omega)) fun rd fd wd J => vs ?_; refine ⟨kept_base J3 J, ?_⟩; refine x_lstR (d := bytes 5) J sl27 rfl [.slice (some ⟨ga, 0, none⟩) 1 1, r3, .slice (some ⟨gb, 0, none⟩) 1 1, rc, rd, .slice A4 l.f_Bytes.length c4] [[u8i l.f_Kind], lineRoute l, [u8i l.f_Topic], greatB l.f_Due 4, greatB (l.f_Bytes.length : Int) 2, l.f_Bytes] ⟨J.om (fp := [ga]), J.rd hr3, J.om (fp := [gb]), J.om (fp := fc), J.om (fp := fd), J.rd (H.rd hb5), trivial⟩ fun ge we J hre => vs ?_; refine ⟨kept_base J3 J, ?_⟩; refine x_callf J (joined_ok _ _ _ hre (by rw [hjo]; omega)) fun rf ff wf J => vs ?_; refine ⟨kept_base J3 J, ?_⟩; rw [hjo] at J; obtain ⟨Af, cf, rfl, _⟩ := sl_open (J.own (.head _)); refine vs ?_; refine x_callf J (implGreat_ok _ ((lineHead l).length : Int) 2 (by omega)) fun rg fg wg J => vs ?_; refine x_app J pl_u8 sl22 (J.own (.head _)) ?_ ?_ fun fh rh wh J => vs ?_
            · have := greatB_len ((lineHead l).length : Int) 2; omega
            · have := greatB_len ((lineHead l).length : Int) 2; omega
            have e : lineBytes l = lineHead l ++ greatB ((lineHead l).length : Int) 2 := by unfold lineBytes; rw [if_pos hok]
            rw [e]; have J := J.tail; exact ⟨_, (H.join J).head⟩
          · refine vs ?_
            refine x_callf J (implGreat_ok _ (l.f_Bytes.length : Int) 2 (by omega)) fun rd fd wd J => vs ?_; refine ⟨kept_base J3 J, ?_⟩; refine rest_end [(3, false), (18, false), (19, false), (20, true)] ?_; refine vs ?_; refine ve (u8i_eq l.f_Kind) ?_; refine x_lst J pl_u8 sl22 [u8i l.f_Kind] (by simp) fun ga wa J => vs ?_; refine ⟨kept_base J3 J, ?_⟩; refine x_lstR (d := bytes 5) J sl27 rfl [.slice (some ⟨ga, 0, none⟩) 1 1, r3, .slice (some ⟨gb, 0, none⟩) 1 1, rc, rd, .slice A4 l.f_Bytes.length c4] [[u8i l.f_Kind], lineRoute l, [u8i l.f_Topic], greatB l.f_Due 4, greatB (l.f_Bytes.length : Int) 2, l.f_Bytes] ⟨J.om (fp := [ga]), J.rd hr3, J.om (fp := [gb]), J.om (fp := fc), J.om (fp := fd), J.rd (H.rd hb5), trivial⟩ fun ge we J hre => vs ?_; refine ⟨kept_base J3 J, ?_⟩; refine x_callf J (joined_ok _ _ _ hre (by rw [hjo]; omega)) fun rf ff wf J => vs ?_; refine ⟨kept_base J3 J, ?_⟩; rw [hjo] at J; obtain ⟨Af, cf, rfl, _⟩ := sl_open (J.own (.head _)); refine vs ?_; refine x_callf J (implGreat_ok _ ((lineHead l).length : Int) 2 (by omega)) fun rg fg wg J => vs ?_; refine x_app J pl_u8 sl22 (J.own (.head _)) ?_ ?_ fun fh rh wh J => vs ?_
            · have := greatB_len ((lineHead l).length : Int) 2; omega
            · have := greatB_len ((lineHead l).length : Int) 2; omega
            have e : lineBytes l = lineHead l ++ greatB ((lineHead l).length : Int) 2 := by unfold lineBytes; rw [if_pos hok]
            rw [e]; have J := J.tail; exact ⟨_, (H.join J).head⟩
        · refine vs ?_
          refine x_callf J (implGreat_ok _ (l.f_Bytes.length : Int) 2 (by omega)) fun rd fd wd J => vs ?_; refine ⟨kept_base J3 J, ?_⟩; refine rest_fork 3 8 4 ?_ ?_
          · refine vs ?_
            refine ve (u8i_eq l.f_Kind) ?_; refine x_lst J pl_u8 sl22 [u8i l.f_Kind] (by simp) fun ga wa J => vs ?_; refine ⟨kept_base J3 J, ?_⟩; refine rest_end [(8, false), (18, false), (19, false), (20, true)] ?_; refine vs ?_; refine ve (u8i_eq l.f_Topic) ?_; refine x_lst J pl_u8 sl22 [u8i l.f_Topic] (by simp) fun gb wb J => vs ?_; refine ⟨kept_base J3 J, ?_⟩; refine x_lstR (d := bytes 5) J sl27 rfl [.slice (some ⟨ga, 0, none⟩) 1 1, r3, .slice (some ⟨gb, 0, none⟩) 1 1, rc, rd, .slice A4 l.f_Bytes.length c4] [[u8i l.f_Kind], lineRoute l, [u8i l.f_Topic], greatB l.f_Due 4, greatB (l.f_Bytes.length : Int) 2, l.f_Bytes] ⟨J.om (fp := [ga]), J.rd hr3, J.om (fp := [gb]), J.om (fp := fc), J.om (fp := fd), J.rd (H.rd hb5), trivial⟩ fun ge we J hre => vs ?_; refine ⟨kept_base J3 J, ?_⟩; refine x_callf J (joined_ok _ _ _ hre (by rw [hjo]; omega)) fun rf ff wf J => vs ?_; refine ⟨kept_base J3 J, ?_⟩; rw [hjo] at J; obtain ⟨Af, cf, rfl, _⟩ := sl_open (J.own (.head _)); refine vs ?_; refine x_callf J (implGreat_ok _ ((lineHead l).length : Int) 2 (by omega)) fun rg fg wg J => vs ?_; refine x_app J pl_u8 sl22 (J.own (.head _)) ?_ ?_ fun fh rh wh J => vs ?_
            · have := greatB_len ((lineHead l).length : Int) 2; omega
            · have := greatB_len ((lineHead l).length : Int) 2; omega
            have e : lineBytes l = lineHead l ++ greatB ((lineHead l).length : Int) 2 := by unfold lineBytes; rw [if_pos hok]
            rw [e]; have J := J.tail; exact ⟨_, (H.join J).head⟩
          · refine vs ?_
            refine ve (u8i_eq l.f_Topic) ?_; refine x_lst J pl_u8 sl22 [u8i l.f_Topic] (by simp) fun gb wb J => vs ?_; refine ⟨kept_base J3 J, ?_⟩; refine rest_end [(3, false), (18, false), (19, false), (20, true)] ?_; refine vs ?_; refine ve (u8i_eq l.f_Kind) ?_; refine x_lst J pl_u8 sl22 [u8i l.f_Kind] (by simp) fun ga wa J => vs ?_; refine ⟨kept_base J3 J, ?_⟩; refine x_lstR (d := bytes 5) J sl27 rfl [.slice (some ⟨ga, 0, none⟩) 1 1, r3, .slice (some ⟨gb, 0, none⟩) 1 1, rc, rd, .slice A4 l.f_Bytes.length c4] [[u8i l.f_Kind], lineRoute l, [u8i l.f_Topic], greatB l.f_Due 4, greatB (l.f_Bytes.length : Int) 2, l.f_Bytes] ⟨J.om (fp := [ga]), J.rd hr3, J.om (fp := [gb]), J.om (fp := fc), J.om (fp := fd), J.rd (H.rd hb5), trivial⟩ fun ge we J hre => vs ?_; refine ⟨kept_base J3 J, ?_⟩; refine x_callf J (joined_ok _ _ _ hre (by rw [hjo]; omega)) fun rf ff wf J => vs ?_; refine ⟨kept_base J3 J, ?_⟩; rw [hjo] at J; obtain ⟨Af, cf, rfl, _⟩ := sl_open (J.own (.head _)); refine vs ?_; refine x_callf J (implGreat_ok _ ((lineHead l).length : Int) 2 (by omega)) fun rg fg wg J => vs ?_; refine x_app J pl_u8 sl22 (J.own (.head _)) ?_ ?_ fun fh rh wh J => vs ?_
            · have := greatB_len ((lineHead l).length : Int) 2; omega
            · have := greatB_len ((lineHead l).length : Int) 2; omega
            have e : lineBytes l = lineHead l ++ greatB ((lineHead l).length : Int) 2 := by unfold lineBytes; rw [if_pos hok]
            rw [e]; have J := J.tail; exact ⟨_, (H.join J).head⟩
    · have er : lineRoute l = unhexB l.f_Route := by unfold lineRoute; rw [if_neg k3]
      refine ve k3 ?_; have H := H.tail; refine x_ld H sc9 ?_; refine vs ?_; refine x_call (implUnhex_ok w3 _ hR) fun _ w3 ⟨r3, f3, e, S⟩ => ?_; subst e; have H := H.join S; simp only [List.cons_append, List.nil_append] at H; rw [← er] at H; refine vs ?_; have hr3 := H.own (.head _); have J := Sep.start w3; refine fork_draw w3.heap.size [] fun w4 hh hb4 => ?_; have J := J.go (hb4 _); have J3 := J; refine rest_pre [(0, true), (1, true), (2, true), (4, true), (5, true), (6, true), (7, true), (9, true), (10, true), (12, true), (13, true), (14, true), (16, true), (17, true)] 7 ?_; refine vs ?_; refine q_ldB H J3 sc3 ?_; refine vs ?_; refine q_ldB H J3 sc3 ?_; refine vs ?_; refine q_ldB H J3 sc3 ?_; refine vs ?_; refine q_ldB H J3 sc22 ?_; refine vs ?_; refine q_ldB H J3 sc22 ?_; refine vs ?_; refine rest_fork3 3 8 11 6 ?_ ?_ ?_
      · refine vs ?_
        refine ve (u8i_eq l.f_Kind) ?_; refine x_lst J pl_u8 sl22 [u8i l.f_Kind] (by simp) fun ga wa J => vs ?_; refine ⟨kept_base J3 J, ?_⟩; refine rest_fork 8 11 5 ?_ ?_
        · refine vs ?_
          refine ve (u8i_eq l.f_Topic) ?_; refine x_lst J pl_u8 sl22 [u8i l.f_Topic] (by simp) fun gb wb J => vs ?_; refine ⟨kept_base J3 J, ?_⟩; refine rest_end [(11, false), (15, false), (18, false), (19, false), (20, true)] ?_; refine vs ?_; refine x_callf J (implGreat_ok _ l.f_Due 4 (by omega)) fun rc fc wc J => vs ?_; refine ⟨kept_base J3 J, ?_⟩; refine x_callf J (implGreat_ok _ (l.f_Bytes.length : Int) 2 (by omega)) fun rd fd wd J => vs ?_; refine ⟨kept_base J3 J, ?_⟩; refine x_lstR (d := bytes 5) J sl27 rfl [.slice (some ⟨ga, 0, none⟩) 1 1, r3, .slice (some ⟨gb, 0, none⟩) 1 1, rc, rd, .slice A4 l.f_Bytes.length c4] [[u8i l.f_Kind], lineRoute l, [u8i l.f_Topic], greatB l.f_Due 4, greatB (l.f_Bytes.length : Int) 2, l.f_Bytes] ⟨J.om (fp := [ga]), J.rd hr3, J.om (fp := [gb]), J.om (fp := fc), J.om (fp := fd), J.rd (H.rd hb5), trivial⟩ fun ge we J hre => vs ?_; refine ⟨kept_base J3 J, ?_⟩; refine x_callf J (joined_ok _ _ _ hre (by rw [hjo]; omega)) fun rf ff wf J => vs ?_; refine ⟨kept_base J3 J, ?_⟩; rw [hjo] at J; obtain ⟨Af, cf, rfl, _⟩ := sl_open (J.own (.head _)); refine vs ?_; refine x_callf J (implGreat_ok _ ((lineHead l).length : Int) 2 (by omega)) fun rg fg wg J => vs ?_; refine x_app J pl_u8 sl22 (J.own (.head _)) ?_ ?_ fun fh rh wh J => vs ?_
          · have := greatB_len ((lineHead l).length : Int) 2; omega
          · have := greatB_len ((lineHead l).length : Int) 2; omega
          have e : lineBytes l = lineHead l ++ greatB ((lineHead l).length : Int) 2 := by unfold lineBytes; rw [if_pos hok]
          rw [e]; have J := J.tail; exact ⟨_, (H.join J).head⟩
        · refine vs ?_
          refine x_callf J (implGreat_ok _ l.f_Due 4 (by omega)) fun rc fc wc J => vs ?_; refine ⟨kept_base J3 J, ?_⟩; refine rest_fork 8 15 4 ?_ ?_
          · refine vs ?_
            refine ve (u8i_eq l.f_Topic) ?_; refine x_lst J pl_u8 sl22 [u8i l.f_Topic] (by simp) fun gb wb J => vs ?_; refine ⟨kept_base J3 J, ?_⟩; refine rest_end [(15, false), (18, false), (19, false), (20, true)] ?_; refine vs ?_; refine x_callf J (implGreat_ok _ (l.f_Bytes.length : Int) 2 (by omega)) fun rd fd wd J => vs ?_; refine ⟨kept_base J3 J, ?_⟩; refine x_lstR (d := bytes 5) J sl27 rfl [.slice (some ⟨ga, 0, none⟩) 1 1, r3, .slice (some ⟨gb, 0, none⟩) 1 1, rc, rd, .slice A4 l.f_Bytes.length c4] [[u8i l.f_Kind], lineRoute l, [u8i l.f_Topic], greatB l.f_Due 4, greatB (l.f_Bytes.length : Int) 2, l.f_Bytes] ⟨J.om (fp := [ga]), J.rd hr3, J.om (fp := [gb]), J.om (fp := fc), J.om (fp := fd), J.rd (H.rd hb5), trivial⟩ fun ge we J hre => vs ?_; refine ⟨kept_base J3 J, ?_⟩; refine x_callf J (joined_ok _ _ _ hre (by rw [hjo]; omega)) fun rf ff wf J => vs ?_; refine ⟨kept_base J3 J, ?_⟩; rw [hjo] at J; obtain ⟨Af, cf, rfl, _⟩ := sl_open (J.own (.head _)); refine vs ?_; refine x_callf J (implGreat_ok _ ((lineHead l).length : Int) 2 (by omega)) fun rg fg wg J => vs ?_; refine x_app J pl_u8 sl22 (J.own (.head _)) ?_ ?_ fun fh rh wh J => vs ?_
            · have := greatB_len ((lineHead l).length : Int) 2; omega
            · have := greatB_len ((lineHead l).length : Int) 2; omega
            have e : lineBytes l = lineHead l ++ greatB ((lineHead l).length : Int) 2 := by unfold lineBytes; rw [if_pos hok]
            rw [e]; have J := J.tail; exact ⟨_, (H.join J).head⟩
          · refine vs ?_
            refine x_callf J (implGreat_ok _ (l.f_Bytes.length : Int) 2 (by omega)) fun rd fd wd J => vs ?_; refine ⟨kept_base J3 J, ?_⟩; refine rest_end [(8, false), (18, false), (19, false), (20, true)] ?_; refine vs ?_; refine ve (u8i_eq l.f_Topic) ?_; refine x_lst J pl_u8 sl22 [u8i l.f_Topic] (by simp) fun gb wb J => vs ?_; refine ⟨kept_base J3 J, ?_⟩; refine x_lstR (d := bytes 5) J sl27 rfl [.slice (some ⟨ga, 0, none⟩) 1 1, r3, .slice (some ⟨gb, 0, none⟩) 1 1, rc, rd, .slice A4 l.f_Bytes.length c4] [[u8i l.f_Kind], lineRoute l, [u8i l.f_Topic], greatB l.f_Due 4, greatB (l.f_Bytes.length : Int) 2, l.f_Bytes] ⟨J.om (fp := [ga]), J.rd hr3, J.om (fp := [gb]), J.om (fp := fc), J.om (fp := fd), J.rd (H.rd hb5), trivial⟩ fun ge we J hre => vs ?_; refine ⟨kept_base J3 J, ?_⟩; refine x_callf J (joined_ok _ _ _ hre (by rw [hjo]; omega)) fun rf ff wf J => vs ?_; refine ⟨kept_base J3 J, ?_⟩; rw [hjo] at J; obtain ⟨Af, cf, rfl, _⟩ := sl_open (J.own (.head _)); refine vs ?_; refine x_callf J (implGreat_ok _ ((lineHead l).length : Int) 2 (by omega)) fun rg fg wg J => vs ?_; refine x_app J pl_u8 sl22 (J.own (.head _)) ?_ ?_ fun fh rh wh J => vs ?_
            · have := greatB_len ((lineHead l).length : Int) 2; omega
            · have := greatB_len ((lineHead l).length : Int) 2; omega
            have e : lineBytes l = lineHead l ++ greatB ((lineHead l).length : Int) 2 := by unfold lineBytes; rw [if_pos hok]
            rw [e]; have J := J.tail; exact ⟨_, (H.join J).head⟩
      · refine vs ?_
        refine ve (u8i_eq l.f_Topic) ?_; refine x_lst J pl_u8 sl22 [u8i l.f_Topic] (by simp) fun gb wb J => vs ?_; refine ⟨kept_base J3 J, ?_⟩; refine rest_fork 3 11 5 ?_ ?_
        · refine vs ?_
          refine ve (u8i_eq l.f_Kind) ?_; refine x_lst J pl_u8 sl22 [u8i l.f_Kind] (by simp) fun ga wa J => vs ?_; refine ⟨kept_base J3 J, ?_⟩; refine rest_end [(11, false), (15, false), (18, false), (19, false), (20, true)] ?_; refine vs ?_; refine x_callf J (implGreat_ok _ l.f_Due 4 (by omega)) fun rc fc wc J => vs ?_; refine ⟨kept_base J3 J, ?_⟩; refine x_callf J (implGreat_ok _ (l.f_Bytes.length : Int) 2 (by omega)) fun rd fd wd J => vs ?_; refine ⟨kept_base J3 J, ?_⟩; refine x_lstR (d := bytes 5) J sl27 rfl [.slice (some ⟨ga, 0, none⟩) 1 1, r3, .slice (some ⟨gb, 0, none⟩) 1 1, rc, rd, .slice A4 l.f_Bytes.length c4] [[u8i l.f_Kind], lineRoute l, [u8i l.f_Topic], greatB l.f_Due 4, greatB (l.f_Bytes.length : Int) 2, l.f_Bytes] ⟨J.om (fp := [ga]), J.rd hr3, J.om (fp := [gb]), J.om (fp := fc), J.om (fp := fd), J.rd (H.rd hb5), trivial⟩ fun ge we J hre => vs ?_; refine ⟨kept_base J3 J, ?_⟩; refine x_callf J (joined_ok _ _ _ hre (by rw [hjo]; omega)) fun rf ff wf J => vs ?_; refine ⟨kept_base J3 J, ?_⟩; rw [hjo] at J; obtain ⟨Af, cf, rfl, _⟩ := sl_open (J.own (.head _)); refine vs ?_; refine x_callf J (implGreat_ok _ ((lineHead l).length : Int) 2 (by omega)) fun rg fg wg J => vs ?_; refine x_app J pl_u8 sl22 (J.own (.head _)) ?_ ?_ fun fh rh wh J => vs ?_
          · have := greatB_len ((lineHead l).length : Int) 2; omega
          · have := greatB_len ((lineHead l).length : Int) 2; omega
          have e : lineBytes l = lineHead l ++ greatB ((lineHead l).length : Int) 2 := by unfold lineBytes; rw [if_pos hok]
          rw [e]; have J := J.tail; exact ⟨_, (H.join J).head⟩
        · refine vs ?_
          refine x_callf J (implGreat_ok _ l.f_Due 4 (by omega)) fun rc fc wc J => vs ?_; refine ⟨kept_base J3 J, ?_⟩; refine rest_fork 3 15 4 ?_ ?_
          · refine vs ?_
            refine ve (u8i_eq l.f_Kind) ?_; refine x_lst J pl_u8 sl22 [u8i l.f_Kind] (by simp) fun ga wa J => vs ?_; refine ⟨kept_base J3 J, ?_⟩; refine rest_end [(15, false), (18, false), (19, false), (20, true)] ?_; refine vs ?_; refine x_callf J (implGreat_ok _ (l.f_Bytes.length : Int) 2 (by omega)) fun rd fd wd J => vs ?_; refine ⟨kept_base J3 J, ?_⟩; refine x_lstR (d := bytes 5) J sl27 rfl [.slice (some ⟨ga, 0, none⟩) 1 1, r3, .slice (some ⟨gb, 0, none⟩) 1 1, rc, rd, .slice A4 l.f_Bytes.length c4] [[u8i l.f_Kind], lineRoute l, [u8i l.f_Topic], greatB l.f_Due 4, greatB (l.f_Bytes.length : Int) 2, l.f_Bytes] ⟨J.om (fp := [ga]), J.rd hr3, J.om (fp := [gb]), J.om (fp := fc), J.om (fp := fd), J.rd (H.rd hb5), trivial⟩ fun ge we J hre => vs ?_; refine ⟨kept_base J3 J, ?_⟩; refine x_callf J (joined_ok _ _ _ hre (by rw [hjo]; omega)) fun rf ff wf J => vs ?_; refine ⟨kept_base J3 J, ?_⟩; rw [hjo] at J; obtain ⟨Af, cf, rfl, _⟩ := sl_open (J.own (.head _)); refine vs ?_; refine x_callf J (implGreat_ok _ ((lineHead l).length : Int) 2 (by omega)) fun rg fg wg J => vs ?_; refine x_app J pl_u8 sl22 (J.own (.head _)) ?_ ?_ fun fh rh wh J => vs ?_
            · have := greatB_len ((lineHead l).length : Int) 2; omega
            · have := greatB_len ((lineHead l).length : Int) 2; omega
            have e : lineBytes l = lineHead l ++ greatB ((lineHead l).length : Int) 2 := by unfold lineBytes; rw [if_pos hok]
            rw [e]; have J := J.tail; exact ⟨_, (H.join J).head⟩
          · refine vs ?_
            refine x_callf J (implGreat_ok _ (l.f_Bytes.length : Int) 2 (by omega)) fun rd fd wd J => vs ?_; refine ⟨kept_base J3 J, ?_⟩; refine rest_end [(3, false), (18, false), (19, false), (20, true)] ?_; refine vs ?_; refine ve (u8i_eq l.f_Kind) ?_; refine x_lst J pl_u8 sl22 [u8i l.f_Kind] (by simp) fun ga wa J => vs ?_; refine ⟨kept_base J3 J, ?_⟩; refine x_lstR (d := bytes 5) J sl27 rfl [.slice (some ⟨ga, 0, none⟩) 1 1, r3, .slice (some ⟨gb, 0, none⟩) 1 1, rc, rd, .slice A4 l.f_Bytes.length c4] [[u8i l.f_Kind], lineRoute l, [u8i l.f_Topic], greatB l.f_Due 4, greatB (l.f_Bytes.length : Int) 2, l.f_Bytes] ⟨J.om (fp := [ga]), J.rd hr3, J.om (fp := [gb]), J.om (fp := fc), J.om (fp := fd), J.rd (H.rd hb5), trivial⟩ fun ge we J hre => vs ?_; refine ⟨kept_base J3 J, ?_⟩; refine x_callf J (joined_ok _ _ _ hre (by rw [hjo]; omega)) fun rf ff wf J => vs ?_; refine ⟨kept_base J3 J, ?_⟩; rw [hjo] at J; obtain ⟨Af, cf, rfl, _⟩ := sl_open (J.own (.head _)); refine vs ?_; refine x_callf J (implGreat_ok _ ((lineHead l).length : Int) 2 (by omega)) fun rg fg wg J => vs ?_; refine x_app J pl_u8 sl22 (J.own (.head _)) ?_ ?_ fun fh rh wh J => vs ?_
            · have := greatB_len ((lineHead l).length : Int) 2; omega
            · have := greatB_len ((lineHead l).length : Int) 2; omega
            have e : lineBytes l = lineHead l ++ greatB ((lineHead l).length : Int) 2 := by unfold lineBytes; rw [if_pos hok]
            rw [e]; have J := J.tail; exact ⟨_, (H.join J).head⟩
      · refine vs ?_
        refine x_callf J (implGreat_ok _ l.f_Due 4 (by omega)) fun rc fc wc J => vs ?_; refine ⟨kept_base J3 J, ?_⟩; refine rest_fork3 3 8 15 5 ?_ ?_ ?_
        · refine vs ?_
          refine ve (u8i_eq l.f_Kind) ?_; refine x_lst J pl_u8 sl22 [u8i l.f_Kind] (by simp) fun ga wa J => vs ?_; refine ⟨kept_base J3 J, ?_⟩; refine rest_fork 8 15 4 ?_ ?_
          · refine vs ?_
            refine ve (u8i_eq l.f_Topic) ?_; refine x_lst J pl_u8 sl22 [u8i l.f_Topic] (by simp) fun gb wb J => vs ?_; refine ⟨kept_base J3 J, ?_⟩; refine rest_end [(15, false), (18, false), (19, false), (20, true)] ?_; refine vs ?_; refine x_callf J (implGreat_ok _ (l.f_Bytes.length : Int) 2 (by omega)) fun rd fd wd J => vs ?_; refine ⟨kept_base J3 J, ?_⟩; refine x_lstR (d := bytes 5) J sl27 rfl [.slice (some ⟨ga, 0, none⟩) 1 1, r3, .slice (some ⟨gb, 0, none⟩) 1 1, rc, rd, .slice A4 l.f_Bytes.length c4] [[u8i l.f_Kind], lineRoute l, [u8i l.f_Topic], greatB l.f_Due 4, greatB (l.f_Bytes.length : Int) 2, l.f_Bytes] ⟨J.om (fp := [ga]), J.rd hr3, J.om (fp := [gb]), J.om (fp := fc), J.om (fp := fd), J.rd (H.rd hb5), trivial⟩ fun ge we J hre => vs ?_; refine ⟨kept_base J3 J, ?_⟩; refine x_callf J (joined_ok _ _ _ hre (by rw [hjo]; omega)) fun rf ff wf J => vs ?_; refine ⟨kept_base J3 J, ?_⟩; rw [hjo] at J; obtain ⟨Af, cf, rfl, _⟩ := sl_open (J.own (.head _)); refine vs ?_; refine x_callf J (implGreat_ok _ ((lineHead l).length : Int) 2 (by omega)) fun rg fg wg J => vs ?_; refine x_app J pl_u8 sl22 (J.own (.head _)) ?_ ?_ fun fh rh wh J => vs ?_
            · have := greatB_len ((lineHead l).length : Int) 2; omega
            · have := greatB_len ((lineHead l).length : Int) 2; omega
            have e : lineBytes l = lineHead l ++ greatB ((lineHead l).length : Int) 2 := by unfold lineBytes; rw [if_pos hok]
            rw [e]; have J := J.tail; exact ⟨_, (H.join J).head⟩
          · refine vs ?_
            refine x_callf J (implGreat_ok _ (l.f_Bytes.length : Int) 2 (by omega)) fun rd fd wd J => vs ?_; refine ⟨kept_base J3 J, ?_⟩; refine rest_end [(8, false), (18, false), (19, false), (20, true)] ?_; refine vs ?_; refine ve (u8i_eq l.f_Topic) ?_; refine x_lst J pl_u8 sl22 [u8i l.f_Topic] (by simp) fun gb wb J => vs ?_; refine ⟨kept_base J3 J, ?_⟩; refine x_lstR (d := bytes 5) J sl27 rfl [.slice (some ⟨ga, 0, none⟩) 1 1, r3, .slice (some ⟨gb, 0, none⟩) 1 1, rc, rd, .slice A4 l.f_Bytes.length c4] [[u8i l.f_Kind], lineRoute l, [u8i l.f_Topic], greatB l.f_Due 4, greatB (l.f_Bytes.length : Int) 2, l.f_Bytes] ⟨J.om (fp := [ga]), J.rd hr3, J.om (fp := [gb]), J.om (fp := fc), J.om (fp := fd), J.rd (H.rd hb5), trivial⟩ fun ge we J hre => vs ?_; refine ⟨kept_base J3 J, ?_⟩; refine x_callf J (joined_ok _ _ _ hre (by rw [hjo]; omega)) fun rf ff wf J => vs ?_; refine ⟨kept_base J3 J, ?_⟩; rw [hjo] at J; obtain ⟨Af, cf, rfl, _⟩ := sl_open (J.own (.head _)); refine vs ?_; refine x_callf J (implGreat_ok _ ((lineHead l).length : Int) 2 (by omega)) fun rg fg wg J => vs ?_; refine x_app J pl_u8 sl22 (J.own (.head _)) ?_ ?_ fun fh rh wh J => vs ?_
            · have := greatB_len ((lineHead l).length : Int) 2; omega
            · have := greatB_len ((lineHead l).length : Int) 2; omega
            have e : lineBytes l = lineHead l ++ greatB ((lineHead l).length : Int) 2 := by unfold lineBytes; rw [if_pos hok]
            rw [e]; have J := J.tail; exact ⟨_, (H.join J).head⟩
        · refine vs ?_
          refine ve (u8i_eq l.f_Topic) ?_; refine x_lst J pl_u8 sl22 [u8i l.f_Topic] (by simp) fun gb wb J => vs ?_; refine ⟨kept_base J3 J, ?_⟩; refine rest_fork 3 15 4 ?_ ?_
          · refine vs ?_
            refine ve (u8i_eq l.f_Kind) ?_; refine x_lst J pl_u8 sl22 [u8i l.f_Kind] (by simp) fun ga wa J => vs ?_; refine ⟨kept_base J3 J, ?_⟩; refine rest_end [(15, false), (18, false), (19, false), (20, true)] ?_; refine vs ?_; refine x_callf J (implGreat_ok _ (l.f_Bytes.length : Int) 2 (by omega)) fun rd fd wd J => vs ?_; refine ⟨kept_base J3 J, ?_⟩; refine x_lstR (d := bytes 5) J sl27 rfl [.slice (some ⟨ga, 0, none⟩) 1 1, r3, .slice (some ⟨gb, 0, none⟩) 1 1, rc, rd, .slice A4 l.f_Bytes.length c4] [[u8i l.f_Kind], lineRoute l, [u8i l.f_Topic], greatB l.f_Due 4, greatB (l.f_Bytes.length : Int) 2, l.f_Bytes] ⟨J.om (fp := [ga]), J.rd hr3, J.om (fp := [gb]), J.om (fp := fc), J.om (fp := fd), J.rd (H.rd hb5), trivial⟩ fun ge we J hre => vs ?_; refine ⟨kept_base J3 J, ?_⟩; refine x_callf J (joined_ok _ _ _ hre (by rw [hjo]; omega)) fun rf ff wf J => vs ?_; refine ⟨kept_base J3 J, ?_⟩; rw [hjo] at J; obtain ⟨Af, cf, rfl, _⟩ := sl_open (J.own (.head _)); refine vs ?_; refine x_callf J (implGreat_ok _ ((lineHead l).length : Int) 2 (by omega)) fun rg fg wg J => vs ?_; refine x_app J pl_u8 sl22 (J.own (.head _)) ?_ ?_ fun fh rh wh J => vs ?_
            · have := greatB_len ((lineHead l).length : Int) 2; omega
            · have := greatB_len ((lineHead l).length : Int) 2; omega
            have e : lineBytes l = lineHead l ++ greatB ((lineHead l).length : Int) 2 := by unfold lineBytes; rw [if_pos hok]
            rw [e]; have J := J.tail; exact ⟨_, (H.join J).head⟩
          · refine vs ?_
            refine x_callf J (implGreat_ok _ (l.f_Bytes.length : Int) 2 (by omega)) fun rd fd wd J => vs ?_; refine ⟨kept_base J3 J, ?_⟩; refine rest_end [(3, false), (18, false), (19, false), (20, true)] ?_; refine vs ?_; refine ve (u8i_eq l.f_Kind) ?_; refine x_lst J pl_u8 sl22 [u8i l.f_Kind] (by simp) fun ga wa J => vs ?_; refine ⟨kept_base J3 J, ?_⟩; refine x_lstR (d := bytes 5) J sl27 rfl [.slice (some ⟨ga, 0, none⟩) 1 1, r3, .slice (some ⟨gb, 0, none⟩) 1 1, rc, rd, .slice A4 l.f_Bytes.length c4] [[u8i l.f_Kind], lineRoute l, [u8i l.f_Topic], greatB l.f_Due 4, greatB (l.f_Bytes.length : Int) 2, l.f_Bytes] ⟨J.om (fp := [ga]), J.rd hr3, J.om (fp := [gb]), J.om (fp := fc), J.om (fp := fd), J.rd (H.rd hb5), trivial⟩ fun ge we J hre => vs ?_; refine ⟨kept_base J3 J, ?_⟩; refine x_callf J (joined_ok _ _ _ hre (by rw [hjo]; omega)) fun rf ff wf J => vs ?_; refine ⟨kept_base J3 J, ?_⟩; rw [hjo] at J; obtain ⟨Af, cf, rfl, _⟩ := sl_open (J.own (.head _)); refine vs ?_; refine x_callf J (implGreat_ok _ ((lineHead l).length : Int) 2 (by omega)) fun rg fg wg J => vs ?_; refine x_app J pl_u8 sl22 (J.own (.head _)) ?_ ?_ fun fh rh wh J => vs ?_
            · have := greatB_len ((lineHead l).length : Int) 2; omega
            · have := greatB_len ((lineHead l).length : Int) 2; omega
            have e : lineBytes l = lineHead l ++ greatB ((lineHead l).length : Int) 2 := by unfold lineBytes; rw [if_pos hok]
            rw [e]; have J := J.tail; exact ⟨_, (H.join J).head⟩
        · refine vs ?_
          refine x_callf J (implGreat_ok _ (l.f_Bytes.length : Int) 2 (by omega)) fun rd fd wd J => vs ?_; refine ⟨kept_base J3 J, ?_⟩; refine rest_fork 3 8 4 ?_ ?_
          · refine vs ?_
            refine ve (u8i_eq l.f_Kind) ?_; refine x_lst J pl_u8 sl22 [u8i l.f_Kind] (by simp) fun ga wa J => vs ?_; refine ⟨kept_base J3 J, ?_⟩; refine rest_end [(8, false), (18, false), (19, false), (20, true)] ?_; refine vs ?_; refine ve (u8i_eq l.f_Topic) ?_; refine x_lst J pl_u8 sl22 [u8i l.f_Topic] (by simp) fun gb wb J => vs ?_; refine ⟨kept_base J3 J, ?_⟩; refine x_lstR (d := bytes 5) J sl27 rfl [.slice (some ⟨ga, 0, none⟩) 1 1, r3, .slice (some ⟨gb, 0, none⟩) 1 1, rc, rd, .slice A4 l.f_Bytes.length c4] [[u8i l.f_Kind], lineRoute l, [u8i l.f_Topic], greatB l.f_Due 4, greatB (l.f_Bytes.length : Int) 2, l.f_Bytes] ⟨J.om (fp := [ga]), J.rd hr3, J.om (fp := [gb]), J.om (fp := fc), J.om (fp := fd), J.rd (H.rd hb5), trivial⟩ fun ge we J hre => vs ?_; refine ⟨kept_base J3 J, ?_⟩; refine x_callf J (joined_ok _ _ _ hre (by rw [hjo]; omega)) fun rf ff wf J => vs ?_; refine ⟨kept_base J3 J, ?_⟩; rw [hjo] at J; obtain ⟨Af, cf, rfl, _⟩ := sl_open (J.own (.head _)); refine vs ?_; refine x_callf J (implGreat_ok _ ((lineHead l).length : Int) 2 (by omega)) fun rg fg wg J => vs ?_; refine x_app J pl_u8 sl22 (J.own (.head _)) ?_ ?_ fun fh rh wh J => vs ?_
            · have := greatB_len ((lineHead l).length : Int) 2; omega
            · have := greatB_len ((lineHead l).length : Int) 2; omega
            have e : lineBytes l = lineHead l ++ greatB ((lineHead l).length : Int) 2 := by unfold lineBytes; rw [if_pos hok]
            rw [e]; have J := J.tail; exact ⟨_, (H.join J).head⟩
          · refine vs ?_
            refine ve (u8i_eq l.f_Topic) ?_; refine x_lst J pl_u8 sl22 [u8i l.f_Topic] (by simp) fun gb wb J => vs ?_; refine ⟨kept_base J3 J, ?_⟩; refine rest_end [(3, false), (18, false), (19, false), (20, true)] ?_; refine vs ?_; refine ve (u8i_eq l.f_Kind) ?_; refine x_lst J pl_u8 sl22 [u8i l.f_Kind] (by simp) fun ga wa J => vs ?_; refine ⟨kept_base J3 J, ?_⟩; refine x_lstR (d := bytes 5) J sl27 rfl [.slice (some ⟨ga, 0, none⟩) 1 1, r3, .slice (some ⟨gb, 0, none⟩) 1 1, rc, rd, .slice A4 l.f_Bytes.length c4] [[u8i l.f_Kind], lineRoute l, [u8i l.f_Topic], greatB l.f_Due 4, greatB (l.f_Bytes.length : Int) 2, l.f_Bytes] ⟨J.om (fp := [ga]), J.rd hr3, J.om (fp := [gb]), J.om (fp := fc), J.om (fp := fd), J.rd (H.rd hb5), trivial⟩ fun ge we J hre => vs ?_; refine ⟨kept_base J3 J, ?_⟩; refine x_callf J (joined_ok _ _ _ hre (by rw [hjo]; omega)) fun rf ff wf J => vs ?_; refine ⟨kept_base J3 J, ?_⟩; rw [hjo] at J; obtain ⟨Af, cf, rfl, _⟩ := sl_open (J.own (.head _)); refine vs ?_; refine x_callf J (implGreat_ok _ ((lineHead l).length : Int) 2 (by omega)) fun rg fg wg J => vs ?_; refine x_app J pl_u8 sl22 (J.own (.head _)) ?_ ?_ fun fh rh wh J => vs ?_
            · have := greatB_len ((lineHead l).length : Int) 2; omega
            · have := greatB_len ((lineHead l).length : Int) 2; omega
            have e : lineBytes l = lineHead l ++ greatB ((lineHead l).length : Int) 2 := by unfold lineBytes; rw [if_pos hok]
            rw [e]; have J := J.tail; exact ⟨_, (H.join J).head⟩
theorem specLineBytes_ok (w : World) (cs : List Value) (l : MLine) (h : kLine.rd w w.heap.size cs l) (hR : l.f_Route.length ≤ 1099511627776) (hb : l.f_Bytes.length ≤ 1099511627776) :
    ACalls Tryz.prog 135 #[.agg cs.toArray] w fun r w' => ∃ fp, Sep w.heap.size w w' [Ck.own (bytes 5) fp [r] (lineBytes l)] := by
  have h9 := h; obtain ⟨v4, rfl, h0, h1, h2, h3, hb4⟩ := kLine_open h; have hb5 := hb4; obtain ⟨A4, c4, rfl, _, _, _⟩ := sl_open hb4; have H := Sep.start w; refine body_of follows Tryz.func135 rfl rfl _ rfl (by kernel_rfl) (vs ?_); refine x_bx H [.int .i64 l.f_Kind, .string ⟨(l.f_Route).toArray⟩, .int .i64 l.f_Topic, .int .i64 l.f_Due, .slice A4 l.f_Bytes.length c4] fun g1 w1 H => vs ?_; refine x_lda H st90 ?_; refine vs ?_; refine x_callb H (specLineOk_ok w1 _ l (H.rd h9) hR hb) fun w2 H => ?_
  cases hok : lineOk l with
  | false =>
    refine vs ?_; rw [lineBytes_no hok]; refine x_emp H pl_u8 sl22 fun g4 w4 H => vs ?_; exact ⟨_, H.head⟩
  | true =>
    have hlr := lineRoute_len hok; have hlb := lineOk_bytes hok; have hlh := lineHead_len hok; have hgd := greatB_len l.f_Due 4; have hgb := greatB_len (l.f_Bytes.length : Int) 2; have hgh := greatB_len ((lineHead l).length : Int) 2; have el : lineBytes l = lineHead l ++ greatB ((lineHead l).length : Int) 2 := by unfold lineBytes; rw [if_pos hok]
    have eh : lineHead l = [u8i l.f_Kind] ++ lineRoute l ++ [u8i l.f_Topic] ++ greatB l.f_Due 4 ++ greatB (l.f_Bytes.length : Int) 2 ++ l.f_Bytes := rfl; refine vs ?_; refine x_ld H sc9 ?_; refine vs ?_; refine x_call (specUnhex_ok w2 _ hR) fun _ w3 ⟨r3, f3, e, S⟩ => ?_; subst e; have H := H.join S; simp only [List.cons_append, List.nil_append] at H; refine vs ?_; refine x_ld H sc3 ?_
    by_cases k3 : l.f_Kind = 3
    · have er : lineRoute l = List.replicate 8 0 := by unfold lineRoute; rw [if_pos k3]
      refine ve (eq_true k3) ?_; refine x_mk H pl_u8 (x := 0) (m := 8) sl22 trivial (by decide) (by decide) fun g2 w3 H => vs ?_; rw [← er] at H; have hr3 := H.own (.head _); refine x_ld H sc3 ?_; refine ve (u8i_eq l.f_Kind) ?_; refine x_lst H pl_u8 sl22 [u8i l.f_Kind] (by simp) fun ga wa H => vs ?_; refine x_app H pl_u8 sl22 (H.own (.tail _ (.head _))) ?_ ?_ fun fb rb wb H => vs ?_
      · simp only [List.length_cons, List.length_nil]; omega
      · simp only [List.length_cons, List.length_nil]; omega
      refine x_ld H sc3 ?_; refine ve (u8i_eq l.f_Topic) ?_; refine x_lst H pl_u8 sl22 [u8i l.f_Topic] (by simp) fun gc wc H => vs ?_; refine x_app H pl_u8 sl22 (H.own (.head _)) ?_ ?_ fun fd rd wd H => vs ?_
      · simp only [List.length_append, List.length_cons, List.length_nil]; omega
      · simp only [List.length_append, List.length_cons, List.length_nil]; omega
      refine x_ld H sc3 ?_; refine vs ?_; refine x_callf H (specGreat_ok wd l.f_Due 4 (by omega)) fun re fe we H => vs ?_; refine x_app H pl_u8 sl22 (H.own (.head _)) ?_ ?_ fun ff rf wf H => vs ?_
      · simp only [List.length_append, List.length_cons, List.length_nil]; omega
      · simp only [List.length_append, List.length_cons, List.length_nil]; omega
      refine x_ld H sc22 ?_; refine vs ?_; refine x_callf H (specGreat_ok wf (l.f_Bytes.length : Int) 2 (by omega)) fun rg fg wg H => vs ?_; refine x_app H pl_u8 sl22 (H.own (.head _)) ?_ ?_ fun fh rh wh H => vs ?_
      · simp only [List.length_append, List.length_cons, List.length_nil]; omega
      · simp only [List.length_append, List.length_cons, List.length_nil]; omega
      refine x_ld H sc22 ?_; refine vs ?_; refine x_app H pl_u8 sl22 (H.rd hb5) ?_ ?_ fun fi ri wi H => vs ?_
      · simp only [List.length_append, List.length_cons, List.length_nil]; omega
      · simp only [List.length_append, List.length_cons, List.length_nil]; omega
      rw [← eh] at H; obtain ⟨Aj, cj, rfl, _⟩ := sl_open (H.om (fp := fi) (x := lineHead l)); refine vs ?_; refine x_callf H (specGreat_ok wi ((lineHead l).length : Int) 2 (by omega)) fun rj fj wj H => vs ?_; refine x_app H pl_u8 sl22 (H.own (.head _)) ?_ ?_ fun fk rk wk H => vs ?_
      · omega
      · omega
      rw [← el] at H; exact ⟨_, H.only⟩
    · have er : lineRoute l = unhexB l.f_Route := by unfold lineRoute; rw [if_neg k3]
      refine ve k3 ?_; rw [← er] at H; have hr3 := H.own (.head _); refine x_ld H sc3 ?_; refine ve (u8i_eq l.f_Kind) ?_; refine x_lst H pl_u8 sl22 [u8i l.f_Kind] (by simp) fun ga wa H => vs ?_; refine x_app H pl_u8 sl22 (H.own (.tail _ (.head _))) ?_ ?_ fun fb rb wb H => vs ?_
      · simp only [List.length_cons, List.length_nil]; omega
      · simp only [List.length_cons, List.length_nil]; omega
      refine x_ld H sc3 ?_; refine ve (u8i_eq l.f_Topic) ?_; refine x_lst H pl_u8 sl22 [u8i l.f_Topic] (by simp) fun gc wc H => vs ?_; refine x_app H pl_u8 sl22 (H.own (.head _)) ?_ ?_ fun fd rd wd H => vs ?_
      · simp only [List.length_append, List.length_cons, List.length_nil]; omega
      · simp only [List.length_append, List.length_cons, List.length_nil]; omega
      refine x_ld H sc3 ?_; refine vs ?_; refine x_callf H (specGreat_ok wd l.f_Due 4 (by omega)) fun re fe we H => vs ?_; refine x_app H pl_u8 sl22 (H.own (.head _)) ?_ ?_ fun ff rf wf H => vs ?_
      · simp only [List.length_append, List.length_cons, List.length_nil]; omega
      · simp only [List.length_append, List.length_cons, List.length_nil]; omega
      refine x_ld H sc22 ?_; refine vs ?_; refine x_callf H (specGreat_ok wf (l.f_Bytes.length : Int) 2 (by omega)) fun rg fg wg H => vs ?_; refine x_app H pl_u8 sl22 (H.own (.head _)) ?_ ?_ fun fh rh wh H => vs ?_
      · simp only [List.length_append, List.length_cons, List.length_nil]; omega
      · simp only [List.length_append, List.length_cons, List.length_nil]; omega
      refine x_ld H sc22 ?_; refine vs ?_; refine x_app H pl_u8 sl22 (H.rd hb5) ?_ ?_ fun fi ri wi H => vs ?_
      · simp only [List.length_append, List.length_cons, List.length_nil]; omega
      · simp only [List.length_append, List.length_cons, List.length_nil]; omega
      rw [← eh] at H; obtain ⟨Aj, cj, rfl, _⟩ := sl_open (H.om (fp := fi) (x := lineHead l)); refine vs ?_; refine x_callf H (specGreat_ok wi ((lineHead l).length : Int) 2 (by omega)) fun rj fj wj H => vs ?_; refine x_app H pl_u8 sl22 (H.own (.head _)) ?_ ?_ fun fk rk wk H => vs ?_
      · omega
      · omega
      rw [← el] at H; exact ⟨_, H.only⟩
theorem specSame_ok (w : World) (v v' : Value) (a b : List UInt8) (h : (bytes 5).rd w w.heap.size [v] a) (h' : (bytes 5).rd w w.heap.size [v'] b) :
    ACalls Tryz.prog 25 #[v, v'] w fun r w' => r = .bool (decide (a = b)) ∧ w' = w := by
  refine body_of follows Tryz.func25 rfl rfl _ rfl (by kernel_rfl) (vs ?_); refine x_str Tryz.underlying22 Tryz.underlying5 Tryz.underlying9 h (vs ?_); refine x_str Tryz.underlying22 Tryz.underlying5 Tryz.underlying9 h' (vs ?_)
  trivial
theorem bytesEqual_ok (w : World) (v v' : Value) (a b : List UInt8) (h : (bytes 5).rd w w.heap.size [v] a) (h' : (bytes 5).rd w w.heap.size [v'] b) :
    ACalls Tryz.prog 43 #[v, v'] w fun r w' => r = .bool (decide (a = b)) ∧ w' = w := by
  refine body_of follows Tryz.func43 rfl rfl _ rfl (by kernel_rfl) (vs ?_); refine x_str Tryz.underlying22 Tryz.underlying5 Tryz.underlying9 h (vs ?_); refine x_str Tryz.underlying22 Tryz.underlying5 Tryz.underlying9 h' (vs ?_)
  trivial
theorem implSame_ok (w : World) (v v' : Value) (a b : List UInt8) (h : (bytes 5).rd w w.heap.size [v] a) (h' : (bytes 5).rd w w.heap.size [v'] b) :
    ACalls Tryz.prog 17 #[v, v'] w fun r w' => r = .bool (decide (a = b)) ∧ w' = w := by
  refine body_of follows Tryz.func17 rfl rfl _ rfl (by kernel_rfl) (vs ?_); refine x_callw (bytesEqual_ok w v v' a b h h') (vs ?_)
  trivial
abbrev ints : Kd (List Int) := Kd.slice 3 Kd.i64
theorem specWord_ok (w : World) (n : Int) : ACalls Tryz.prog 191 #[.int .i64 n] w fun r w' => r = .int .i64 (word n) ∧ w' = w := by
  refine body_of follows Tryz.func191 rfl rfl _ rfl (by kernel_rfl) (vs ?_); exact i64_eq (iand_word n)
theorem mod32 (k : Int) : (k % 32).toNat < 32 := by omega
theorem sub32 (k : Int) : w64 (32 - ((k % 32).toNat : Int)) = ((32 - (k % 32).toNat : Nat) : Int) := by have := mod32 k; unfold w64; omega
theorem specTurn_ok (w : World) (n k : Int) : ACalls Tryz.prog 203 #[.int .i64 n, .int .i64 k] w fun r w' => r = .int .i64 (turn n k) ∧ Below w.heap.size w w' := by
  refine body_of follows Tryz.func203 rfl rfl _ rfl (by kernel_rfl) (vs ?_); refine x_callw (specWord_ok w n) (ve (iand_31 k) ?_); refine draw_at [(0, true), (1, true), (2, true), (3, true), (4, true), (5, true), (6, true), (7, true), (8, false), (9, true)] fun w3 hh hb3 => ve (sub32 k) ?_; refine x_callw (specWord_ok w3 _) (vs ?_); exact ⟨Kept.refl .., rfl, hb3 _⟩
theorem sub_32 (a : Nat) (h : a ≤ 32) : w64 (32 - (a : Int)) = 32 - (a : Int) := by unfold w64; omega
theorem specMix_ok (w : World) (x : Int) (a b c : Nat) (s : Bool) (ha : a ≤ 32) (hb : b ≤ 32) (hc : c ≤ 32) :
    ACalls Tryz.prog 199 #[.int .i64 x, .int .i64 (a : Int), .int .i64 (b : Int), .int .i64 (c : Int), .bool s] w fun r w' => r = .int .i64 (mix x a b c s) ∧ Below w.heap.size w w' := by
  have H := Sep.start w; refine body_of follows Tryz.func199 rfl rfl _ rfl (by kernel_rfl) (vs ?_); rw [sub_32 c hc]; refine x_callb H (specTurn_ok w x _) fun w1 H => ?_; unfold mix
  cases s with
  | true =>
    refine vs ?_; refine x_callw (specWord_ok w1 x) (vs ?_); rw [sub_32 a ha]; refine x_callb H (specTurn_ok w1 x _) fun w2 H => vs ?_; rw [sub_32 b hb]; refine x_callb H (specTurn_ok w2 x _) fun w3 H => vs ?_; exact H.bel
  | false =>
    refine vs ?_; rw [sub_32 a ha]; refine x_callb H (specTurn_ok w1 x _) fun w2 H => vs ?_; rw [sub_32 b hb]; refine x_callb H (specTurn_ok w2 x _) fun w3 H => vs ?_; exact H.bel
theorem getD_drop (b : List UInt8) (o i n : Nat) (h : i < n) : ((b.drop o).take n).getD i 0 = b.getD (o + i) 0 := by
  simp [List.getD_eq_getElem?_getD, List.getElem?_take, h, List.getElem?_drop]
theorem wordOf_ok (w : World) (v : Value) (b : List UInt8) (h : (bytes 5).rd w w.heap.size [v] b) (hl : b.length = 4) :
    ACalls Tryz.prog 106 #[v, .bool true] w fun r w' => r = .int .i64 (w4 (b.getD 0 0) (b.getD 1 0) (b.getD 2 0) (b.getD 3 0)) ∧ Below w.heap.size w w' := by
  obtain ⟨A, c, rfl, hc1, hc2, ha⟩ := sl_open h; refine body_of follows Tryz.func106 rfl rfl _ rfl (by kernel_rfl) (vs ?_); refine draw_at [(0, true), (1, true), (2, true), (3, true), (4, true), (5, true), (6, true), (7, true), (8, true), (9, true), (10, true), (11, true), (12, true), (13, true), (14, true), (15, true), (16, true), (17, true), (18, true), (19, true), (20, true), (21, true), (22, true)] fun w3 hh hb3 => vs ?_; have ha := (ha.mono (hb3 _)).le (hb3 w.heap.size).size; refine q_elV pl_u8 sl22 0 ha (getD_at (z := 0) (by omega)) rfl rfl fun ad hb hc _ => vs ?_; refine qx_load sc5 hc hb (by simp) (vs ?_); refine q_elV pl_u8 sl22 1 ha (getD_at (z := 0) (by omega)) rfl rfl fun ad hb hc _ => vs ?_; refine qx_load sc5 hc hb (by simp) (vs ?_); refine q_elV pl_u8 sl22 2 ha (getD_at (z := 0) (by omega)) rfl rfl fun ad hb hc _ => vs ?_; refine qx_load sc5 hc hb (by simp) (vs ?_); refine q_elV pl_u8 sl22 3 ha (getD_at (z := 0) (by omega)) rfl rfl fun ad hb hc _ => vs ?_; refine qx_load sc5 hc hb (by simp) (vs ?_); exact ⟨rfl, hb3 _⟩
theorem w4_i64 (a b c d : UInt8) : -9223372036854775808 ≤ w4 a b c d ∧ w4 a b c d < 9223372036854775808 := by have := w4_range a b c d; omega
theorem specWords_ok (w : World) (v : Value) (b : List UInt8) (n : Nat) (h : (bytes 5).rd w w.heap.size [v] b) (hl : b.length = 4 * n) (hn : n ≤ 1073741824) :
    ACalls Tryz.prog 133 #[v, .bool true] w fun r w' => ∃ fp, Sep w.heap.size w w' [Ck.own ints fp [r] (wordsN b n)] := by
  obtain ⟨A, c, rfl, hc1, hc2, ha⟩ := sl_open h; have H := Sep.start w; refine body_of follows Tryz.func133 rfl rfl _ rfl (by kernel_rfl) (vs ?_); refine x_emp H pl_i64 sl60 fun g w1 H => vs ?_
  refine loop_at (σ := Nat × Value × List Nat) (fun x => [(0, .slice A b.length c), (1, .bool true), (5, x.2.1), (6, .int .i64 ((4 * x.1 : Nat) : Int))])
    (fun x w' => x.1 ≤ n ∧ Sep w.heap.size w w' [Ck.own ints x.2.2 [x.2.1] (wordsN b x.1)]) (fun x => n - x.1) (0, _, _) (vs ?_) ⟨Nat.zero_le _, H⟩ ?_
  · rfl
  rintro ⟨k, v', fp⟩ s w2 ⟨hk, H⟩; dsimp only at hk H; have e1 : w64 (((4 * k : Nat) : Int) + 1) = ((4 * k + 1 : Nat) : Int) := by unfold w64; omega
  have e2 : w64 (((4 * k : Nat) : Int) + 2) = ((4 * k + 2 : Nat) : Int) := by unfold w64; omega
  have e3 : w64 (((4 * k : Nat) : Int) + 3) = ((4 * k + 3 : Nat) : Int) := by unfold w64; omega
  have e4 : w64 (((4 * k : Nat) : Int) + 4) = ((4 * k + 4 : Nat) : Int) := by unfold w64; omega
  by_cases hlt : k < n
  · have e5 : (((4 * k + 3 : Nat) : Int) < (b.length : Int)) := by omega
    refine ve (And.intro e3 e5) ?_; refine draw_of [(0, true), (1, true), (2, true), (3, true), (4, true), (5, true), (6, true), (7, true), (8, true), (9, true), (10, true), (11, true), (12, true), (13, true), (14, true), (15, true), (16, true), (17, true), (18, true), (19, true), (20, true), (21, true), (22, true), (23, true), (24, true), (25, true), (26, true), (27, true), (28, true), (29, true), (30, false), (31, false), (32, true)] w.heap.size [] fun w3 hh hb3 => ve (And.intro e1 (And.intro e2 e3)) ?_; have H := H.go (hb3 _); have H3 := H; have ha := ha.mono H.bel; refine q_elV pl_u8 sl22 (4 * k) ha (getD_at (z := 0) (by omega)) rfl rfl fun ad hb hc _ => vs ?_; refine qx_load sc5 hc hb (by simp) (vs ?_); refine q_elV pl_u8 sl22 (4 * k + 1) ha (getD_at (z := 0) (by omega)) e1 rfl fun ad hb hc _ => vs ?_; refine qx_load sc5 hc hb (by simp) (vs ?_); refine q_elV pl_u8 sl22 (4 * k + 2) ha (getD_at (z := 0) (by omega)) e2 rfl fun ad hb hc _ => vs ?_; refine qx_load sc5 hc hb (by simp) (vs ?_); refine q_elV pl_u8 sl22 (4 * k + 3) ha (getD_at (z := 0) (by omega)) e3 rfl fun ad hb hc _ => vs ?_; refine qx_load sc5 hc hb (by simp) (vs ?_); refine x_lst H pl_i64 sl60 [w4 (b.getD (4 * k) 0) (b.getD (4 * k + 1) 0) (b.getD (4 * k + 2) 0) (b.getD (4 * k + 3) 0)] (fun x hx => by simp only [List.mem_singleton] at hx; subst hx; exact w4_i64 ..) fun g3 w4' H => vs ?_; refine ⟨kept_base H3 H, ?_⟩; have hlen : (wordsN b k).length = k := by simp [wordsN]
    refine x_app H pl_i64 sl60 (H.own (.head _)) ?_ ?_ fun fp5 v5 w5 H => vs ?_
    · simp only [List.length_cons, List.length_nil, hlen]; omega
    · simp only [List.length_cons, List.length_nil, hlen]; omega
    refine ⟨kept_base H3 H, (k + 1, v5, fp5), ⟨rfl, i64_eq (by show w64 (((4 * k : Nat) : Int) + 4) = ((4 * (k + 1) : Nat) : Int); rw [e4]; rfl)⟩, ⟨hlt, ?_⟩, by show n - (k + 1) < n - k; omega⟩; dsimp only; rw [wordsN_succ]; exact H.tail
  · have e5 : ¬ (((4 * k + 3 : Nat) : Int) < (b.length : Int)) := by omega
    refine ve (And.intro e3 e5) ?_; obtain rfl : k = n := by omega
    exact ⟨_, H⟩
end Go.Proofs.YtcmckbgiiclomacGreat.V
