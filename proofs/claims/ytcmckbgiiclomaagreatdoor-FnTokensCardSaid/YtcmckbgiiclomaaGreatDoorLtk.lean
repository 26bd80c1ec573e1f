/- The law FnTokens, walked. Laid by a program. -/
import Derived.Test.YtcmckbgiiclomaaGreatDoorWtd
import Derived.Test.YtcmckbgiiclomaaGreatDoorPtk
namespace Go.Proofs.YtcmckbgiiclomaaGreatDoor.V
open Go Go.RowKit
set_option maxRecDepth 100000
set_option maxHeartbeats 16000000
set_option linter.unusedSimpArgs false
set_option linter.unusedVariables false
set_option pp.deepTerms false
set_option pp.deepTerms.threshold 3

theorem bigO_ok (w : World) (v : Value) (a : List UInt8) (h : (bytes 5).rd w w.heap.size [v] a) :
    ACalls Tryz.prog 4 #[v] w fun r w' => r = .bool (decide (1048576 < (a.length : Int))) ∧ w' = w := by
  obtain ⟨A, c, rfl, _, _, _⟩ := sl_open h
  refine body_of follows Tryz.func4 rfl rfl _ rfl (by kernel_rfl) (vs ?_)
  first | trivial | rfl | exact ⟨rfl, rfl⟩
theorem tokenOf_kT {w : World} {n : Nat} {k s : List UInt8} {T : MToken × Bool} (hT : T = tokenOf k s) (hs : s.length ≤ 1048576) : kToken.rd w n [.string ⟨T.1.f_Route.toArray⟩, .int .i64 T.1.f_Until] T.1 ∧ smToken T.1 := by
  have h := tokenOf_sm (k := k) hs
  rw [← hT] at h
  refine ⟨kToken_of _ (by omega) h.2, ?_⟩
  unfold smToken; omega
theorem until_next {x : MToken} {k : List UInt8} (h : ¬ issue k x = []) : w64 (x.f_Until + 1) = x.f_Until + 1 := by
  obtain ⟨_, h2, _⟩ := issue_parts h
  exact w64_id (by omega) (by omega)
theorem len_pred {S : List UInt8} (h : ¬ S = []) (hS : S.length ≤ 104) : w64 ((S.length : Int) - 1) = ((S.length - 1 : Nat) : Int) := by
  have := List.length_pos_iff.2 h
  rw [w64_id (by omega) (by omega)]; omega

theorem FnTokens_ok (w0 : World) (v0 : Value) (x0 : List UInt8) (h0 : (bytes 5).rd w0 w0.heap.size [v0] x0) (ht : Libs w0) :
    ACalls Tryz.prog 3 #[v0] w0 fun r w' => r = .bool true ∧ Below w0.heap.size w0 w' := by
  refine body_of follows Tryz.func3 rfl rfl _ rfl (by kernel_rfl) (vs ?_)
  refine x_callw (bigO_ok w0 v0 x0 h0) ?_
  by_cases q0 : 1048576 < (x0.length : Int)
  · refine ve q0 ?_
    exact Below.refl ..
  refine ve q0 ?_
  refine x_call (drawIssue_ok w0 v0 x0 h0) fun _ w1 ⟨x, k, r1, f1, e, hx, hk, H⟩ => ?_
  subst e
  refine vs ?_
  refine x_al H st25 fun g4 w2 H => vs ?_
  refine x_sta H st25 (vs := [.string ⟨x.f_Route.toArray⟩, .int .i64 x.f_Until]) (h1 := oneT) fun w3 H => vs ?_
  refine x_lda H st25 ?_
  refine vs ?_
  refine x_callb H (implIssue_ok w3 r1 k _ x (H.own (d := bytes 5) (fp := f1) (cs := [r1]) (x := k) (by repeat (first | exact List.mem_cons_self | apply List.mem_cons_of_mem))) (smTok_k hx) (smTok_sm hx) (ht.tab.below H.bel)) fun w4 H => ?_
  have hSl := issue_len k x
  obtain ⟨S, hS⟩ : ∃ S, S = issue k x := ⟨_, rfl⟩
  rw [← hS] at hSl ⊢
  refine vs ?_
  refine x_call (drawTokenOf_ok w4 v0 x0 (H.rd h0) (ht.tab.below H.bel)) fun _ w5 ⟨p, y, r6, f6, e, hpy, Z⟩ => ?_
  subst e
  have H := H.join Z
  simp only [List.cons_append, List.nil_append] at H
  refine vs ?_
  refine x_callb H (implTokenOf_ok w5 r6 p y (H.own (d := bytes 5) (fp := f6) (cs := [r6]) (x := p) (by repeat (first | exact List.mem_cons_self | apply List.mem_cons_of_mem))) (by omega) (ht.below H.bel)) fun w6 H => ?_
  obtain ⟨T, hT⟩ : ∃ T, T = tokenOf p y := ⟨_, rfl⟩
  rw [← hT]
  refine vs ?_
  refine x_al H st25 fun g8 w7 H => vs ?_
  refine x_sta H st25 (vs := [.string ⟨T.1.f_Route.toArray⟩, .int .i64 T.1.f_Until]) (h1 := oneT) fun w8 H => vs ?_
  refine x_callb H (specTokenOf_ok w8 r6 p y (H.own (d := bytes 5) (fp := f6) (cs := [r6]) (x := p) (by repeat (first | exact List.mem_cons_self | apply List.mem_cons_of_mem))) (by omega) (ht.below H.bel)) fun w9 H => ?_
  rw [← hT]
  refine vs ?_
  refine x_al H st25 fun g10 w10 H => vs ?_
  refine x_sta H st25 (vs := [.string ⟨T.1.f_Route.toArray⟩, .int .i64 T.1.f_Until]) (h1 := oneT) fun w11 H => vs ?_
  obtain ⟨hTk, hTs⟩ := tokenOf_kT (w := w0) (n := 0) hT (by omega)
  refine x_call (drawMayFetch_ok w11 v0 x0 (H.rd h0) (ht.tab.below H.bel)) fun _ w12 ⟨q, z, R, D, r12, f12, e, hqz, Z⟩ => ?_
  subst e
  have H := H.join Z
  simp only [List.cons_append, List.nil_append] at H
  refine vs ?_
  refine x_call (drawTokenText_ok w12 v0 x0 (H.rd h0)) fun _ w13 ⟨u, e, hu, hb⟩ => ?_
  subst e
  have H := H.go hb
  refine vs ?_
  refine x_al H st25 fun g16 w14 H => vs ?_
  refine x_sta H st25 (vs := [.string ⟨u.f_Route.toArray⟩, .int .i64 u.f_Until]) (h1 := oneT) fun w15 H => vs ?_
  refine cut_to (σ := Unit) (fun _ => [(3, r1), (4, .pointer (some ⟨g4, 0, none⟩)), (5, .string ⟨S.toArray⟩), (105, .bool false)])
    (fun _ w' => Sep w0.heap.size w0 w' [Ck.box g4 [.string ⟨x.f_Route.toArray⟩, .int .i64 x.f_Until] 25, Ck.own (bytes 5) f1 [r1] k]) ?_ ?_
  · as_aux_lemma =>
    have J := Sep.start w15
    refine draw_of [(0, true), (1, true), (2, true), (3, false), (4, true), (5, true), (6, true), (7, true), (8, true), (9, true), (10, true), (11, true), (12, true), (13, true), (14, true), (15, true), (16, true), (17, true), (18, true), (19, true), (21, true), (22, true), (23, true), (24, true), (20, false), (25, false), (26, true), (27, true), (28, true), (29, true), (31, true), (30, false), (32, false), (33, true), (34, true), (35, true), (36, true), (37, true), (38, true), (39, true), (41, true), (40, false), (42, true), (43, true), (44, true)] w15.heap.size [] fun w16 hh hb => vs ?_
    have J := J.go (hb _)
    have J3 := J
    refine q_ldaB H J3 st25 ?_
    refine vs ?_
    refine x_callb J (specIssue_ok w16 r1 k _ x (J.rd (H.own (d := bytes 5) (fp := f1) (cs := [r1]) (x := k) (by repeat (first | exact List.mem_cons_self | apply List.mem_cons_of_mem)))) (smTok_k hx) (smTok_sm hx) (ht.below ((H.bel).trans (J.bel.mono H.ns))).tab) fun w17 J => ?_
    rw [← hS]
    refine vs ?_
    refine ⟨kept_base J3 J, ?_⟩
    refine q_ldaB H J3 st25 ?_
    refine vs ?_
    refine q_ldaB H J3 st25 ?_
    refine vs ?_
    refine q_tne ?_
    refine vs ?_
    refine x_callb J (implMayFetch_ok w17 r12 q z R D (J.rd (H.own (d := bytes 5) (fp := f12) (cs := [r12]) (x := q) (by repeat (first | exact List.mem_cons_self | apply List.mem_cons_of_mem)))) (by omega) (ht.below ((H.bel).trans (J.bel.mono H.ns)))) fun w18 J => ?_
    obtain ⟨M, hM⟩ : ∃ M, M = mayFetch q z R D := ⟨_, rfl⟩
    rw [← hM]
    refine vs ?_
    refine ⟨kept_base J3 J, ?_⟩
    refine x_callb J (specMayFetch_ok w18 r12 q z R D (J.rd (H.own (d := bytes 5) (fp := f12) (cs := [r12]) (x := q) (by repeat (first | exact List.mem_cons_self | apply List.mem_cons_of_mem)))) (by omega) (ht.below ((H.bel).trans (J.bel.mono H.ns)))) fun w19 J => ?_
    rw [← hM]
    refine vs ?_
    refine ⟨kept_base J3 J, ?_⟩
    refine q_ldaB H J3 st25 ?_
    refine vs ?_
    refine q_ldaB H J3 st25 ?_
    refine vs ?_
    refine x_callb J (implTokenText_ok w19 _ u (smTok_k hu) (smTok_sm hu) (ht.below ((H.bel).trans (J.bel.mono H.ns))).tab) fun w20 J => ?_
    obtain ⟨U, hU⟩ : ∃ U, U = tokenText u := ⟨_, rfl⟩
    rw [← hU]
    refine vs ?_
    refine ⟨kept_base J3 J, ?_⟩
    refine x_callb J (specTokenText_ok w20 _ u (smTok_k hu) (smTok_sm hu) (ht.below ((H.bel).trans (J.bel.mono H.ns))).tab) fun w21 J => ?_
    rw [← hU]
    refine vs ?_
    refine ⟨kept_base J3 J, ?_⟩
    cases hT2 : T.2 with
    | false =>
      refine vs ?_
      refine ⟨kept_base J3 J, ?_⟩
      have H := H.join J
      simp only [List.cons_append, List.nil_append] at H
      have H := H.front (c := Ck.own (bytes 5) f1 [r1] k)
      have H := H.front (c := Ck.box g4 [.string ⟨x.f_Route.toArray⟩, .int .i64 x.f_Until] 25)
      exact ⟨(), Sep.left (L := [Ck.box g4 [.string ⟨x.f_Route.toArray⟩, .int .i64 x.f_Until] 25, Ck.own (bytes 5) f1 [r1] k]) H⟩
    | true =>
      have hTi : issue p T.1 = y := by rw [hT] at hT2 ⊢; exact tokenOf_true hT2
      refine vs ?_
      refine q_ldaB H J3 st25 ?_
      refine vs ?_
      refine x_callb J (implIssue_ok w21 r6 p _ T.1 (J.rd (H.own (d := bytes 5) (fp := f6) (cs := [r6]) (x := p) (by repeat (first | exact List.mem_cons_self | apply List.mem_cons_of_mem)))) (tokenOf_kT hT (by omega)).1 hTs (ht.below ((H.bel).trans (J.bel.mono H.ns))).tab) fun w22 J => ?_
      rw [hTi]
      refine vs ?_
      refine ⟨kept_base J3 J, ?_⟩
      have H := H.join J
      simp only [List.cons_append, List.nil_append] at H
      have H := H.front (c := Ck.own (bytes 5) f1 [r1] k)
      have H := H.front (c := Ck.box g4 [.string ⟨x.f_Route.toArray⟩, .int .i64 x.f_Until] 25)
      exact ⟨(), Sep.left (L := [Ck.box g4 [.string ⟨x.f_Route.toArray⟩, .int .i64 x.f_Until] 25, Ck.own (bytes 5) f1 [r1] k]) H⟩
  rintro ⟨⟩ s9 w23 H
  refine vs ?_
  by_cases he : S = []
  · subst he
    refine vs ?_
    refine x_callb H (implTokenOf_ok w23 r1 k [] (H.own (d := bytes 5) (fp := f1) (cs := [r1]) (x := k) (by repeat (first | exact List.mem_cons_self | apply List.mem_cons_of_mem))) (by decide) (ht.below H.bel)) fun w24 H => ?_
    have h2 := tokenOf_nil k
    rw [h2]
    refine vs ?_
    refine x_al H st25 fun g17 w25 H => vs ?_
    refine x_sta H st25 (vs := [.string ⟨(tokenOf k []).1.f_Route.toArray⟩, .int .i64 (tokenOf k []).1.f_Until]) (h1 := oneT) fun w26 H => vs ?_
    first | exact ⟨rfl, H.bel⟩ | exact H.bel
  refine ve he ?_
  have hne : ¬ issue k x = [] := fun q => he (hS.trans q)
  have e1 : tokenOf k S = (x, true) := by rw [hS]; exact tokenOf_issue hne
  have e2 : (tokenOf k (S ++ [65])).2 = false := by rw [hS]; exact tokenOf_more hne
  have e3 : (tokenOf k (S.take (S.length - 1))).2 = false := by rw [hS]; exact tokenOf_cut hne
  have e4 : mayFetch k S x.f_Route x.f_Until = true ∧ mayFetch k S x.f_Route (x.f_Until + 1) = false := by rw [hS]; exact mayFetch_issue hne
  have e5 := until_next hne
  refine x_callb H (implTokenOf_ok w23 r1 k S (H.own (d := bytes 5) (fp := f1) (cs := [r1]) (x := k) (by repeat (first | exact List.mem_cons_self | apply List.mem_cons_of_mem))) (by omega) (ht.below H.bel)) fun w24 H => ?_
  rw [e1]
  refine vs ?_
  refine x_al H st25 fun g19 w25 H => vs ?_
  refine x_sta H st25 (vs := [.string ⟨x.f_Route.toArray⟩, .int .i64 x.f_Until]) (h1 := oneT) fun w26 H => vs ?_
  refine x_sadd (a := S) (b := [65]) (by simp only [List.length_cons, List.length_nil]; omega) ?_
  refine vs ?_
  refine x_callb H (implTokenOf_ok w26 r1 k (S ++ [65]) (H.own (d := bytes 5) (fp := f1) (cs := [r1]) (x := k) (by repeat (first | exact List.mem_cons_self | apply List.mem_cons_of_mem))) (by simp only [List.length_append, List.length_cons, List.length_nil]; omega) (ht.below H.bel)) fun w27 H => ?_
  rw [e2]
  refine vs ?_
  refine x_al H st25 fun g21 w28 H => vs ?_
  refine x_sta H st25 (vs := [.string ⟨(tokenOf k (S ++ [65])).1.f_Route.toArray⟩, .int .i64 (tokenOf k (S ++ [65])).1.f_Until]) (h1 := oneT) fun w29 H => vs ?_
  refine ve (len_pred he hSl) ?_
  refine x_strTo Tryz.underlying9 (Nat.sub_le _ _) ?_
  refine vs ?_
  refine x_callb H (implTokenOf_ok w29 r1 k (S.take (S.length - 1)) (H.own (d := bytes 5) (fp := f1) (cs := [r1]) (x := k) (by repeat (first | exact List.mem_cons_self | apply List.mem_cons_of_mem))) (by rw [List.length_take]; omega) (ht.below H.bel)) fun w30 H => ?_
  rw [e3]
  refine vs ?_
  refine x_al H st25 fun g23 w31 H => vs ?_
  refine x_sta H st25 (vs := [.string ⟨(tokenOf k (S.take (S.length - 1))).1.f_Route.toArray⟩, .int .i64 (tokenOf k (S.take (S.length - 1))).1.f_Until]) (h1 := oneT) fun w32 H => vs ?_
  refine x_lda H st25 ?_
  refine vs ?_
  refine x_lda H st25 ?_
  refine vs ?_
  refine x_teq ?_
  refine vs ?_
  refine x_ld H sc9 ?_
  refine vs ?_
  refine x_ld H sc3 ?_
  refine vs ?_
  refine x_callb H (implMayFetch_ok w32 r1 k S x.f_Route x.f_Until (H.own (d := bytes 5) (fp := f1) (cs := [r1]) (x := k) (by repeat (first | exact List.mem_cons_self | apply List.mem_cons_of_mem))) (by omega) (ht.below H.bel)) fun w33 H => ?_
  rw [e4.1]
  refine vs ?_
  refine x_ld H sc9 ?_
  refine vs ?_
  refine x_ld H sc3 ?_
  refine ve e5 ?_
  refine x_callb H (implMayFetch_ok w33 r1 k S x.f_Route (x.f_Until + 1) (H.own (d := bytes 5) (fp := f1) (cs := [r1]) (x := k) (by repeat (first | exact List.mem_cons_self | apply List.mem_cons_of_mem))) (by omega) (ht.below H.bel)) fun w34 H => ?_
  rw [e4.2]
  refine vs ?_
  first | exact ⟨rfl, H.bel⟩ | exact H.bel
end Go.Proofs.YtcmckbgiiclomaaGreatDoor.V
