/- The law FnExactDrop, walked. Laid by a program. -/
import Derived.Test.YtdljbekkckfmnaaWqu
import Derived.Test.YtdljbekkckfmnaaWx
namespace Go.Proofs.Ytdljbekkckfmnaa.V
open Go Go.RowKit
set_option maxRecDepth 100000
set_option maxHeartbeats 8000000
set_option linter.unusedSimpArgs false
set_option linter.unusedVariables false
set_option pp.deepTerms false
set_option pp.deepTerms.threshold 3
theorem FnExactDrop_ok (w : World) (c0 : List Value) (x0 : MPost) (h0 : kPost.rd w w.heap.size c0 x0) (c1 : List Value) (x1 : MItem) (h1 : kItem.rd w w.heap.size c1 x1) :
    ACalls Try.prog 7 #[.agg c0.toArray, .agg c1.toArray] w fun r w' => r = .bool true ∧ Below w.heap.size w w' := by
  obtain ⟨a0_0, a0_2, rfl, _⟩ := kPost_open h0
  obtain ⟨a1_3, rfl, _⟩ := kItem_open h1
  have H := Sep.start w
  refine body_of follows Try.func7 rfl rfl _ rfl (by kernel_rfl) (vs ?_)
  refine x_bx H [a0_0, .int .i64 x0.f_Time, a0_2, .int .i64 x0.f_Sure] fun g0 w1 H => vs ?_
  refine x_bx H [.string ⟨(x1.f_Route).toArray⟩, .int .i64 x1.f_Topic, .int .i64 x1.f_Due, a1_3] fun g1 w2 H => vs ?_
  refine x_lda H st33 ?_
  refine vs ?_
  refine x_call (szPost_ok w2 _ _ _ (H.rd h0) (by omega) (by omega)) fun _ w3 ⟨z0, e, hb, lo0, hi0, s⟩ => ?_
  subst e
  have H := H.go hb
  refine vs (ways ?_ ?_)
  · refine vh fun _ => ?_
    exact H.bel
  refine vh fun hge => ?_
  have hs0 := s (by omega)
  refine x_lda H st48 ?_
  refine vs ?_
  refine x_call (szItem_ok w3 _ _ _ (H.rd h1) (by omega) (by omega)) fun _ w4 ⟨z1, e, hb, lo1, hi1, s⟩ => ?_
  subst e
  have H := H.go hb
  refine vs (ways ?_ ?_)
  · refine vh fun _ => ?_
    exact H.bel
  refine vh fun hge => ?_
  have hs1 := s (by omega)
  refine cut_to (σ := Nat × List Nat × Value × Value × List Value × List Nat × List Value × List Nat) (fun y => [(2, .pointer (some ⟨g0, 0, none⟩)), (3, .pointer (some ⟨g1, 0, none⟩)), (6, .pointer (some ⟨y.1, 0, none⟩)), (7, .int .i64 (dropP x0 x1).2)])
    (fun y w' => Sep w.heap.size w w' [Ck.box y.1 [y.2.2.1, .int .i64 (dropP x0 x1).1.f_Time, y.2.2.2.1, .int .i64 (dropP x0 x1).1.f_Sure] 37, Ck.own kPost y.2.1 [y.2.2.1, .int .i64 (dropP x0 x1).1.f_Time, y.2.2.2.1, .int .i64 (dropP x0 x1).1.f_Sure] (dropP x0 x1).1, Ck.own kItem y.2.2.2.2.2.2.2 y.2.2.2.2.2.2.1 x1, Ck.own kPost y.2.2.2.2.2.1 y.2.2.2.2.1 x0, Ck.box g1 [.string ⟨(x1.f_Route).toArray⟩, .int .i64 x1.f_Topic, .int .i64 x1.f_Due, a1_3] 48, Ck.box g0 [a0_0, .int .i64 x0.f_Time, a0_2, .int .i64 x0.f_Sure] 33]) ?_ ?_
  · have J := Sep.start w4
    refine fork_draw w4.heap.size [] fun wz hh hbz => ?_
    have J := J.go (hbz _)
    have J3 := J
    refine rest_pre [(0, true), (2, true)] 9 ?_
    refine vs ?_
    refine q_ldaB H J3 st33 ?_
    refine vs ?_
    refine q_ldaB H J3 st48 ?_
    refine vs ?_
    refine rest_fork 1 8 8 ?_ ?_
    · refine vs ?_
      refine x_call (toPost_ok _ _ _ (J.rd (H.rd h0)) hs0) fun _ wa ⟨d1, f1, e, S⟩ => ?_
      subst e
      have J := J.join S
      simp only [List.cons_append, List.nil_append] at J
      refine vs ?_
      refine ⟨kept_base J3 J, ?_⟩
      refine rest_fork 3 8 7 ?_ ?_
      · refine vs ?_
        refine x_call (toItem_ok _ _ _ (J.rd (H.rd h1)) hs1) fun _ wb ⟨d2, f2, e, S⟩ => ?_
        subst e
        have J := J.join S
        simp only [List.cons_append, List.nil_append] at J
        refine vs ?_
        refine ⟨kept_base J3 J, ?_⟩
        refine rest_fork 4 8 6 ?_ ?_
        · refine vs ?_
          refine x_call (specDrop_ok _ _ x0 _ x1 (J.own (fp := f1) (x := x0) (by repeat (first | exact List.mem_cons_self | apply List.mem_cons_of_mem))) (J.own (fp := f2) (x := x1) (by repeat (first | exact List.mem_cons_self | apply List.mem_cons_of_mem))) hs0 hs1) fun _ wc ⟨v3_0, f3_0, e, S⟩ => ?_
          subst e
          have J := J.join S
          simp only [List.cons_append, List.nil_append] at J
          obtain ⟨t3_0_0, t3_0_2, rfl, _⟩ := kPost_open (J.own (.head _))
          refine vs ?_
          refine ⟨kept_base J3 J, ?_⟩
          refine rest_end [(5, true), (6, true), (7, true), (8, false), (9, false), (10, true)] ?_
          refine vs ?_
          refine qx_extract0 ?_
          refine vs ?_
          refine qx_extract1 ?_
          refine vs ?_
          refine x_al J st37 fun b3_0 wd J => vs ?_
          refine ⟨kept_base J3 J, ?_⟩
          refine x_sta J st37 (vs := [t3_0_0, .int .i64 (dropP x0 x1).1.f_Time, t3_0_2, .int .i64 (dropP x0 x1).1.f_Sure]) (h1 := Kd.one _ (J.own (fp := f3_0) (x := (dropP x0 x1).1) (by repeat (first | exact List.mem_cons_self | apply List.mem_cons_of_mem)))) fun we J => vs ?_
          refine ⟨kept_base J3 J, ?_⟩
          have H := H.join J
          simp only [List.cons_append, List.nil_append] at H
          have H := H.front (c := Ck.box g0 [a0_0, .int .i64 x0.f_Time, a0_2, .int .i64 x0.f_Sure] 33)
          have H := H.front (c := Ck.box g1 [.string ⟨(x1.f_Route).toArray⟩, .int .i64 x1.f_Topic, .int .i64 x1.f_Due, a1_3] 48)
          have H := H.front (c := Ck.own kPost f1 d1 x0)
          have H := H.front (c := Ck.own kItem f2 d2 x1)
          have H := H.front (c := Ck.own kPost f3_0 [t3_0_0, .int .i64 (dropP x0 x1).1.f_Time, t3_0_2, .int .i64 (dropP x0 x1).1.f_Sure] (dropP x0 x1).1)
          have H := H.front (c := Ck.box b3_0 [t3_0_0, .int .i64 (dropP x0 x1).1.f_Time, t3_0_2, .int .i64 (dropP x0 x1).1.f_Sure] 37)
          exact ⟨(b3_0, f3_0, t3_0_0, t3_0_2, d1, f1, d2, f2), vs trivial, Sep.left (L := [_, _, _, _, _, _]) H⟩
        · refine vs ?_
          refine x_al J st37 fun b3_0 wd J => vs ?_
          refine ⟨kept_base J3 J, ?_⟩
          refine rest_end [(4, false), (5, true), (6, true), (7, true), (9, false), (10, true)] ?_
          refine vs ?_
          refine x_call (specDrop_ok _ _ x0 _ x1 (J.own (fp := f1) (x := x0) (by repeat (first | exact List.mem_cons_self | apply List.mem_cons_of_mem))) (J.own (fp := f2) (x := x1) (by repeat (first | exact List.mem_cons_self | apply List.mem_cons_of_mem))) hs0 hs1) fun _ wc ⟨v3_0, f3_0, e, S⟩ => ?_
          subst e
          have J := J.join S
          simp only [List.cons_append, List.nil_append] at J
          obtain ⟨t3_0_0, t3_0_2, rfl, _⟩ := kPost_open (J.own (.head _))
          refine vs ?_
          refine ⟨kept_base J3 J, ?_⟩
          refine qx_extract0 ?_
          refine vs ?_
          refine qx_extract1 ?_
          refine vs ?_
          refine x_sta J st37 (vs := [t3_0_0, .int .i64 (dropP x0 x1).1.f_Time, t3_0_2, .int .i64 (dropP x0 x1).1.f_Sure]) (h1 := Kd.one _ (J.own (fp := f3_0) (x := (dropP x0 x1).1) (by repeat (first | exact List.mem_cons_self | apply List.mem_cons_of_mem)))) fun we J => vs ?_
          refine ⟨kept_base J3 J, ?_⟩
          have H := H.join J
          simp only [List.cons_append, List.nil_append] at H
          have H := H.front (c := Ck.box g0 [a0_0, .int .i64 x0.f_Time, a0_2, .int .i64 x0.f_Sure] 33)
          have H := H.front (c := Ck.box g1 [.string ⟨(x1.f_Route).toArray⟩, .int .i64 x1.f_Topic, .int .i64 x1.f_Due, a1_3] 48)
          have H := H.front (c := Ck.own kPost f1 d1 x0)
          have H := H.front (c := Ck.own kItem f2 d2 x1)
          have H := H.front (c := Ck.own kPost f3_0 [t3_0_0, .int .i64 (dropP x0 x1).1.f_Time, t3_0_2, .int .i64 (dropP x0 x1).1.f_Sure] (dropP x0 x1).1)
          have H := H.front (c := Ck.box b3_0 [t3_0_0, .int .i64 (dropP x0 x1).1.f_Time, t3_0_2, .int .i64 (dropP x0 x1).1.f_Sure] 37)
          exact ⟨(b3_0, f3_0, t3_0_0, t3_0_2, d1, f1, d2, f2), vs trivial, Sep.left (L := [_, _, _, _, _, _]) H⟩
      · refine vs ?_
        refine x_al J st37 fun b3_0 wd J => vs ?_
        refine ⟨kept_base J3 J, ?_⟩
        refine rest_end [(3, false), (4, false), (5, true), (6, true), (7, true), (9, false), (10, true)] ?_
        refine vs ?_
        refine x_call (toItem_ok _ _ _ (J.rd (H.rd h1)) hs1) fun _ wb ⟨d2, f2, e, S⟩ => ?_
        subst e
        have J := J.join S
        simp only [List.cons_append, List.nil_append] at J
        refine vs ?_
        refine ⟨kept_base J3 J, ?_⟩
        refine x_call (specDrop_ok _ _ x0 _ x1 (J.own (fp := f1) (x := x0) (by repeat (first | exact List.mem_cons_self | apply List.mem_cons_of_mem))) (J.own (fp := f2) (x := x1) (by repeat (first | exact List.mem_cons_self | apply List.mem_cons_of_mem))) hs0 hs1) fun _ wc ⟨v3_0, f3_0, e, S⟩ => ?_
        subst e
        have J := J.join S
        simp only [List.cons_append, List.nil_append] at J
        obtain ⟨t3_0_0, t3_0_2, rfl, _⟩ := kPost_open (J.own (.head _))
        refine vs ?_
        refine ⟨kept_base J3 J, ?_⟩
        refine qx_extract0 ?_
        refine vs ?_
        refine qx_extract1 ?_
        refine vs ?_
        refine x_sta J st37 (vs := [t3_0_0, .int .i64 (dropP x0 x1).1.f_Time, t3_0_2, .int .i64 (dropP x0 x1).1.f_Sure]) (h1 := Kd.one _ (J.own (fp := f3_0) (x := (dropP x0 x1).1) (by repeat (first | exact List.mem_cons_self | apply List.mem_cons_of_mem)))) fun we J => vs ?_
        refine ⟨kept_base J3 J, ?_⟩
        have H := H.join J
        simp only [List.cons_append, List.nil_append] at H
        have H := H.front (c := Ck.box g0 [a0_0, .int .i64 x0.f_Time, a0_2, .int .i64 x0.f_Sure] 33)
        have H := H.front (c := Ck.box g1 [.string ⟨(x1.f_Route).toArray⟩, .int .i64 x1.f_Topic, .int .i64 x1.f_Due, a1_3] 48)
        have H := H.front (c := Ck.own kPost f1 d1 x0)
        have H := H.front (c := Ck.own kItem f2 d2 x1)
        have H := H.front (c := Ck.own kPost f3_0 [t3_0_0, .int .i64 (dropP x0 x1).1.f_Time, t3_0_2, .int .i64 (dropP x0 x1).1.f_Sure] (dropP x0 x1).1)
        have H := H.front (c := Ck.box b3_0 [t3_0_0, .int .i64 (dropP x0 x1).1.f_Time, t3_0_2, .int .i64 (dropP x0 x1).1.f_Sure] 37)
        exact ⟨(b3_0, f3_0, t3_0_0, t3_0_2, d1, f1, d2, f2), vs trivial, Sep.left (L := [_, _, _, _, _, _]) H⟩
    · refine vs ?_
      refine x_al J st37 fun b3_0 wd J => vs ?_
      refine ⟨kept_base J3 J, ?_⟩
      refine rest_end [(1, false), (3, false), (4, false), (5, true), (6, true), (7, true), (9, false), (10, true)] ?_
      refine vs ?_
      refine x_call (toPost_ok _ _ _ (J.rd (H.rd h0)) hs0) fun _ wa ⟨d1, f1, e, S⟩ => ?_
      subst e
      have J := J.join S
      simp only [List.cons_append, List.nil_append] at J
      refine vs ?_
      refine ⟨kept_base J3 J, ?_⟩
      refine x_call (toItem_ok _ _ _ (J.rd (H.rd h1)) hs1) fun _ wb ⟨d2, f2, e, S⟩ => ?_
      subst e
      have J := J.join S
      simp only [List.cons_append, List.nil_append] at J
      refine vs ?_
      refine ⟨kept_base J3 J, ?_⟩
      refine x_call (specDrop_ok _ _ x0 _ x1 (J.own (fp := f1) (x := x0) (by repeat (first | exact List.mem_cons_self | apply List.mem_cons_of_mem))) (J.own (fp := f2) (x := x1) (by repeat (first | exact List.mem_cons_self | apply List.mem_cons_of_mem))) hs0 hs1) fun _ wc ⟨v3_0, f3_0, e, S⟩ => ?_
      subst e
      have J := J.join S
      simp only [List.cons_append, List.nil_append] at J
      obtain ⟨t3_0_0, t3_0_2, rfl, _⟩ := kPost_open (J.own (.head _))
      refine vs ?_
      refine ⟨kept_base J3 J, ?_⟩
      refine qx_extract0 ?_
      refine vs ?_
      refine qx_extract1 ?_
      refine vs ?_
      refine x_sta J st37 (vs := [t3_0_0, .int .i64 (dropP x0 x1).1.f_Time, t3_0_2, .int .i64 (dropP x0 x1).1.f_Sure]) (h1 := Kd.one _ (J.own (fp := f3_0) (x := (dropP x0 x1).1) (by repeat (first | exact List.mem_cons_self | apply List.mem_cons_of_mem)))) fun we J => vs ?_
      refine ⟨kept_base J3 J, ?_⟩
      have H := H.join J
      simp only [List.cons_append, List.nil_append] at H
      have H := H.front (c := Ck.box g0 [a0_0, .int .i64 x0.f_Time, a0_2, .int .i64 x0.f_Sure] 33)
      have H := H.front (c := Ck.box g1 [.string ⟨(x1.f_Route).toArray⟩, .int .i64 x1.f_Topic, .int .i64 x1.f_Due, a1_3] 48)
      have H := H.front (c := Ck.own kPost f1 d1 x0)
      have H := H.front (c := Ck.own kItem f2 d2 x1)
      have H := H.front (c := Ck.own kPost f3_0 [t3_0_0, .int .i64 (dropP x0 x1).1.f_Time, t3_0_2, .int .i64 (dropP x0 x1).1.f_Sure] (dropP x0 x1).1)
      have H := H.front (c := Ck.box b3_0 [t3_0_0, .int .i64 (dropP x0 x1).1.f_Time, t3_0_2, .int .i64 (dropP x0 x1).1.f_Sure] 37)
      exact ⟨(b3_0, f3_0, t3_0_0, t3_0_2, d1, f1, d2, f2), vs trivial, Sep.left (L := [_, _, _, _, _, _]) H⟩
  rintro ⟨b3_0, f3_0, t3_0_0, t3_0_2, d1, f1, d2, f2⟩ s9 w9 H
  dsimp only at H
  refine vs ?_
  refine x_lda H st33 ?_
  refine vs ?_
  refine x_call (toPost_ok w9 _ _ (H.rd h0) hs0) fun _ w10 ⟨d4, f4, e, S⟩ => ?_
  subst e
  have H := H.join S
  simp only [List.cons_append, List.nil_append] at H
  refine vs ?_
  refine x_al H st37 fun b0 w11 H => vs ?_
  obtain ⟨t0_0, t0_2, rfl, _⟩ := kPost_open (H.own (.tail _ (.head _)))
  refine x_sta H st37 (h1 := Kd.one _ (H.own (.tail _ (.head _)))) fun w12 H => vs ?_
  refine x_lda H st48 ?_
  refine vs ?_
  refine x_call (toItem_ok w12 _ _ (H.rd h1) hs1) fun _ w13 ⟨d5, f5, e, S⟩ => ?_
  subst e
  have H := H.join S
  simp only [List.cons_append, List.nil_append] at H
  refine vs ?_
  refine x_al H st51 fun b1 w14 H => vs ?_
  obtain ⟨t1_3, rfl, _⟩ := kItem_open (H.own (.tail _ (.head _)))
  refine x_sta H st51 (h1 := Kd.one _ (H.own (.tail _ (.head _)))) fun w15 H => vs ?_
  refine x_lda H st37 ?_
  refine vs ?_
  refine x_lda H st51 ?_
  refine vs ?_
  refine x_call (implDrop_ok w15 _ x0 _ x1 (H.own (.tail _ (.tail _ (.tail _ (.head _))))) (H.own (.tail _ (.head _))) hs0 hs1) fun _ w16 ⟨v6_0, f6_0, e6, S⟩ => ?_
  subst e6
  have H := H.join S
  simp only [List.cons_append, List.nil_append] at H
  obtain ⟨t6_0_0, t6_0_2, rfl, _⟩ := kPost_open (H.own (.head _))
  refine vs ?_
  refine x_al H st37 fun b6_0 w17 H => vs ?_
  refine x_sta H st37 (h1 := Kd.one _ (H.own (.tail _ (.head _)))) fun w18 H => vs ?_
  refine x_lda H st37 ?_
  refine vs ?_
  refine x_lda H st37 ?_
  refine vs ?_
  refine x_callb H (eqPost_ok w18 _ _ _ (H.own (.tail _ (.head _))) (H.own (.tail _ (.tail _ (.tail _ (.tail _ (.tail _ (.tail _ (.tail _ (.head _)))))))))) fun w19 H => vs ?_
  refine draw_at [(0, true), (1, true), (2, false), (3, false), (4, true)] fun w20 hh hb => vs ?_
  have H := H.go (hb _)
  refine q_lda H st37 ?_
  refine vs ?_
  refine q_lda H st33 ?_
  refine vs ?_
  refine x_call (toPost_ok w20 _ _ (H.rd h0) hs0) fun _ w21 ⟨d7, f7, e, S⟩ => ?_
  subst e
  have HK := kept_of S.bel (Nat.le_refl _)
  have H := H.join S
  simp only [List.cons_append, List.nil_append] at H
  refine vs ?_
  refine ⟨HK, ?_⟩
  refine x_call (eqPost_ok w21 _ _ x0 (H.own (.tail _ (.tail _ (.tail _ (.tail _ (.tail _ (.tail _ (.head _)))))))) (H.own (.head _))) fun _ w22 ⟨e, hb⟩ => ?_
  subst e
  have H := H.go hb
  refine vs ?_
  refine ⟨HK.below (hb.mono (HK.1 (Nat.le_refl _))), ?_⟩
  refine draw_at [(0, true), (1, true), (2, false), (3, false), (4, true)] fun w23 hh hb => vs ?_
  have H := H.go (hb _)
  refine q_lda H st51 ?_
  refine vs ?_
  refine q_lda H st48 ?_
  refine vs ?_
  refine x_call (toItem_ok w23 _ _ (H.rd h1) hs1) fun _ w24 ⟨d8, f8, e, S⟩ => ?_
  subst e
  have HK := kept_of S.bel (Nat.le_refl _)
  have H := H.join S
  simp only [List.cons_append, List.nil_append] at H
  refine vs ?_
  refine ⟨HK, ?_⟩
  refine x_call (eqItem_ok w24 _ _ x1 (H.own (.tail _ (.tail _ (.tail _ (.tail _ (.tail _ (.head _))))))) (H.own (.head _))) fun _ w25 ⟨e, hb⟩ => ?_
  subst e
  have H := H.go hb
  refine vs ?_
  refine ⟨HK.below (hb.mono (HK.1 (Nat.le_refl _))), ?_⟩
  have ht0 := totPost_le hs0
  have ht1 := totItem_le hs1
  refine x_lda H st37 ?_
  refine vs ?_
  have H := H.front (h := (.there (.there (.there (.there (.there (.there (.there .here))))))))
  refine x_call (markPost_ok H (1) (by omega)) fun _ w26 ⟨e, fm9, H⟩ => ?_
  subst e
  refine vs ?_
  refine x_lda H st51 ?_
  refine vs ?_
  have H := H.front (h := (.there (.there (.there (.there (.there (.there .here)))))))
  refine x_call (markItem_ok H (1 + (totPost (x0))) (by omega)) fun _ w27 ⟨e, fm10, H⟩ => ?_
  subst e
  have nk : ¬ ((1 + (totPost (x0)) + (totItem (x1)) : Nat) : Int) < 0 := by omega
  refine ve nk ?_
  refine x_lda H st37 ?_
  refine vs ?_
  refine x_lda H st37 ?_
  refine vs ?_
  refine x_callb H (eqPost_ok w27 _ _ _ (H.own (.tail _ (.tail _ (.tail _ (.tail _ (.tail _ (.head _))))))) (H.own (.tail _ (.tail _ (.tail _ (.tail _ (.tail _ (.tail _ (.tail _ (.tail _ (.tail _ (.head _)))))))))))) fun w28 H => vs ?_
  have hg0 : (totPost ((dropP x0 x1).1)) ≤ 1152921504606846976 := (by have := totPost_le (dropP_sm (x := x1) hs0); omega)
  refine x_lda H st37 ?_
  refine vs ?_
  have H := H.front (h := (.there (.there (.there (.there (.there .here))))))
  refine x_call (markPost_ok H (1) (by omega)) fun _ w29 ⟨e, fm11, H⟩ => ?_
  subst e
  refine vs ?_
  refine x_lda H st37 ?_
  refine vs ?_
  refine x_callb H (heldPost_ok w29 _ ((dropP x0 x1).1) (1) (H.own (.head _)) (by omega)) fun w30 H => ?_
  have nn12 : ¬ ((1 + (totPost ((dropP x0 x1).1)) : Nat) : Int) < 0 := by omega
  refine ve nn12 ?_
  have J := Sep.start w30
  refine fork_draw w30.heap.size [] fun wz hh hbz => ?_
  have J := J.go (hbz _)
  have J3 := J
  refine rest_pre [(0, true), (2, true)] 9 ?_
  refine vs ?_
  refine q_ldaB H J3 st33 ?_
  refine vs ?_
  refine q_ldaB H J3 st48 ?_
  refine vs ?_
  refine rest_fork 1 8 8 ?_ ?_
  · refine vs ?_
    refine x_call (toPost_ok _ _ _ (J.rd (H.rd h0)) hs0) fun _ wa ⟨d13, f13, e, S⟩ => ?_
    subst e
    have J := J.join S
    simp only [List.cons_append, List.nil_append] at J
    refine vs ?_
    refine ⟨kept_base J3 J, ?_⟩
    refine rest_fork 3 8 7 ?_ ?_
    · refine vs ?_
      refine x_call (toItem_ok _ _ _ (J.rd (H.rd h1)) hs1) fun _ wb ⟨d14, f14, e, S⟩ => ?_
      subst e
      have J := J.join S
      simp only [List.cons_append, List.nil_append] at J
      refine vs ?_
      refine ⟨kept_base J3 J, ?_⟩
      refine rest_fork 4 8 6 ?_ ?_
      · refine vs ?_
        refine x_call (implDrop_ok _ _ x0 _ x1 (J.own (fp := f13) (x := x0) (by repeat (first | exact List.mem_cons_self | apply List.mem_cons_of_mem))) (J.own (fp := f14) (x := x1) (by repeat (first | exact List.mem_cons_self | apply List.mem_cons_of_mem))) hs0 hs1) fun _ wc ⟨v15_0, f15_0, e, S⟩ => ?_
        subst e
        have J := J.join S
        simp only [List.cons_append, List.nil_append] at J
        obtain ⟨t15_0_0, t15_0_2, rfl, _⟩ := kPost_open (J.own (.head _))
        refine vs ?_
        refine ⟨kept_base J3 J, ?_⟩
        refine rest_end [(5, true), (6, true), (7, true), (8, false), (9, false), (10, true)] ?_
        refine vs ?_
        refine qx_extract0 ?_
        refine vs ?_
        refine qx_extract1 ?_
        refine vs ?_
        refine x_al J st37 fun b15_0 wd J => vs ?_
        refine ⟨kept_base J3 J, ?_⟩
        refine x_sta J st37 (vs := [t15_0_0, .int .i64 (dropP x0 x1).1.f_Time, t15_0_2, .int .i64 (dropP x0 x1).1.f_Sure]) (h1 := Kd.one _ (J.own (fp := f15_0) (x := (dropP x0 x1).1) (by repeat (first | exact List.mem_cons_self | apply List.mem_cons_of_mem)))) fun we J => vs ?_
        refine ⟨kept_base J3 J, ?_⟩
        have H := H.join J
        simp only [List.cons_append, List.nil_append] at H
        refine x_lda H st37 ?_
        refine vs ?_
        refine x_lda H st37 ?_
        refine vs ?_
        refine x_callb H (eqPost_ok _ _ _ _ (H.own (fp := f15_0) (x := (dropP x0 x1).1) (by repeat (first | exact List.mem_cons_self | apply List.mem_cons_of_mem))) (H.own (fp := f3_0) (x := (dropP x0 x1).1) (by repeat (first | exact List.mem_cons_self | apply List.mem_cons_of_mem)))) fun wp H => vs ?_
        refine x_lda H st37 ?_
        refine vs ?_
        refine x_callb H (heldPost_ok wp _ ((dropP x0 x1).1) (1) (H.own (fp := fm11) (x := mkPost (dropP x0 x1).1 1) (by repeat (first | exact List.mem_cons_self | apply List.mem_cons_of_mem))) (by omega)) fun wq H => ?_
        have nn16 : ¬ ((1 + (totPost ((dropP x0 x1).1)) : Nat) : Int) < 0 := by omega
        refine ve nn16 ?_
        exact H.bel
      · refine vs ?_
        refine x_al J st37 fun b15_0 wd J => vs ?_
        refine ⟨kept_base J3 J, ?_⟩
        refine rest_end [(4, false), (5, true), (6, true), (7, true), (9, false), (10, true)] ?_
        refine vs ?_
        refine x_call (implDrop_ok _ _ x0 _ x1 (J.own (fp := f13) (x := x0) (by repeat (first | exact List.mem_cons_self | apply List.mem_cons_of_mem))) (J.own (fp := f14) (x := x1) (by repeat (first | exact List.mem_cons_self | apply List.mem_cons_of_mem))) hs0 hs1) fun _ wc ⟨v15_0, f15_0, e, S⟩ => ?_
        subst e
        have J := J.join S
        simp only [List.cons_append, List.nil_append] at J
        obtain ⟨t15_0_0, t15_0_2, rfl, _⟩ := kPost_open (J.own (.head _))
        refine vs ?_
        refine ⟨kept_base J3 J, ?_⟩
        refine qx_extract0 ?_
        refine vs ?_
        refine qx_extract1 ?_
        refine vs ?_
        refine x_sta J st37 (vs := [t15_0_0, .int .i64 (dropP x0 x1).1.f_Time, t15_0_2, .int .i64 (dropP x0 x1).1.f_Sure]) (h1 := Kd.one _ (J.own (fp := f15_0) (x := (dropP x0 x1).1) (by repeat (first | exact List.mem_cons_self | apply List.mem_cons_of_mem)))) fun we J => vs ?_
        refine ⟨kept_base J3 J, ?_⟩
        have H := H.join J
        simp only [List.cons_append, List.nil_append] at H
        refine x_lda H st37 ?_
        refine vs ?_
        refine x_lda H st37 ?_
        refine vs ?_
        refine x_callb H (eqPost_ok _ _ _ _ (H.own (fp := f15_0) (x := (dropP x0 x1).1) (by repeat (first | exact List.mem_cons_self | apply List.mem_cons_of_mem))) (H.own (fp := f3_0) (x := (dropP x0 x1).1) (by repeat (first | exact List.mem_cons_self | apply List.mem_cons_of_mem)))) fun wp H => vs ?_
        refine x_lda H st37 ?_
        refine vs ?_
        refine x_callb H (heldPost_ok wp _ ((dropP x0 x1).1) (1) (H.own (fp := fm11) (x := mkPost (dropP x0 x1).1 1) (by repeat (first | exact List.mem_cons_self | apply List.mem_cons_of_mem))) (by omega)) fun wq H => ?_
        have nn16 : ¬ ((1 + (totPost ((dropP x0 x1).1)) : Nat) : Int) < 0 := by omega
        refine ve nn16 ?_
        exact H.bel
    · refine vs ?_
      refine x_al J st37 fun b15_0 wd J => vs ?_
      refine ⟨kept_base J3 J, ?_⟩
      refine rest_end [(3, false), (4, false), (5, true), (6, true), (7, true), (9, false), (10, true)] ?_
      refine vs ?_
      refine x_call (toItem_ok _ _ _ (J.rd (H.rd h1)) hs1) fun _ wb ⟨d14, f14, e, S⟩ => ?_
      subst e
      have J := J.join S
      simp only [List.cons_append, List.nil_append] at J
      refine vs ?_
      refine ⟨kept_base J3 J, ?_⟩
      refine x_call (implDrop_ok _ _ x0 _ x1 (J.own (fp := f13) (x := x0) (by repeat (first | exact List.mem_cons_self | apply List.mem_cons_of_mem))) (J.own (fp := f14) (x := x1) (by repeat (first | exact List.mem_cons_self | apply List.mem_cons_of_mem))) hs0 hs1) fun _ wc ⟨v15_0, f15_0, e, S⟩ => ?_
      subst e
      have J := J.join S
      simp only [List.cons_append, List.nil_append] at J
      obtain ⟨t15_0_0, t15_0_2, rfl, _⟩ := kPost_open (J.own (.head _))
      refine vs ?_
      refine ⟨kept_base J3 J, ?_⟩
      refine qx_extract0 ?_
      refine vs ?_
      refine qx_extract1 ?_
      refine vs ?_
      refine x_sta J st37 (vs := [t15_0_0, .int .i64 (dropP x0 x1).1.f_Time, t15_0_2, .int .i64 (dropP x0 x1).1.f_Sure]) (h1 := Kd.one _ (J.own (fp := f15_0) (x := (dropP x0 x1).1) (by repeat (first | exact List.mem_cons_self | apply List.mem_cons_of_mem)))) fun we J => vs ?_
      refine ⟨kept_base J3 J, ?_⟩
      have H := H.join J
      simp only [List.cons_append, List.nil_append] at H
      refine x_lda H st37 ?_
      refine vs ?_
      refine x_lda H st37 ?_
      refine vs ?_
      refine x_callb H (eqPost_ok _ _ _ _ (H.own (fp := f15_0) (x := (dropP x0 x1).1) (by repeat (first | exact List.mem_cons_self | apply List.mem_cons_of_mem))) (H.own (fp := f3_0) (x := (dropP x0 x1).1) (by repeat (first | exact List.mem_cons_self | apply List.mem_cons_of_mem)))) fun wp H => vs ?_
      refine x_lda H st37 ?_
      refine vs ?_
      refine x_callb H (heldPost_ok wp _ ((dropP x0 x1).1) (1) (H.own (fp := fm11) (x := mkPost (dropP x0 x1).1 1) (by repeat (first | exact List.mem_cons_self | apply List.mem_cons_of_mem))) (by omega)) fun wq H => ?_
      have nn16 : ¬ ((1 + (totPost ((dropP x0 x1).1)) : Nat) : Int) < 0 := by omega
      refine ve nn16 ?_
      exact H.bel
  · refine vs ?_
    refine x_al J st37 fun b15_0 wd J => vs ?_
    refine ⟨kept_base J3 J, ?_⟩
    refine rest_end [(1, false), (3, false), (4, false), (5, true), (6, true), (7, true), (9, false), (10, true)] ?_
    refine vs ?_
    refine x_call (toPost_ok _ _ _ (J.rd (H.rd h0)) hs0) fun _ wa ⟨d13, f13, e, S⟩ => ?_
    subst e
    have J := J.join S
    simp only [List.cons_append, List.nil_append] at J
    refine vs ?_
    refine ⟨kept_base J3 J, ?_⟩
    refine x_call (toItem_ok _ _ _ (J.rd (H.rd h1)) hs1) fun _ wb ⟨d14, f14, e, S⟩ => ?_
    subst e
    have J := J.join S
    simp only [List.cons_append, List.nil_append] at J
    refine vs ?_
    refine ⟨kept_base J3 J, ?_⟩
    refine x_call (implDrop_ok _ _ x0 _ x1 (J.own (fp := f13) (x := x0) (by repeat (first | exact List.mem_cons_self | apply List.mem_cons_of_mem))) (J.own (fp := f14) (x := x1) (by repeat (first | exact List.mem_cons_self | apply List.mem_cons_of_mem))) hs0 hs1) fun _ wc ⟨v15_0, f15_0, e, S⟩ => ?_
    subst e
    have J := J.join S
    simp only [List.cons_append, List.nil_append] at J
    obtain ⟨t15_0_0, t15_0_2, rfl, _⟩ := kPost_open (J.own (.head _))
    refine vs ?_
    refine ⟨kept_base J3 J, ?_⟩
    refine qx_extract0 ?_
    refine vs ?_
    refine qx_extract1 ?_
    refine vs ?_
    refine x_sta J st37 (vs := [t15_0_0, .int .i64 (dropP x0 x1).1.f_Time, t15_0_2, .int .i64 (dropP x0 x1).1.f_Sure]) (h1 := Kd.one _ (J.own (fp := f15_0) (x := (dropP x0 x1).1) (by repeat (first | exact List.mem_cons_self | apply List.mem_cons_of_mem)))) fun we J => vs ?_
    refine ⟨kept_base J3 J, ?_⟩
    have H := H.join J
    simp only [List.cons_append, List.nil_append] at H
    refine x_lda H st37 ?_
    refine vs ?_
    refine x_lda H st37 ?_
    refine vs ?_
    refine x_callb H (eqPost_ok _ _ _ _ (H.own (fp := f15_0) (x := (dropP x0 x1).1) (by repeat (first | exact List.mem_cons_self | apply List.mem_cons_of_mem))) (H.own (fp := f3_0) (x := (dropP x0 x1).1) (by repeat (first | exact List.mem_cons_self | apply List.mem_cons_of_mem)))) fun wp H => vs ?_
    refine x_lda H st37 ?_
    refine vs ?_
    refine x_callb H (heldPost_ok wp _ ((dropP x0 x1).1) (1) (H.own (fp := fm11) (x := mkPost (dropP x0 x1).1 1) (by repeat (first | exact List.mem_cons_self | apply List.mem_cons_of_mem))) (by omega)) fun wq H => ?_
    have nn16 : ¬ ((1 + (totPost ((dropP x0 x1).1)) : Nat) : Int) < 0 := by omega
    refine ve nn16 ?_
    exact H.bel
end Go.Proofs.Ytdljbekkckfmnaa.V
