/- The law FnPosts, walked. Laid by a program. -/
import Derived.Test.YtdljbekkckfmnaaGreatWdt
import Derived.Test.YtdljbekkckfmnaaGreatWsq
namespace Go.Proofs.YtdljbekkckfmnaaGreat.V
open Go Go.RowKit
set_option maxRecDepth 100000
set_option maxHeartbeats 16000000
set_option linter.unusedSimpArgs false
set_option linter.unusedVariables false
set_option pp.deepTerms false
set_option pp.deepTerms.threshold 3

theorem bigO_ok (w : World) (v : Value) (a : List UInt8) (h : (bytes 5).rd w w.heap.size [v] a) :
    ACalls Tryz.prog 9 #[v] w fun r w' => r = .bool (decide (1048576 < (a.length : Int))) ∧ w' = w := by
  obtain ⟨A, c, rfl, _, _, _⟩ := sl_open h
  refine body_of follows Tryz.func9 rfl rfl _ rfl (by kernel_rfl) (vs ?_)
  first | trivial | rfl | exact ⟨rfl, rfl⟩
theorem lawsSamePost_eq (w : World) (cs ds : List Value) (p q : MPost) (e : p = q) (h : kPost.rd w w.heap.size cs p) (h' : kPost.rd w w.heap.size ds q) :
    ACalls Tryz.prog 31 #[.agg cs.toArray, .agg ds.toArray] w fun r w' => r = .bool true ∧ Below w.heap.size w w' := by
  subst e; exact lawsSamePost_ok w cs ds p h h'

theorem FnPosts_ok (w0 : World) (v0 : Value) (x0 : List UInt8) (h0 : (bytes 5).rd w0 w0.heap.size [v0] x0) :
    ACalls Tryz.prog 4 #[v0] w0 fun r w' => r = .bool true ∧ Below w0.heap.size w0 w' := by
  refine body_of follows Tryz.func4 rfl rfl _ rfl (by kernel_rfl) (vs ?_)
  refine x_callw (bigO_ok w0 v0 x0 h0) ?_
  by_cases q0 : 1048576 < (x0.length : Int)
  · refine ve q0 ?_
    exact Below.refl ..
  refine ve q0 ?_
  refine x_call (drawDrop_ok w0 v0 x0 h0) fun _ w1 ⟨cs, fp, p, ds, fi, x, e, hsm, hx, H⟩ => ?_
  subst e
  obtain ⟨p1, p2, rfl, _⟩ := kPost_open (H.own (d := kPost) (fp := fp) (cs := cs) (x := p) (by repeat (first | exact List.mem_cons_self | apply List.mem_cons_of_mem)))
  obtain ⟨x1, rfl, _⟩ := kItem_open (H.own (d := kItem) (fp := fi) (cs := ds) (x := x) (by repeat (first | exact List.mem_cons_self | apply List.mem_cons_of_mem)))
  refine vs ?_
  refine x_al H st26 fun g3 w2 H => vs ?_
  refine x_al H st32 fun g4 w3 H => vs ?_
  refine x_sta H st26 (vs := [p1, .int .i64 p.f_Time, p2, .int .i64 p.f_Sure]) (h1 := Kd.one _ (H.own (d := kPost) (fp := fp) (cs := [p1, .int .i64 p.f_Time, p2, .int .i64 p.f_Sure]) (x := p) (by repeat (first | exact List.mem_cons_self | apply List.mem_cons_of_mem)))) fun w4 H => vs ?_
  refine x_sta H st32 (vs := [.string ⟨x.f_Route.toArray⟩, .int .i64 x.f_Topic, .int .i64 x.f_Due, x1]) (h1 := Kd.one _ (H.own (d := kItem) (fp := fi) (cs := [.string ⟨x.f_Route.toArray⟩, .int .i64 x.f_Topic, .int .i64 x.f_Due, x1]) (x := x) (by repeat (first | exact List.mem_cons_self | apply List.mem_cons_of_mem)))) fun w5 H => vs ?_
  refine x_lda H st26 ?_
  refine vs ?_
  refine x_lda H st32 ?_
  refine vs ?_
  refine x_call (implDrop_ok w5 _ p _ x (H.own (d := kPost) (fp := fp) (cs := [p1, .int .i64 p.f_Time, p2, .int .i64 p.f_Sure]) (x := p) (by repeat (first | exact List.mem_cons_self | apply List.mem_cons_of_mem))) (H.own (d := kItem) (fp := fi) (cs := [.string ⟨x.f_Route.toArray⟩, .int .i64 x.f_Topic, .int .i64 x.f_Due, x1]) (x := x) (by repeat (first | exact List.mem_cons_self | apply List.mem_cons_of_mem))) hsm hx.sm) fun _ w6 ⟨cs2, fp2, e, S⟩ => ?_
  obtain ⟨D, hD⟩ : ∃ D, D = dropP p x := ⟨_, rfl⟩
  rw [← hD] at e S
  subst e
  have H := H.join S
  simp only [List.cons_append, List.nil_append] at H
  obtain ⟨a1, a2, rfl, _⟩ := kPost_open (H.own (d := kPost) (fp := fp2) (cs := cs2) (x := D.1) (by repeat (first | exact List.mem_cons_self | apply List.mem_cons_of_mem)))
  refine vs ?_
  refine x_al H st26 fun g5 w7 H => vs ?_
  refine x_sta H st26 (vs := [a1, .int .i64 D.1.f_Time, a2, .int .i64 D.1.f_Sure]) (h1 := Kd.one _ (H.own (d := kPost) (fp := fp2) (cs := [a1, .int .i64 D.1.f_Time, a2, .int .i64 D.1.f_Sure]) (x := D.1) (by repeat (first | exact List.mem_cons_self | apply List.mem_cons_of_mem)))) fun w8 H => vs ?_
  refine x_lda H st26 ?_
  refine vs ?_
  refine x_lda H st32 ?_
  refine vs ?_
  refine x_call (specDrop_ok w8 _ p _ x (H.own (d := kPost) (fp := fp) (cs := [p1, .int .i64 p.f_Time, p2, .int .i64 p.f_Sure]) (x := p) (by repeat (first | exact List.mem_cons_self | apply List.mem_cons_of_mem))) (H.own (d := kItem) (fp := fi) (cs := [.string ⟨x.f_Route.toArray⟩, .int .i64 x.f_Topic, .int .i64 x.f_Due, x1]) (x := x) (by repeat (first | exact List.mem_cons_self | apply List.mem_cons_of_mem))) hsm hx.sm) fun _ w9 ⟨cs3, fp3, e, S⟩ => ?_
  rw [← hD] at e S
  subst e
  have H := H.join S
  simp only [List.cons_append, List.nil_append] at H
  obtain ⟨b1, b2, rfl, _⟩ := kPost_open (H.own (d := kPost) (fp := fp3) (cs := cs3) (x := D.1) (by repeat (first | exact List.mem_cons_self | apply List.mem_cons_of_mem)))
  refine vs ?_
  refine x_al H st26 fun g7 w10 H => vs ?_
  refine x_sta H st26 (vs := [b1, .int .i64 D.1.f_Time, b2, .int .i64 D.1.f_Sure]) (h1 := Kd.one _ (H.own (d := kPost) (fp := fp3) (cs := [b1, .int .i64 D.1.f_Time, b2, .int .i64 D.1.f_Sure]) (x := D.1) (by repeat (first | exact List.mem_cons_self | apply List.mem_cons_of_mem)))) fun w11 H => vs ?_
  refine x_call (drawFetch_ok w11 v0 x0 (H.rd h0)) fun _ w12 ⟨cs4, fp4, f, R, e, hsmf, hR, S⟩ => ?_
  subst e
  have H := H.join S
  simp only [List.cons_append, List.nil_append] at H
  obtain ⟨f1, f2, rfl, _⟩ := kPost_open (H.own (d := kPost) (fp := fp4) (cs := cs4) (x := f) (by repeat (first | exact List.mem_cons_self | apply List.mem_cons_of_mem)))
  refine vs ?_
  refine x_al H st26 fun g9 w13 H => vs ?_
  refine x_sta H st26 (vs := [f1, .int .i64 f.f_Time, f2, .int .i64 f.f_Sure]) (h1 := Kd.one _ (H.own (d := kPost) (fp := fp4) (cs := [f1, .int .i64 f.f_Time, f2, .int .i64 f.f_Sure]) (x := f) (by repeat (first | exact List.mem_cons_self | apply List.mem_cons_of_mem)))) fun w14 H => vs ?_
  refine x_lda H st26 ?_
  refine vs ?_
  refine x_call (implFetch_ok w14 _ f R (H.own (d := kPost) (fp := fp4) (cs := [f1, .int .i64 f.f_Time, f2, .int .i64 f.f_Sure]) (x := f) (by repeat (first | exact List.mem_cons_self | apply List.mem_cons_of_mem))) hsmf (by omega)) fun _ w15 ⟨cs5, fp5, ds5, fi5, e, S⟩ => ?_
  obtain ⟨E, hE⟩ : ∃ E, E = fetchP f R := ⟨_, rfl⟩
  rw [← hE] at e S
  subst e
  have H := H.join S
  simp only [List.cons_append, List.nil_append] at H
  obtain ⟨c1, c2, rfl, _⟩ := kPost_open (H.own (d := kPost) (fp := fp5) (cs := cs5) (x := E.1) (by repeat (first | exact List.mem_cons_self | apply List.mem_cons_of_mem)))
  obtain ⟨y1, rfl, _⟩ := kItem_open (H.own (d := kItem) (fp := fi5) (cs := ds5) (x := E.2.1) (by repeat (first | exact List.mem_cons_self | apply List.mem_cons_of_mem)))
  refine vs ?_
  refine x_al H st26 fun g11 w16 H => vs ?_
  refine x_al H st32 fun g12 w17 H => vs ?_
  refine x_sta H st26 (vs := [c1, .int .i64 E.1.f_Time, c2, .int .i64 E.1.f_Sure]) (h1 := Kd.one _ (H.own (d := kPost) (fp := fp5) (cs := [c1, .int .i64 E.1.f_Time, c2, .int .i64 E.1.f_Sure]) (x := E.1) (by repeat (first | exact List.mem_cons_self | apply List.mem_cons_of_mem)))) fun w18 H => vs ?_
  refine x_sta H st32 (vs := [.string ⟨E.2.1.f_Route.toArray⟩, .int .i64 E.2.1.f_Topic, .int .i64 E.2.1.f_Due, y1]) (h1 := Kd.one _ (H.own (d := kItem) (fp := fi5) (cs := [.string ⟨E.2.1.f_Route.toArray⟩, .int .i64 E.2.1.f_Topic, .int .i64 E.2.1.f_Due, y1]) (x := E.2.1) (by repeat (first | exact List.mem_cons_self | apply List.mem_cons_of_mem)))) fun w19 H => vs ?_
  refine x_lda H st26 ?_
  refine vs ?_
  refine x_call (specFetch_ok w19 _ f R (H.own (d := kPost) (fp := fp4) (cs := [f1, .int .i64 f.f_Time, f2, .int .i64 f.f_Sure]) (x := f) (by repeat (first | exact List.mem_cons_self | apply List.mem_cons_of_mem))) hsmf (by omega)) fun _ w20 ⟨cs6, fp6, ds6, fi6, e, S⟩ => ?_
  rw [← hE] at e S
  subst e
  have H := H.join S
  simp only [List.cons_append, List.nil_append] at H
  obtain ⟨d1, d2, rfl, _⟩ := kPost_open (H.own (d := kPost) (fp := fp6) (cs := cs6) (x := E.1) (by repeat (first | exact List.mem_cons_self | apply List.mem_cons_of_mem)))
  obtain ⟨y2, rfl, _⟩ := kItem_open (H.own (d := kItem) (fp := fi6) (cs := ds6) (x := E.2.1) (by repeat (first | exact List.mem_cons_self | apply List.mem_cons_of_mem)))
  refine vs ?_
  refine x_al H st26 fun g14 w21 H => vs ?_
  refine x_al H st32 fun g15 w22 H => vs ?_
  refine x_sta H st26 (vs := [d1, .int .i64 E.1.f_Time, d2, .int .i64 E.1.f_Sure]) (h1 := Kd.one _ (H.own (d := kPost) (fp := fp6) (cs := [d1, .int .i64 E.1.f_Time, d2, .int .i64 E.1.f_Sure]) (x := E.1) (by repeat (first | exact List.mem_cons_self | apply List.mem_cons_of_mem)))) fun w23 H => vs ?_
  refine x_sta H st32 (vs := [.string ⟨E.2.1.f_Route.toArray⟩, .int .i64 E.2.1.f_Topic, .int .i64 E.2.1.f_Due, y2]) (h1 := Kd.one _ (H.own (d := kItem) (fp := fi6) (cs := [.string ⟨E.2.1.f_Route.toArray⟩, .int .i64 E.2.1.f_Topic, .int .i64 E.2.1.f_Due, y2]) (x := E.2.1) (by repeat (first | exact List.mem_cons_self | apply List.mem_cons_of_mem)))) fun w24 H => vs ?_
  refine x_call (drawTick_ok w24 v0 x0 (H.rd h0)) fun _ w25 ⟨cs7, fp7, t, X, e, hsmt, hX, S⟩ => ?_
  subst e
  have H := H.join S
  simp only [List.cons_append, List.nil_append] at H
  obtain ⟨t1, t2, rfl, _⟩ := kPost_open (H.own (d := kPost) (fp := fp7) (cs := cs7) (x := t) (by repeat (first | exact List.mem_cons_self | apply List.mem_cons_of_mem)))
  refine vs ?_
  refine x_al H st26 fun g17 w26 H => vs ?_
  refine x_sta H st26 (vs := [t1, .int .i64 t.f_Time, t2, .int .i64 t.f_Sure]) (h1 := Kd.one _ (H.own (d := kPost) (fp := fp7) (cs := [t1, .int .i64 t.f_Time, t2, .int .i64 t.f_Sure]) (x := t) (by repeat (first | exact List.mem_cons_self | apply List.mem_cons_of_mem)))) fun w27 H => vs ?_
  refine x_lda H st26 ?_
  refine vs ?_
  refine x_call (implTick_ok w27 _ t X (H.own (d := kPost) (fp := fp7) (cs := [t1, .int .i64 t.f_Time, t2, .int .i64 t.f_Sure]) (x := t) (by repeat (first | exact List.mem_cons_self | apply List.mem_cons_of_mem))) hsmt hX) fun _ w28 ⟨cs8, fp8, e, S⟩ => ?_
  obtain ⟨U, hU⟩ : ∃ U, U = tickP t X := ⟨_, rfl⟩
  rw [← hU] at e S
  subst e
  have H := H.join S
  simp only [List.cons_append, List.nil_append] at H
  obtain ⟨e1, e2, rfl, _⟩ := kPost_open (H.own (d := kPost) (fp := fp8) (cs := cs8) (x := U.1) (by repeat (first | exact List.mem_cons_self | apply List.mem_cons_of_mem)))
  refine vs ?_
  refine x_al H st26 fun g19 w29 H => vs ?_
  refine x_sta H st26 (vs := [e1, .int .i64 U.1.f_Time, e2, .int .i64 U.1.f_Sure]) (h1 := Kd.one _ (H.own (d := kPost) (fp := fp8) (cs := [e1, .int .i64 U.1.f_Time, e2, .int .i64 U.1.f_Sure]) (x := U.1) (by repeat (first | exact List.mem_cons_self | apply List.mem_cons_of_mem)))) fun w30 H => vs ?_
  refine x_lda H st26 ?_
  refine vs ?_
  refine x_call (specTick_ok w30 _ t X (H.own (d := kPost) (fp := fp7) (cs := [t1, .int .i64 t.f_Time, t2, .int .i64 t.f_Sure]) (x := t) (by repeat (first | exact List.mem_cons_self | apply List.mem_cons_of_mem))) hsmt hX) fun _ w31 ⟨cs9, fp9, e, S⟩ => ?_
  rw [← hU] at e S
  subst e
  have H := H.join S
  simp only [List.cons_append, List.nil_append] at H
  obtain ⟨h1, h2, rfl, _⟩ := kPost_open (H.own (d := kPost) (fp := fp9) (cs := cs9) (x := U.1) (by repeat (first | exact List.mem_cons_self | apply List.mem_cons_of_mem)))
  refine vs ?_
  refine x_al H st26 fun g21 w32 H => vs ?_
  refine x_sta H st26 (vs := [h1, .int .i64 U.1.f_Time, h2, .int .i64 U.1.f_Sure]) (h1 := Kd.one _ (H.own (d := kPost) (fp := fp9) (cs := [h1, .int .i64 U.1.f_Time, h2, .int .i64 U.1.f_Sure]) (x := U.1) (by repeat (first | exact List.mem_cons_self | apply List.mem_cons_of_mem)))) fun w33 H => vs ?_
  refine x_call (drawSync_ok w33 v0 x0 (H.rd h0)) fun _ w34 ⟨cs10, fp10, s, e, hsms, S⟩ => ?_
  subst e
  have H := H.join S
  simp only [List.cons_append, List.nil_append] at H
  obtain ⟨s1, s2, rfl, _⟩ := kPost_open (H.own (d := kPost) (fp := fp10) (cs := cs10) (x := s) (by repeat (first | exact List.mem_cons_self | apply List.mem_cons_of_mem)))
  refine vs ?_
  refine x_call (drawPostOk_ok w34 v0 x0 (H.rd h0)) fun _ w35 ⟨cs11, fp11, q, e, hsmq, S⟩ => ?_
  subst e
  have H := H.join S
  simp only [List.cons_append, List.nil_append] at H
  obtain ⟨o1, o2, rfl, _⟩ := kPost_open (H.own (d := kPost) (fp := fp11) (cs := cs11) (x := q) (by repeat (first | exact List.mem_cons_self | apply List.mem_cons_of_mem)))
  refine vs ?_
  refine x_al H st26 fun g23 w36 H => vs ?_
  refine x_al H st26 fun g24 w37 H => vs ?_
  refine x_sta H st26 (vs := [s1, .int .i64 s.f_Time, s2, .int .i64 s.f_Sure]) (h1 := Kd.one _ (H.own (d := kPost) (fp := fp10) (cs := [s1, .int .i64 s.f_Time, s2, .int .i64 s.f_Sure]) (x := s) (by repeat (first | exact List.mem_cons_self | apply List.mem_cons_of_mem)))) fun w38 H => vs ?_
  refine x_sta H st26 (vs := [o1, .int .i64 q.f_Time, o2, .int .i64 q.f_Sure]) (h1 := Kd.one _ (H.own (d := kPost) (fp := fp11) (cs := [o1, .int .i64 q.f_Time, o2, .int .i64 q.f_Sure]) (x := q) (by repeat (first | exact List.mem_cons_self | apply List.mem_cons_of_mem)))) fun w39 H => vs ?_
  refine x_lda H st26 ?_
  refine vs ?_
  refine x_call (implSync_ok w39 _ s (H.own (d := kPost) (fp := fp10) (cs := [s1, .int .i64 s.f_Time, s2, .int .i64 s.f_Sure]) (x := s) (by repeat (first | exact List.mem_cons_self | apply List.mem_cons_of_mem))) hsms) fun _ w40 ⟨cs12, fp12, e, S⟩ => ?_
  obtain ⟨Y, hY⟩ : ∃ Y, Y = syncP s := ⟨_, rfl⟩
  have hsmY : smPost Y := by rw [hY]; exact syncP_tot hsms
  rw [← hY] at S
  subst e
  have H := H.join S
  simp only [List.cons_append, List.nil_append] at H
  obtain ⟨k1, k2, rfl, _, _, kb, _⟩ := kPost_open (H.own (d := kPost) (fp := fp12) (cs := cs12) (x := Y) (by repeat (first | exact List.mem_cons_self | apply List.mem_cons_of_mem)))
  obtain ⟨AY, cY, rfl, _⟩ := sl_open kb
  refine vs ?_
  refine x_al H st26 fun g25 w41 H => vs ?_
  refine x_sta H st26 (vs := [k1, .int .i64 Y.f_Time, .slice AY Y.f_Book.length cY, .int .i64 Y.f_Sure]) (h1 := Kd.one _ (H.own (d := kPost) (fp := fp12) (cs := [k1, .int .i64 Y.f_Time, .slice AY Y.f_Book.length cY, .int .i64 Y.f_Sure]) (x := Y) (by repeat (first | exact List.mem_cons_self | apply List.mem_cons_of_mem)))) fun w42 H => vs ?_
  refine cut_to (σ := Unit) (fun _ => [(3, .pointer (some ⟨g3, 0, none⟩)), (5, .pointer (some ⟨g5, 0, none⟩)), (6, .int .i64 D.2), (9, .pointer (some ⟨g9, 0, none⟩)), (10, .string ⟨R.toArray⟩), (11, .pointer (some ⟨g11, 0, none⟩)), (12, .pointer (some ⟨g12, 0, none⟩)), (13, .int .i64 E.2.2), (17, .pointer (some ⟨g17, 0, none⟩)), (18, .int .i64 X), (19, .pointer (some ⟨g19, 0, none⟩)), (20, .int .i64 U.2), (23, .pointer (some ⟨g23, 0, none⟩)), (25, .pointer (some ⟨g25, 0, none⟩)), (148, .bool false)])
    (fun _ w' => Sep w0.heap.size w0 w' [Ck.box g3 [p1, .int .i64 p.f_Time, p2, .int .i64 p.f_Sure] 26, Ck.box g5 [a1, .int .i64 D.1.f_Time, a2, .int .i64 D.1.f_Sure] 26, Ck.box g9 [f1, .int .i64 f.f_Time, f2, .int .i64 f.f_Sure] 26, Ck.box g11 [c1, .int .i64 E.1.f_Time, c2, .int .i64 E.1.f_Sure] 26, Ck.box g12 [.string ⟨E.2.1.f_Route.toArray⟩, .int .i64 E.2.1.f_Topic, .int .i64 E.2.1.f_Due, y1] 32, Ck.box g17 [t1, .int .i64 t.f_Time, t2, .int .i64 t.f_Sure] 26, Ck.box g19 [e1, .int .i64 U.1.f_Time, e2, .int .i64 U.1.f_Sure] 26, Ck.box g23 [s1, .int .i64 s.f_Time, s2, .int .i64 s.f_Sure] 26, Ck.box g25 [k1, .int .i64 Y.f_Time, .slice AY Y.f_Book.length cY, .int .i64 Y.f_Sure] 26, Ck.own kPost fp [p1, .int .i64 p.f_Time, p2, .int .i64 p.f_Sure] p, Ck.own kPost fp2 [a1, .int .i64 D.1.f_Time, a2, .int .i64 D.1.f_Sure] D.1, Ck.own kPost fp4 [f1, .int .i64 f.f_Time, f2, .int .i64 f.f_Sure] f, Ck.own kPost fp5 [c1, .int .i64 E.1.f_Time, c2, .int .i64 E.1.f_Sure] E.1, Ck.own kPost fp7 [t1, .int .i64 t.f_Time, t2, .int .i64 t.f_Sure] t, Ck.own kPost fp8 [e1, .int .i64 U.1.f_Time, e2, .int .i64 U.1.f_Sure] U.1, Ck.own kPost fp10 [s1, .int .i64 s.f_Time, s2, .int .i64 s.f_Sure] s, Ck.own kPost fp12 [k1, .int .i64 Y.f_Time, .slice AY Y.f_Book.length cY, .int .i64 Y.f_Sure] Y]) ?_ ?_
  · as_aux_lemma =>
      have J := Sep.start w42
      refine draw_of [(0, true), (1, true), (2, true), (3, true), (4, true), (5, true), (6, false), (7, true), (8, true), (9, true), (10, true), (11, true), (12, true), (13, true), (14, true), (15, true), (16, true), (17, false), (18, true), (19, true), (20, true), (21, true), (22, true), (23, false), (24, true), (25, true), (26, true), (27, true), (28, true), (29, true), (30, true), (31, true), (32, true), (33, true), (34, false), (35, true), (36, true), (37, true), (38, true), (39, true), (40, false), (41, false), (42, true), (43, true), (44, true), (45, true), (47, true), (46, false), (48, false), (49, true), (50, true), (51, true), (52, false), (53, false), (54, false), (55, true), (56, true), (57, true), (58, false), (59, false), (60, true), (61, true)] w42.heap.size [] fun w43 hh hb => vs ?_
      have J := J.go (hb _)
      have J3 := J
      refine q_ldaB H J3 st26 ?_
      refine vs ?_
      refine q_ldaB H J3 st26 ?_
      refine vs ?_
      refine x_callb J (lawsSamePost_ok w43 _ _ D.1 (J.rd (H.own (d := kPost) (fp := fp2) (cs := [a1, .int .i64 D.1.f_Time, a2, .int .i64 D.1.f_Sure]) (x := D.1) (by repeat (first | exact List.mem_cons_self | apply List.mem_cons_of_mem)))) (J.rd (H.own (d := kPost) (fp := fp3) (cs := [b1, .int .i64 D.1.f_Time, b2, .int .i64 D.1.f_Sure]) (x := D.1) (by repeat (first | exact List.mem_cons_self | apply List.mem_cons_of_mem))))) fun w44 J => ?_
      refine vs ?_
      refine ⟨kept_base J3 J, ?_⟩
      refine q_ldaB H J3 st26 ?_
      refine vs ?_
      refine q_ldaB H J3 st26 ?_
      refine vs ?_
      refine x_callb J (lawsSamePost_ok w44 _ _ E.1 (J.rd (H.own (d := kPost) (fp := fp5) (cs := [c1, .int .i64 E.1.f_Time, c2, .int .i64 E.1.f_Sure]) (x := E.1) (by repeat (first | exact List.mem_cons_self | apply List.mem_cons_of_mem)))) (J.rd (H.own (d := kPost) (fp := fp6) (cs := [d1, .int .i64 E.1.f_Time, d2, .int .i64 E.1.f_Sure]) (x := E.1) (by repeat (first | exact List.mem_cons_self | apply List.mem_cons_of_mem))))) fun w45 J => ?_
      refine vs ?_
      refine ⟨kept_base J3 J, ?_⟩
      refine q_ldaB H J3 st32 ?_
      refine vs ?_
      refine q_ldaB H J3 st32 ?_
      refine vs ?_
      refine x_callb J (lawsSameItem_ok w45 _ _ E.2.1 (J.rd (H.own (d := kItem) (fp := fi5) (cs := [.string ⟨E.2.1.f_Route.toArray⟩, .int .i64 E.2.1.f_Topic, .int .i64 E.2.1.f_Due, y1]) (x := E.2.1) (by repeat (first | exact List.mem_cons_self | apply List.mem_cons_of_mem)))) (J.rd (H.own (d := kItem) (fp := fi6) (cs := [.string ⟨E.2.1.f_Route.toArray⟩, .int .i64 E.2.1.f_Topic, .int .i64 E.2.1.f_Due, y2]) (x := E.2.1) (by repeat (first | exact List.mem_cons_self | apply List.mem_cons_of_mem))))) fun w46 J => ?_
      refine vs ?_
      refine ⟨kept_base J3 J, ?_⟩
      refine q_ldaB H J3 st26 ?_
      refine vs ?_
      refine q_ldaB H J3 st26 ?_
      refine vs ?_
      refine x_callb J (lawsSamePost_ok w46 _ _ U.1 (J.rd (H.own (d := kPost) (fp := fp8) (cs := [e1, .int .i64 U.1.f_Time, e2, .int .i64 U.1.f_Sure]) (x := U.1) (by repeat (first | exact List.mem_cons_self | apply List.mem_cons_of_mem)))) (J.rd (H.own (d := kPost) (fp := fp9) (cs := [h1, .int .i64 U.1.f_Time, h2, .int .i64 U.1.f_Sure]) (x := U.1) (by repeat (first | exact List.mem_cons_self | apply List.mem_cons_of_mem))))) fun w47 J => ?_
      refine vs ?_
      refine ⟨kept_base J3 J, ?_⟩
      refine q_ldaB H J3 st26 ?_
      refine vs ?_
      refine q_ldaB H J3 st26 ?_
      refine vs ?_
      refine x_call (specSync_ok w47 _ s (J.rd (H.own (d := kPost) (fp := fp10) (cs := [s1, .int .i64 s.f_Time, s2, .int .i64 s.f_Sure]) (x := s) (by repeat (first | exact List.mem_cons_self | apply List.mem_cons_of_mem)))) hsms) fun _ w48 ⟨cs13, fp13, e, S⟩ => ?_
      rw [← hY] at S
      subst e
      have J := J.join S
      simp only [List.cons_append, List.nil_append] at J
      obtain ⟨m1, m2, rfl, _⟩ := kPost_open (J.own (d := kPost) (fp := fp13) (cs := cs13) (x := Y) (by repeat (first | exact List.mem_cons_self | apply List.mem_cons_of_mem)))
      refine vs ?_
      refine ⟨kept_base J3 J, ?_⟩
      refine x_callb J (lawsSamePost_ok w48 _ _ Y (J.rd (H.own (d := kPost) (fp := fp12) (cs := [k1, .int .i64 Y.f_Time, .slice AY Y.f_Book.length cY, .int .i64 Y.f_Sure]) (x := Y) (by repeat (first | exact List.mem_cons_self | apply List.mem_cons_of_mem)))) (J.own (d := kPost) (fp := fp13) (cs := [m1, .int .i64 Y.f_Time, m2, .int .i64 Y.f_Sure]) (x := Y) (by repeat (first | exact List.mem_cons_self | apply List.mem_cons_of_mem)))) fun w49 J => ?_
      refine vs ?_
      refine ⟨kept_base J3 J, ?_⟩
      refine q_ldaB H J3 st26 ?_
      refine vs ?_
      refine q_ldaB H J3 st26 ?_
      refine vs ?_
      refine x_callb J (implPostOk_ok w49 _ q (J.rd (H.own (d := kPost) (fp := fp11) (cs := [o1, .int .i64 q.f_Time, o2, .int .i64 q.f_Sure]) (x := q) (by repeat (first | exact List.mem_cons_self | apply List.mem_cons_of_mem)))) hsmq) fun w50 J => ?_
      refine vs ?_
      refine ⟨kept_base J3 J, ?_⟩
      refine x_callb J (specPostOk_ok w50 _ q (J.rd (H.own (d := kPost) (fp := fp11) (cs := [o1, .int .i64 q.f_Time, o2, .int .i64 q.f_Sure]) (x := q) (by repeat (first | exact List.mem_cons_self | apply List.mem_cons_of_mem)))) hsmq) fun w51 J => ?_
      refine vs ?_
      refine ⟨kept_base J3 J, ?_⟩
      refine x_call (implPostNew_new w51) fun _ w52 ⟨e, hbn⟩ => ?_
      subst e
      have J := J.go hbn
      refine vs ?_
      refine ⟨kept_base J3 J, ?_⟩
      refine x_call (specPostNew_new w52) fun _ w53 ⟨e, hbn⟩ => ?_
      subst e
      have J := J.go hbn
      refine vs ?_
      refine ⟨kept_base J3 J, ?_⟩
      refine x_callb J (lawsSamePost_ok w53 [.slice none 0 0, .int .i64 0, .slice none 0 0, .int .i64 0] [.slice none 0 0, .int .i64 0, .slice none 0 0, .int .i64 0] zPost ((J.nothing (kPost_zero w53)).own (d := kPost) (fp := []) (cs := [.slice none 0 0, .int .i64 0, .slice none 0 0, .int .i64 0]) (x := zPost) (by simp)) ((J.nothing (kPost_zero w53)).own (d := kPost) (fp := []) (cs := [.slice none 0 0, .int .i64 0, .slice none 0 0, .int .i64 0]) (x := zPost) (by simp))) fun w54 J => ?_
      refine vs ?_
      refine ⟨kept_base J3 J, ?_⟩
      refine x_call (implPostNew_new w54) fun _ w55 ⟨e, hbn⟩ => ?_
      subst e
      have J := J.go hbn
      refine vs ?_
      refine ⟨kept_base J3 J, ?_⟩
      refine x_callb J (implPostOk_ok w55 [.slice none 0 0, .int .i64 0, .slice none 0 0, .int .i64 0] zPost ((J.nothing (kPost_zero w55)).own (d := kPost) (fp := []) (cs := [.slice none 0 0, .int .i64 0, .slice none 0 0, .int .i64 0]) (x := zPost) (by simp)) (postOk_smD postNew_okD)) fun w56 J => ?_
      rw [postNew_okD]
      refine vs ?_
      refine ⟨kept_base J3 J, ?_⟩
      have H := H.join J
      simp only [List.cons_append, List.nil_append] at H
      have H := H.front (c := Ck.own kPost fp12 [k1, .int .i64 Y.f_Time, .slice AY Y.f_Book.length cY, .int .i64 Y.f_Sure] Y)
      have H := H.front (c := Ck.own kPost fp10 [s1, .int .i64 s.f_Time, s2, .int .i64 s.f_Sure] s)
      have H := H.front (c := Ck.own kPost fp8 [e1, .int .i64 U.1.f_Time, e2, .int .i64 U.1.f_Sure] U.1)
      have H := H.front (c := Ck.own kPost fp7 [t1, .int .i64 t.f_Time, t2, .int .i64 t.f_Sure] t)
      have H := H.front (c := Ck.own kPost fp5 [c1, .int .i64 E.1.f_Time, c2, .int .i64 E.1.f_Sure] E.1)
      have H := H.front (c := Ck.own kPost fp4 [f1, .int .i64 f.f_Time, f2, .int .i64 f.f_Sure] f)
      have H := H.front (c := Ck.own kPost fp2 [a1, .int .i64 D.1.f_Time, a2, .int .i64 D.1.f_Sure] D.1)
      have H := H.front (c := Ck.own kPost fp [p1, .int .i64 p.f_Time, p2, .int .i64 p.f_Sure] p)
      have H := H.front (c := Ck.box g25 [k1, .int .i64 Y.f_Time, .slice AY Y.f_Book.length cY, .int .i64 Y.f_Sure] 26)
      have H := H.front (c := Ck.box g23 [s1, .int .i64 s.f_Time, s2, .int .i64 s.f_Sure] 26)
      have H := H.front (c := Ck.box g19 [e1, .int .i64 U.1.f_Time, e2, .int .i64 U.1.f_Sure] 26)
      have H := H.front (c := Ck.box g17 [t1, .int .i64 t.f_Time, t2, .int .i64 t.f_Sure] 26)
      have H := H.front (c := Ck.box g12 [.string ⟨E.2.1.f_Route.toArray⟩, .int .i64 E.2.1.f_Topic, .int .i64 E.2.1.f_Due, y1] 32)
      have H := H.front (c := Ck.box g11 [c1, .int .i64 E.1.f_Time, c2, .int .i64 E.1.f_Sure] 26)
      have H := H.front (c := Ck.box g9 [f1, .int .i64 f.f_Time, f2, .int .i64 f.f_Sure] 26)
      have H := H.front (c := Ck.box g5 [a1, .int .i64 D.1.f_Time, a2, .int .i64 D.1.f_Sure] 26)
      have H := H.front (c := Ck.box g3 [p1, .int .i64 p.f_Time, p2, .int .i64 p.f_Sure] 26)
      exact ⟨(), Sep.left (L := [Ck.box g3 [p1, .int .i64 p.f_Time, p2, .int .i64 p.f_Sure] 26, Ck.box g5 [a1, .int .i64 D.1.f_Time, a2, .int .i64 D.1.f_Sure] 26, Ck.box g9 [f1, .int .i64 f.f_Time, f2, .int .i64 f.f_Sure] 26, Ck.box g11 [c1, .int .i64 E.1.f_Time, c2, .int .i64 E.1.f_Sure] 26, Ck.box g12 [.string ⟨E.2.1.f_Route.toArray⟩, .int .i64 E.2.1.f_Topic, .int .i64 E.2.1.f_Due, y1] 32, Ck.box g17 [t1, .int .i64 t.f_Time, t2, .int .i64 t.f_Sure] 26, Ck.box g19 [e1, .int .i64 U.1.f_Time, e2, .int .i64 U.1.f_Sure] 26, Ck.box g23 [s1, .int .i64 s.f_Time, s2, .int .i64 s.f_Sure] 26, Ck.box g25 [k1, .int .i64 Y.f_Time, .slice AY Y.f_Book.length cY, .int .i64 Y.f_Sure] 26, Ck.own kPost fp [p1, .int .i64 p.f_Time, p2, .int .i64 p.f_Sure] p, Ck.own kPost fp2 [a1, .int .i64 D.1.f_Time, a2, .int .i64 D.1.f_Sure] D.1, Ck.own kPost fp4 [f1, .int .i64 f.f_Time, f2, .int .i64 f.f_Sure] f, Ck.own kPost fp5 [c1, .int .i64 E.1.f_Time, c2, .int .i64 E.1.f_Sure] E.1, Ck.own kPost fp7 [t1, .int .i64 t.f_Time, t2, .int .i64 t.f_Sure] t, Ck.own kPost fp8 [e1, .int .i64 U.1.f_Time, e2, .int .i64 U.1.f_Sure] U.1, Ck.own kPost fp10 [s1, .int .i64 s.f_Time, s2, .int .i64 s.f_Sure] s, Ck.own kPost fp12 [k1, .int .i64 Y.f_Time, .slice AY Y.f_Book.length cY, .int .i64 Y.f_Sure] Y]) H⟩
  rintro ⟨⟩ s9 w57 H
  refine vs ?_
  have nD : ¬ D.2 = 0 → D.1 = p := fun h => by rw [hD] at h ⊢; exact drop_code h
  have nE : ¬ E.2.2 = 0 → E.1 = f := fun h => by rw [hE] at h ⊢; exact fetch_code h
  have nU : ¬ U.2 = 0 → U.1 = t := fun h => by rw [hU] at h ⊢; exact tick_code h
  have yD : D.2 = 0 → postOk D.1 = true := fun h => by rw [hD] at h ⊢; exact (drop_grew x (drop_zero h)).1
  have yE : E.2.2 = 0 → postOk E.1 = true ∧ E.2.1.f_Route = R := fun h => by rw [hE] at h ⊢; exact ⟨(fetch_grew R (fetch_zero h).1).1, (fetch_zero h).2⟩
  have yU : U.2 = 0 → postOk U.1 = true ∧ U.1.f_Time = X := fun h => by rw [hU] at h ⊢; exact ⟨(tick_grew X (tick_zero h).1).1, (tick_zero h).2⟩
  have smD : smPost D.1 := by rw [hD]; exact dropP_sm hsm
  have smE : smPost E.1 := by rw [hE]; exact (fetchP_sm hsmf).1
  have smU : smPost U.1 := by rw [hU]; exact tickP_sm hsmt
  by_cases h1 : D.2 = 0
  · skip
    by_cases h2 : E.2.2 = 0
    · skip
      by_cases h3 : U.2 = 0
      · skip
        as_aux_lemma =>
          refine ve (And.intro (eq_true h1) (And.intro (eq_true h2) (eq_true h3))) ?_
          refine x_lda H st26 ?_
          refine ve (And.intro (eq_true h1) (And.intro (eq_true h2) (eq_true h3))) ?_
          refine x_callb H (implPostOk_ok w57 _ D.1 (H.own (d := kPost) (fp := fp2) (cs := [a1, .int .i64 D.1.f_Time, a2, .int .i64 D.1.f_Sure]) (x := D.1) (by repeat (first | exact List.mem_cons_self | apply List.mem_cons_of_mem))) smD) fun w58 H => ?_
          rw [yD h1]
          refine ve (And.intro (eq_true h1) (And.intro (eq_true h2) (eq_true h3))) ?_
          refine x_lda H st26 ?_
          refine ve (And.intro (eq_true h1) (And.intro (eq_true h2) (eq_true h3))) ?_
          refine x_callb H (implPostOk_ok w58 _ E.1 (H.own (d := kPost) (fp := fp5) (cs := [c1, .int .i64 E.1.f_Time, c2, .int .i64 E.1.f_Sure]) (x := E.1) (by repeat (first | exact List.mem_cons_self | apply List.mem_cons_of_mem))) smE) fun w59 H => ?_
          rw [(yE h2).1]
          refine ve (And.intro (eq_true h1) (And.intro (eq_true h2) (eq_true h3))) ?_
          refine x_ld H sc9 ?_
          refine ve (And.intro (eq_true (yE h2).2) (And.intro (eq_true h1) (And.intro (eq_true h2) (eq_true h3)))) ?_
          refine x_lda H st26 ?_
          refine ve (And.intro (eq_true h1) (And.intro (eq_true h2) (eq_true h3))) ?_
          refine x_callb H (implPostOk_ok w59 _ U.1 (H.own (d := kPost) (fp := fp8) (cs := [e1, .int .i64 U.1.f_Time, e2, .int .i64 U.1.f_Sure]) (x := U.1) (by repeat (first | exact List.mem_cons_self | apply List.mem_cons_of_mem))) smU) fun w60 H => ?_
          rw [(yU h3).1]
          refine ve (And.intro (eq_true h1) (And.intro (eq_true h2) (eq_true h3))) ?_
          refine x_ld H sc3 ?_
          refine ve (And.intro (eq_true (yU h3).2) (And.intro (eq_true h1) (And.intro (eq_true h2) (eq_true h3)))) ?_
          refine x_lda H st26 ?_
          refine vs ?_
          refine x_callb H (implPostOk_ok w60 _ s (H.own (d := kPost) (fp := fp10) (cs := [s1, .int .i64 s.f_Time, s2, .int .i64 s.f_Sure]) (x := s) (by repeat (first | exact List.mem_cons_self | apply List.mem_cons_of_mem))) hsms) fun w61 H => ?_
          cases hS : postOk s with
          | false =>
            refine vs ?_
            first | exact ⟨rfl, H.bel⟩ | exact H.bel
          | true =>
            have hY1 : Y.f_Sure = (Y.f_Book.length : Int) := by rw [hY]; exact sync_sure hS
            have hY2 : postOk Y = true := by rw [hY]; exact sync_ok hS
            refine vs ?_
            refine x_ld H sc3 ?_
            refine vs ?_
            refine x_ld H sc22 ?_
            refine ve (eq_true hY1) ?_
            refine x_lda H st26 ?_
            refine ve (eq_true hY1) ?_
            refine x_callb H (implPostOk_ok w61 _ Y (H.own (d := kPost) (fp := fp12) (cs := [k1, .int .i64 Y.f_Time, .slice AY Y.f_Book.length cY, .int .i64 Y.f_Sure]) (x := Y) (by repeat (first | exact List.mem_cons_self | apply List.mem_cons_of_mem))) hsmY) fun w62 H => ?_
            rw [hY2]
            refine ve (eq_true hY1) ?_
            first | exact ⟨rfl, H.bel⟩ | exact H.bel
      · skip
        as_aux_lemma =>
          refine ve (And.intro (eq_true h1) (And.intro (eq_true h2) (eq_false h3))) ?_
          refine x_lda H st26 ?_
          refine ve (And.intro (eq_true h1) (And.intro (eq_true h2) (eq_false h3))) ?_
          refine x_lda H st26 ?_
          refine ve (And.intro (eq_true h1) (And.intro (eq_true h2) (eq_false h3))) ?_
          refine x_callb H (lawsSamePost_eq w57 _ _ U.1 t (nU h3) (H.own (d := kPost) (fp := fp8) (cs := [e1, .int .i64 U.1.f_Time, e2, .int .i64 U.1.f_Sure]) (x := U.1) (by repeat (first | exact List.mem_cons_self | apply List.mem_cons_of_mem))) (H.own (d := kPost) (fp := fp7) (cs := [t1, .int .i64 t.f_Time, t2, .int .i64 t.f_Sure]) (x := t) (by repeat (first | exact List.mem_cons_self | apply List.mem_cons_of_mem)))) fun w58 H => ?_
          refine ve (And.intro (eq_true h1) (And.intro (eq_true h2) (eq_false h3))) ?_
          refine x_lda H st26 ?_
          refine ve (And.intro (eq_true h1) (And.intro (eq_true h2) (eq_false h3))) ?_
          refine x_callb H (implPostOk_ok w58 _ D.1 (H.own (d := kPost) (fp := fp2) (cs := [a1, .int .i64 D.1.f_Time, a2, .int .i64 D.1.f_Sure]) (x := D.1) (by repeat (first | exact List.mem_cons_self | apply List.mem_cons_of_mem))) smD) fun w59 H => ?_
          rw [yD h1]
          refine ve (And.intro (eq_true h1) (And.intro (eq_true h2) (eq_false h3))) ?_
          refine x_lda H st26 ?_
          refine ve (And.intro (eq_true h1) (And.intro (eq_true h2) (eq_false h3))) ?_
          refine x_callb H (implPostOk_ok w59 _ E.1 (H.own (d := kPost) (fp := fp5) (cs := [c1, .int .i64 E.1.f_Time, c2, .int .i64 E.1.f_Sure]) (x := E.1) (by repeat (first | exact List.mem_cons_self | apply List.mem_cons_of_mem))) smE) fun w60 H => ?_
          rw [(yE h2).1]
          refine ve (And.intro (eq_true h1) (And.intro (eq_true h2) (eq_false h3))) ?_
          refine x_ld H sc9 ?_
          refine ve (And.intro (eq_true (yE h2).2) (And.intro (eq_true h1) (And.intro (eq_true h2) (eq_false h3)))) ?_
          refine x_lda H st26 ?_
          refine vs ?_
          refine x_callb H (implPostOk_ok w60 _ s (H.own (d := kPost) (fp := fp10) (cs := [s1, .int .i64 s.f_Time, s2, .int .i64 s.f_Sure]) (x := s) (by repeat (first | exact List.mem_cons_self | apply List.mem_cons_of_mem))) hsms) fun w61 H => ?_
          cases hS : postOk s with
          | false =>
            refine vs ?_
            first | exact ⟨rfl, H.bel⟩ | exact H.bel
          | true =>
            have hY1 : Y.f_Sure = (Y.f_Book.length : Int) := by rw [hY]; exact sync_sure hS
            have hY2 : postOk Y = true := by rw [hY]; exact sync_ok hS
            refine vs ?_
            refine x_ld H sc3 ?_
            refine vs ?_
            refine x_ld H sc22 ?_
            refine ve (eq_true hY1) ?_
            refine x_lda H st26 ?_
            refine ve (eq_true hY1) ?_
            refine x_callb H (implPostOk_ok w61 _ Y (H.own (d := kPost) (fp := fp12) (cs := [k1, .int .i64 Y.f_Time, .slice AY Y.f_Book.length cY, .int .i64 Y.f_Sure]) (x := Y) (by repeat (first | exact List.mem_cons_self | apply List.mem_cons_of_mem))) hsmY) fun w62 H => ?_
            rw [hY2]
            refine ve (eq_true hY1) ?_
            first | exact ⟨rfl, H.bel⟩ | exact H.bel
    · skip
      by_cases h3 : U.2 = 0
      · skip
        as_aux_lemma =>
          refine ve (And.intro (eq_true h1) (And.intro (eq_false h2) (eq_true h3))) ?_
          refine x_lda H st26 ?_
          refine ve (And.intro (eq_true h1) (And.intro (eq_false h2) (eq_true h3))) ?_
          refine x_lda H st26 ?_
          refine ve (And.intro (eq_true h1) (And.intro (eq_false h2) (eq_true h3))) ?_
          refine x_callb H (lawsSamePost_eq w57 _ _ E.1 f (nE h2) (H.own (d := kPost) (fp := fp5) (cs := [c1, .int .i64 E.1.f_Time, c2, .int .i64 E.1.f_Sure]) (x := E.1) (by repeat (first | exact List.mem_cons_self | apply List.mem_cons_of_mem))) (H.own (d := kPost) (fp := fp4) (cs := [f1, .int .i64 f.f_Time, f2, .int .i64 f.f_Sure]) (x := f) (by repeat (first | exact List.mem_cons_self | apply List.mem_cons_of_mem)))) fun w58 H => ?_
          refine ve (And.intro (eq_true h1) (And.intro (eq_false h2) (eq_true h3))) ?_
          refine x_lda H st26 ?_
          refine ve (And.intro (eq_true h1) (And.intro (eq_false h2) (eq_true h3))) ?_
          refine x_callb H (implPostOk_ok w58 _ D.1 (H.own (d := kPost) (fp := fp2) (cs := [a1, .int .i64 D.1.f_Time, a2, .int .i64 D.1.f_Sure]) (x := D.1) (by repeat (first | exact List.mem_cons_self | apply List.mem_cons_of_mem))) smD) fun w59 H => ?_
          rw [yD h1]
          refine ve (And.intro (eq_true h1) (And.intro (eq_false h2) (eq_true h3))) ?_
          refine x_lda H st26 ?_
          refine ve (And.intro (eq_true h1) (And.intro (eq_false h2) (eq_true h3))) ?_
          refine x_callb H (implPostOk_ok w59 _ U.1 (H.own (d := kPost) (fp := fp8) (cs := [e1, .int .i64 U.1.f_Time, e2, .int .i64 U.1.f_Sure]) (x := U.1) (by repeat (first | exact List.mem_cons_self | apply List.mem_cons_of_mem))) smU) fun w60 H => ?_
          rw [(yU h3).1]
          refine ve (And.intro (eq_true h1) (And.intro (eq_false h2) (eq_true h3))) ?_
          refine x_ld H sc3 ?_
          refine ve (And.intro (eq_true (yU h3).2) (And.intro (eq_true h1) (And.intro (eq_false h2) (eq_true h3)))) ?_
          refine x_lda H st26 ?_
          refine vs ?_
          refine x_callb H (implPostOk_ok w60 _ s (H.own (d := kPost) (fp := fp10) (cs := [s1, .int .i64 s.f_Time, s2, .int .i64 s.f_Sure]) (x := s) (by repeat (first | exact List.mem_cons_self | apply List.mem_cons_of_mem))) hsms) fun w61 H => ?_
          cases hS : postOk s with
          | false =>
            refine vs ?_
            first | exact ⟨rfl, H.bel⟩ | exact H.bel
          | true =>
            have hY1 : Y.f_Sure = (Y.f_Book.length : Int) := by rw [hY]; exact sync_sure hS
            have hY2 : postOk Y = true := by rw [hY]; exact sync_ok hS
            refine vs ?_
            refine x_ld H sc3 ?_
            refine vs ?_
            refine x_ld H sc22 ?_
            refine ve (eq_true hY1) ?_
            refine x_lda H st26 ?_
            refine ve (eq_true hY1) ?_
            refine x_callb H (implPostOk_ok w61 _ Y (H.own (d := kPost) (fp := fp12) (cs := [k1, .int .i64 Y.f_Time, .slice AY Y.f_Book.length cY, .int .i64 Y.f_Sure]) (x := Y) (by repeat (first | exact List.mem_cons_self | apply List.mem_cons_of_mem))) hsmY) fun w62 H => ?_
            rw [hY2]
            refine ve (eq_true hY1) ?_
            first | exact ⟨rfl, H.bel⟩ | exact H.bel
      · skip
        as_aux_lemma =>
          refine ve (And.intro (eq_true h1) (And.intro (eq_false h2) (eq_false h3))) ?_
          refine x_lda H st26 ?_
          refine ve (And.intro (eq_true h1) (And.intro (eq_false h2) (eq_false h3))) ?_
          refine x_lda H st26 ?_
          refine ve (And.intro (eq_true h1) (And.intro (eq_false h2) (eq_false h3))) ?_
          refine x_callb H (lawsSamePost_eq w57 _ _ E.1 f (nE h2) (H.own (d := kPost) (fp := fp5) (cs := [c1, .int .i64 E.1.f_Time, c2, .int .i64 E.1.f_Sure]) (x := E.1) (by repeat (first | exact List.mem_cons_self | apply List.mem_cons_of_mem))) (H.own (d := kPost) (fp := fp4) (cs := [f1, .int .i64 f.f_Time, f2, .int .i64 f.f_Sure]) (x := f) (by repeat (first | exact List.mem_cons_self | apply List.mem_cons_of_mem)))) fun w58 H => ?_
          refine ve (And.intro (eq_true h1) (And.intro (eq_false h2) (eq_false h3))) ?_
          refine x_lda H st26 ?_
          refine ve (And.intro (eq_true h1) (And.intro (eq_false h2) (eq_false h3))) ?_
          refine x_lda H st26 ?_
          refine ve (And.intro (eq_true h1) (And.intro (eq_false h2) (eq_false h3))) ?_
          refine x_callb H (lawsSamePost_eq w58 _ _ U.1 t (nU h3) (H.own (d := kPost) (fp := fp8) (cs := [e1, .int .i64 U.1.f_Time, e2, .int .i64 U.1.f_Sure]) (x := U.1) (by repeat (first | exact List.mem_cons_self | apply List.mem_cons_of_mem))) (H.own (d := kPost) (fp := fp7) (cs := [t1, .int .i64 t.f_Time, t2, .int .i64 t.f_Sure]) (x := t) (by repeat (first | exact List.mem_cons_self | apply List.mem_cons_of_mem)))) fun w59 H => ?_
          refine ve (And.intro (eq_true h1) (And.intro (eq_false h2) (eq_false h3))) ?_
          refine x_lda H st26 ?_
          refine ve (And.intro (eq_true h1) (And.intro (eq_false h2) (eq_false h3))) ?_
          refine x_callb H (implPostOk_ok w59 _ D.1 (H.own (d := kPost) (fp := fp2) (cs := [a1, .int .i64 D.1.f_Time, a2, .int .i64 D.1.f_Sure]) (x := D.1) (by repeat (first | exact List.mem_cons_self | apply List.mem_cons_of_mem))) smD) fun w60 H => ?_
          rw [yD h1]
          refine ve (And.intro (eq_true h1) (And.intro (eq_false h2) (eq_false h3))) ?_
          refine x_lda H st26 ?_
          refine vs ?_
          refine x_callb H (implPostOk_ok w60 _ s (H.own (d := kPost) (fp := fp10) (cs := [s1, .int .i64 s.f_Time, s2, .int .i64 s.f_Sure]) (x := s) (by repeat (first | exact List.mem_cons_self | apply List.mem_cons_of_mem))) hsms) fun w61 H => ?_
          cases hS : postOk s with
          | false =>
            refine vs ?_
            first | exact ⟨rfl, H.bel⟩ | exact H.bel
          | true =>
            have hY1 : Y.f_Sure = (Y.f_Book.length : Int) := by rw [hY]; exact sync_sure hS
            have hY2 : postOk Y = true := by rw [hY]; exact sync_ok hS
            refine vs ?_
            refine x_ld H sc3 ?_
            refine vs ?_
            refine x_ld H sc22 ?_
            refine ve (eq_true hY1) ?_
            refine x_lda H st26 ?_
            refine ve (eq_true hY1) ?_
            refine x_callb H (implPostOk_ok w61 _ Y (H.own (d := kPost) (fp := fp12) (cs := [k1, .int .i64 Y.f_Time, .slice AY Y.f_Book.length cY, .int .i64 Y.f_Sure]) (x := Y) (by repeat (first | exact List.mem_cons_self | apply List.mem_cons_of_mem))) hsmY) fun w62 H => ?_
            rw [hY2]
            refine ve (eq_true hY1) ?_
            first | exact ⟨rfl, H.bel⟩ | exact H.bel
  · skip
    by_cases h2 : E.2.2 = 0
    · skip
      by_cases h3 : U.2 = 0
      · skip
        as_aux_lemma =>
          refine ve (And.intro (eq_false h1) (And.intro (eq_true h2) (eq_true h3))) ?_
          refine x_lda H st26 ?_
          refine ve (And.intro (eq_false h1) (And.intro (eq_true h2) (eq_true h3))) ?_
          refine x_lda H st26 ?_
          refine ve (And.intro (eq_false h1) (And.intro (eq_true h2) (eq_true h3))) ?_
          refine x_callb H (lawsSamePost_eq w57 _ _ D.1 p (nD h1) (H.own (d := kPost) (fp := fp2) (cs := [a1, .int .i64 D.1.f_Time, a2, .int .i64 D.1.f_Sure]) (x := D.1) (by repeat (first | exact List.mem_cons_self | apply List.mem_cons_of_mem))) (H.own (d := kPost) (fp := fp) (cs := [p1, .int .i64 p.f_Time, p2, .int .i64 p.f_Sure]) (x := p) (by repeat (first | exact List.mem_cons_self | apply List.mem_cons_of_mem)))) fun w58 H => ?_
          refine ve (And.intro (eq_false h1) (And.intro (eq_true h2) (eq_true h3))) ?_
          refine x_lda H st26 ?_
          refine ve (And.intro (eq_false h1) (And.intro (eq_true h2) (eq_true h3))) ?_
          refine x_callb H (implPostOk_ok w58 _ E.1 (H.own (d := kPost) (fp := fp5) (cs := [c1, .int .i64 E.1.f_Time, c2, .int .i64 E.1.f_Sure]) (x := E.1) (by repeat (first | exact List.mem_cons_self | apply List.mem_cons_of_mem))) smE) fun w59 H => ?_
          rw [(yE h2).1]
          refine ve (And.intro (eq_false h1) (And.intro (eq_true h2) (eq_true h3))) ?_
          refine x_ld H sc9 ?_
          refine ve (And.intro (eq_true (yE h2).2) (And.intro (eq_false h1) (And.intro (eq_true h2) (eq_true h3)))) ?_
          refine x_lda H st26 ?_
          refine ve (And.intro (eq_false h1) (And.intro (eq_true h2) (eq_true h3))) ?_
          refine x_callb H (implPostOk_ok w59 _ U.1 (H.own (d := kPost) (fp := fp8) (cs := [e1, .int .i64 U.1.f_Time, e2, .int .i64 U.1.f_Sure]) (x := U.1) (by repeat (first | exact List.mem_cons_self | apply List.mem_cons_of_mem))) smU) fun w60 H => ?_
          rw [(yU h3).1]
          refine ve (And.intro (eq_false h1) (And.intro (eq_true h2) (eq_true h3))) ?_
          refine x_ld H sc3 ?_
          refine ve (And.intro (eq_true (yU h3).2) (And.intro (eq_false h1) (And.intro (eq_true h2) (eq_true h3)))) ?_
          refine x_lda H st26 ?_
          refine vs ?_
          refine x_callb H (implPostOk_ok w60 _ s (H.own (d := kPost) (fp := fp10) (cs := [s1, .int .i64 s.f_Time, s2, .int .i64 s.f_Sure]) (x := s) (by repeat (first | exact List.mem_cons_self | apply List.mem_cons_of_mem))) hsms) fun w61 H => ?_
          cases hS : postOk s with
          | false =>
            refine vs ?_
            first | exact ⟨rfl, H.bel⟩ | exact H.bel
          | true =>
            have hY1 : Y.f_Sure = (Y.f_Book.length : Int) := by rw [hY]; exact sync_sure hS
            have hY2 : postOk Y = true := by rw [hY]; exact sync_ok hS
            refine vs ?_
            refine x_ld H sc3 ?_
            refine vs ?_
            refine x_ld H sc22 ?_
            refine ve (eq_true hY1) ?_
            refine x_lda H st26 ?_
            refine ve (eq_true hY1) ?_
            refine x_callb H (implPostOk_ok w61 _ Y (H.own (d := kPost) (fp := fp12) (cs := [k1, .int .i64 Y.f_Time, .slice AY Y.f_Book.length cY, .int .i64 Y.f_Sure]) (x := Y) (by repeat (first | exact List.mem_cons_self | apply List.mem_cons_of_mem))) hsmY) fun w62 H => ?_
            rw [hY2]
            refine ve (eq_true hY1) ?_
            first | exact ⟨rfl, H.bel⟩ | exact H.bel
      · skip
        as_aux_lemma =>
          refine ve (And.intro (eq_false h1) (And.intro (eq_true h2) (eq_false h3))) ?_
          refine x_lda H st26 ?_
          refine ve (And.intro (eq_false h1) (And.intro (eq_true h2) (eq_false h3))) ?_
          refine x_lda H st26 ?_
          refine ve (And.intro (eq_false h1) (And.intro (eq_true h2) (eq_false h3))) ?_
          refine x_callb H (lawsSamePost_eq w57 _ _ D.1 p (nD h1) (H.own (d := kPost) (fp := fp2) (cs := [a1, .int .i64 D.1.f_Time, a2, .int .i64 D.1.f_Sure]) (x := D.1) (by repeat (first | exact List.mem_cons_self | apply List.mem_cons_of_mem))) (H.own (d := kPost) (fp := fp) (cs := [p1, .int .i64 p.f_Time, p2, .int .i64 p.f_Sure]) (x := p) (by repeat (first | exact List.mem_cons_self | apply List.mem_cons_of_mem)))) fun w58 H => ?_
          refine ve (And.intro (eq_false h1) (And.intro (eq_true h2) (eq_false h3))) ?_
          refine x_lda H st26 ?_
          refine ve (And.intro (eq_false h1) (And.intro (eq_true h2) (eq_false h3))) ?_
          refine x_lda H st26 ?_
          refine ve (And.intro (eq_false h1) (And.intro (eq_true h2) (eq_false h3))) ?_
          refine x_callb H (lawsSamePost_eq w58 _ _ U.1 t (nU h3) (H.own (d := kPost) (fp := fp8) (cs := [e1, .int .i64 U.1.f_Time, e2, .int .i64 U.1.f_Sure]) (x := U.1) (by repeat (first | exact List.mem_cons_self | apply List.mem_cons_of_mem))) (H.own (d := kPost) (fp := fp7) (cs := [t1, .int .i64 t.f_Time, t2, .int .i64 t.f_Sure]) (x := t) (by repeat (first | exact List.mem_cons_self | apply List.mem_cons_of_mem)))) fun w59 H => ?_
          refine ve (And.intro (eq_false h1) (And.intro (eq_true h2) (eq_false h3))) ?_
          refine x_lda H st26 ?_
          refine ve (And.intro (eq_false h1) (And.intro (eq_true h2) (eq_false h3))) ?_
          refine x_callb H (implPostOk_ok w59 _ E.1 (H.own (d := kPost) (fp := fp5) (cs := [c1, .int .i64 E.1.f_Time, c2, .int .i64 E.1.f_Sure]) (x := E.1) (by repeat (first | exact List.mem_cons_self | apply List.mem_cons_of_mem))) smE) fun w60 H => ?_
          rw [(yE h2).1]
          refine ve (And.intro (eq_false h1) (And.intro (eq_true h2) (eq_false h3))) ?_
          refine x_ld H sc9 ?_
          refine ve (And.intro (eq_true (yE h2).2) (And.intro (eq_false h1) (And.intro (eq_true h2) (eq_false h3)))) ?_
          refine x_lda H st26 ?_
          refine vs ?_
          refine x_callb H (implPostOk_ok w60 _ s (H.own (d := kPost) (fp := fp10) (cs := [s1, .int .i64 s.f_Time, s2, .int .i64 s.f_Sure]) (x := s) (by repeat (first | exact List.mem_cons_self | apply List.mem_cons_of_mem))) hsms) fun w61 H => ?_
          cases hS : postOk s with
          | false =>
            refine vs ?_
            first | exact ⟨rfl, H.bel⟩ | exact H.bel
          | true =>
            have hY1 : Y.f_Sure = (Y.f_Book.length : Int) := by rw [hY]; exact sync_sure hS
            have hY2 : postOk Y = true := by rw [hY]; exact sync_ok hS
            refine vs ?_
            refine x_ld H sc3 ?_
            refine vs ?_
            refine x_ld H sc22 ?_
            refine ve (eq_true hY1) ?_
            refine x_lda H st26 ?_
            refine ve (eq_true hY1) ?_
            refine x_callb H (implPostOk_ok w61 _ Y (H.own (d := kPost) (fp := fp12) (cs := [k1, .int .i64 Y.f_Time, .slice AY Y.f_Book.length cY, .int .i64 Y.f_Sure]) (x := Y) (by repeat (first | exact List.mem_cons_self | apply List.mem_cons_of_mem))) hsmY) fun w62 H => ?_
            rw [hY2]
            refine ve (eq_true hY1) ?_
            first | exact ⟨rfl, H.bel⟩ | exact H.bel
    · skip
      by_cases h3 : U.2 = 0
      · skip
        as_aux_lemma =>
          refine ve (And.intro (eq_false h1) (And.intro (eq_false h2) (eq_true h3))) ?_
          refine x_lda H st26 ?_
          refine ve (And.intro (eq_false h1) (And.intro (eq_false h2) (eq_true h3))) ?_
          refine x_lda H st26 ?_
          refine ve (And.intro (eq_false h1) (And.intro (eq_false h2) (eq_true h3))) ?_
          refine x_callb H (lawsSamePost_eq w57 _ _ D.1 p (nD h1) (H.own (d := kPost) (fp := fp2) (cs := [a1, .int .i64 D.1.f_Time, a2, .int .i64 D.1.f_Sure]) (x := D.1) (by repeat (first | exact List.mem_cons_self | apply List.mem_cons_of_mem))) (H.own (d := kPost) (fp := fp) (cs := [p1, .int .i64 p.f_Time, p2, .int .i64 p.f_Sure]) (x := p) (by repeat (first | exact List.mem_cons_self | apply List.mem_cons_of_mem)))) fun w58 H => ?_
          refine ve (And.intro (eq_false h1) (And.intro (eq_false h2) (eq_true h3))) ?_
          refine x_lda H st26 ?_
          refine ve (And.intro (eq_false h1) (And.intro (eq_false h2) (eq_true h3))) ?_
          refine x_lda H st26 ?_
          refine ve (And.intro (eq_false h1) (And.intro (eq_false h2) (eq_true h3))) ?_
          refine x_callb H (lawsSamePost_eq w58 _ _ E.1 f (nE h2) (H.own (d := kPost) (fp := fp5) (cs := [c1, .int .i64 E.1.f_Time, c2, .int .i64 E.1.f_Sure]) (x := E.1) (by repeat (first | exact List.mem_cons_self | apply List.mem_cons_of_mem))) (H.own (d := kPost) (fp := fp4) (cs := [f1, .int .i64 f.f_Time, f2, .int .i64 f.f_Sure]) (x := f) (by repeat (first | exact List.mem_cons_self | apply List.mem_cons_of_mem)))) fun w59 H => ?_
          refine ve (And.intro (eq_false h1) (And.intro (eq_false h2) (eq_true h3))) ?_
          refine x_lda H st26 ?_
          refine ve (And.intro (eq_false h1) (And.intro (eq_false h2) (eq_true h3))) ?_
          refine x_callb H (implPostOk_ok w59 _ U.1 (H.own (d := kPost) (fp := fp8) (cs := [e1, .int .i64 U.1.f_Time, e2, .int .i64 U.1.f_Sure]) (x := U.1) (by repeat (first | exact List.mem_cons_self | apply List.mem_cons_of_mem))) smU) fun w60 H => ?_
          rw [(yU h3).1]
          refine ve (And.intro (eq_false h1) (And.intro (eq_false h2) (eq_true h3))) ?_
          refine x_ld H sc3 ?_
          refine ve (And.intro (eq_true (yU h3).2) (And.intro (eq_false h1) (And.intro (eq_false h2) (eq_true h3)))) ?_
          refine x_lda H st26 ?_
          refine vs ?_
          refine x_callb H (implPostOk_ok w60 _ s (H.own (d := kPost) (fp := fp10) (cs := [s1, .int .i64 s.f_Time, s2, .int .i64 s.f_Sure]) (x := s) (by repeat (first | exact List.mem_cons_self | apply List.mem_cons_of_mem))) hsms) fun w61 H => ?_
          cases hS : postOk s with
          | false =>
            refine vs ?_
            first | exact ⟨rfl, H.bel⟩ | exact H.bel
          | true =>
            have hY1 : Y.f_Sure = (Y.f_Book.length : Int) := by rw [hY]; exact sync_sure hS
            have hY2 : postOk Y = true := by rw [hY]; exact sync_ok hS
            refine vs ?_
            refine x_ld H sc3 ?_
            refine vs ?_
            refine x_ld H sc22 ?_
            refine ve (eq_true hY1) ?_
            refine x_lda H st26 ?_
            refine ve (eq_true hY1) ?_
            refine x_callb H (implPostOk_ok w61 _ Y (H.own (d := kPost) (fp := fp12) (cs := [k1, .int .i64 Y.f_Time, .slice AY Y.f_Book.length cY, .int .i64 Y.f_Sure]) (x := Y) (by repeat (first | exact List.mem_cons_self | apply List.mem_cons_of_mem))) hsmY) fun w62 H => ?_
            rw [hY2]
            refine ve (eq_true hY1) ?_
            first | exact ⟨rfl, H.bel⟩ | exact H.bel
      · skip
        as_aux_lemma =>
          refine ve (And.intro (eq_false h1) (And.intro (eq_false h2) (eq_false h3))) ?_
          refine x_lda H st26 ?_
          refine ve (And.intro (eq_false h1) (And.intro (eq_false h2) (eq_false h3))) ?_
          refine x_lda H st26 ?_
          refine ve (And.intro (eq_false h1) (And.intro (eq_false h2) (eq_false h3))) ?_
          refine x_callb H (lawsSamePost_eq w57 _ _ D.1 p (nD h1) (H.own (d := kPost) (fp := fp2) (cs := [a1, .int .i64 D.1.f_Time, a2, .int .i64 D.1.f_Sure]) (x := D.1) (by repeat (first | exact List.mem_cons_self | apply List.mem_cons_of_mem))) (H.own (d := kPost) (fp := fp) (cs := [p1, .int .i64 p.f_Time, p2, .int .i64 p.f_Sure]) (x := p) (by repeat (first | exact List.mem_cons_self | apply List.mem_cons_of_mem)))) fun w58 H => ?_
          refine ve (And.intro (eq_false h1) (And.intro (eq_false h2) (eq_false h3))) ?_
          refine x_lda H st26 ?_
          refine ve (And.intro (eq_false h1) (And.intro (eq_false h2) (eq_false h3))) ?_
          refine x_lda H st26 ?_
          refine ve (And.intro (eq_false h1) (And.intro (eq_false h2) (eq_false h3))) ?_
          refine x_callb H (lawsSamePost_eq w58 _ _ E.1 f (nE h2) (H.own (d := kPost) (fp := fp5) (cs := [c1, .int .i64 E.1.f_Time, c2, .int .i64 E.1.f_Sure]) (x := E.1) (by repeat (first | exact List.mem_cons_self | apply List.mem_cons_of_mem))) (H.own (d := kPost) (fp := fp4) (cs := [f1, .int .i64 f.f_Time, f2, .int .i64 f.f_Sure]) (x := f) (by repeat (first | exact List.mem_cons_self | apply List.mem_cons_of_mem)))) fun w59 H => ?_
          refine ve (And.intro (eq_false h1) (And.intro (eq_false h2) (eq_false h3))) ?_
          refine x_lda H st26 ?_
          refine ve (And.intro (eq_false h1) (And.intro (eq_false h2) (eq_false h3))) ?_
          refine x_lda H st26 ?_
          refine ve (And.intro (eq_false h1) (And.intro (eq_false h2) (eq_false h3))) ?_
          refine x_callb H (lawsSamePost_eq w59 _ _ U.1 t (nU h3) (H.own (d := kPost) (fp := fp8) (cs := [e1, .int .i64 U.1.f_Time, e2, .int .i64 U.1.f_Sure]) (x := U.1) (by repeat (first | exact List.mem_cons_self | apply List.mem_cons_of_mem))) (H.own (d := kPost) (fp := fp7) (cs := [t1, .int .i64 t.f_Time, t2, .int .i64 t.f_Sure]) (x := t) (by repeat (first | exact List.mem_cons_self | apply List.mem_cons_of_mem)))) fun w60 H => ?_
          refine ve (And.intro (eq_false h1) (And.intro (eq_false h2) (eq_false h3))) ?_
          refine x_lda H st26 ?_
          refine vs ?_
          refine x_callb H (implPostOk_ok w60 _ s (H.own (d := kPost) (fp := fp10) (cs := [s1, .int .i64 s.f_Time, s2, .int .i64 s.f_Sure]) (x := s) (by repeat (first | exact List.mem_cons_self | apply List.mem_cons_of_mem))) hsms) fun w61 H => ?_
          cases hS : postOk s with
          | false =>
            refine vs ?_
            first | exact ⟨rfl, H.bel⟩ | exact H.bel
          | true =>
            have hY1 : Y.f_Sure = (Y.f_Book.length : Int) := by rw [hY]; exact sync_sure hS
            have hY2 : postOk Y = true := by rw [hY]; exact sync_ok hS
            refine vs ?_
            refine x_ld H sc3 ?_
            refine vs ?_
            refine x_ld H sc22 ?_
            refine ve (eq_true hY1) ?_
            refine x_lda H st26 ?_
            refine ve (eq_true hY1) ?_
            refine x_callb H (implPostOk_ok w61 _ Y (H.own (d := kPost) (fp := fp12) (cs := [k1, .int .i64 Y.f_Time, .slice AY Y.f_Book.length cY, .int .i64 Y.f_Sure]) (x := Y) (by repeat (first | exact List.mem_cons_self | apply List.mem_cons_of_mem))) hsmY) fun w62 H => ?_
            rw [hY2]
            refine ve (eq_true hY1) ?_
            first | exact ⟨rfl, H.bel⟩ | exact H.bel
end Go.Proofs.YtdljbekkckfmnaaGreat.V
