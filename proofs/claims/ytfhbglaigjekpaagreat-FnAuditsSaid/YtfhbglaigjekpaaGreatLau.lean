/- The law FnAudits, walked. Laid by a program. -/
import Derived.Test.YtfhbglaigjekpaaGreatWdx
import Derived.Test.YtfhbglaigjekpaaGreatWqz
import Derived.Test.YtfhbglaigjekpaaGreatPm
namespace Go.Proofs.YtfhbglaigjekpaaGreat.V
open Go Go.RowKit
set_option maxRecDepth 100000
set_option maxHeartbeats 16000000
set_option linter.unusedSimpArgs false
set_option linter.unusedVariables false
set_option pp.deepTerms false
set_option pp.deepTerms.threshold 3

theorem bigU_ok (w : World) (v : Value) (a : List UInt8) (h : (bytes 5).rd w w.heap.size [v] a) :
    ACalls Tryz.prog 31 #[v] w fun r w' => r = .bool (decide (1048576 < (a.length : Int))) ∧ w' = w := by
  obtain ⟨A, c, rfl, _, _, _⟩ := sl_open h
  refine body_of follows Tryz.func31 rfl rfl _ rfl (by kernel_rfl) (vs ?_)
  first | trivial | rfl | exact ⟨rfl, rfl⟩
theorem book_rdU {w : World} {n : Nat} {a b c d : Value} {p : MPost} (h : kPost.rd w n [a, c, b, d] p) : (bytes 5).rd w n [b] p.f_Book := by
  obtain ⟨v0, v2, e, _, _, h2, _⟩ := kPost_open h
  simp only [List.cons.injEq, and_true] at e
  obtain ⟨rfl, rfl, rfl, rfl⟩ := e
  exact h2
theorem few_grewU (p q : MPost) : Few' (postGrew p q).1 := fun y hy => by have := (postGrew_sm p q).2 y hy; omega
theorem few_proofU (p : MPost) (i : Int) : Few' (postProof p i).1 := fun y hy => by have := (postProof_sm p i).1.2 y hy; omega
theorem root_loU (p : MPost) : (postRoot p).length ≤ 1073741824 := by
  unfold postRoot
  split
  · have := rootOf_32 _ (linesOf p.f_Book) (Nat.le_refl _) (linesOf_40 _) fun a ha => by have := (linesGo_len 40 p.f_Book).2 a ha; omega
    omega
  · simp
theorem leaf_loU (b : List UInt8) : (leafOf b).length ≤ 1073741824 := by have := leafOf_len b; omega
theorem grown_goodU {p p' : MPost} (h : (postGrew p p').2 = true) : grownOk (postRoot p) (postRoot p') (linesOf p.f_Book).length (linesOf p'.f_Book).length (postGrew p p').1 = true := by
  by_cases hc : postOk p = true ∧ postOk p' = true ∧ (1 ≤ (linesOf p.f_Book).length ∧ (linesOf p.f_Book).length ≤ (linesOf p'.f_Book).length) ∧ linesOf p.f_Book = (linesOf p'.f_Book).take (linesOf p.f_Book).length
  · have e := postGrew_ok hc
    obtain ⟨hp, hp', ⟨h1, h2⟩, h3⟩ := hc
    have h40 := linesOf_40 p'.f_Book
    have hl32 : (rootOf (linesOf p'.f_Book)).length = 32 := rootOf_32 _ _ (Nat.le_refl _) h40 fun a ha => by have := (linesGo_len 40 p'.f_Book).2 a ha; omega
    have g := (grownOk_right (l := linesOf p'.f_Book) (m := ((linesOf p.f_Book).length : Int)) ⟨by omega, by omega, h40⟩ [] [] (fun e => by rw [e] at hl32; cases hl32)).1
    rw [Int.toNat_natCast, ← h3] at g
    rw [e, postRoot_ok hp, postRoot_ok hp']
    exact g
  · rw [postGrew_bad hc] at h; cases h
theorem proof_goodU {p : MPost} {i : Int} (h : (postProof p i).2.2 = true) : rootBy (leafOf (postProof p i).2.1) i (linesOf p.f_Book).length (postProof p i).1 = some (postRoot p) := by
  by_cases hc : postOk p = true ∧ (0 ≤ i ∧ i ≤ ((linesOf p.f_Book).length : Int) - 1)
  · rw [postProof_ok hc.1 hc.2, postRoot_ok hc.1]
    exact (rootBy_right (l := linesOf p.f_Book) (i := i) ⟨hc.2.1, by omega⟩ (linesOf_40 _) []).1
  · rw [postProof_bad hc] at h; cases h

theorem FnAudits_ok (w0 : World) (v0 : Value) (x0 : List UInt8) (h0 : (bytes 5).rd w0 w0.heap.size [v0] x0) :
    ACalls Tryz.prog 9 #[v0] w0 fun r w' => r = .bool true ∧ Below w0.heap.size w0 w' := by
  refine body_of follows Tryz.func9 rfl rfl _ rfl (by kernel_rfl) (vs ?_)
  refine x_callw (bigU_ok w0 v0 x0 h0) ?_
  by_cases q0 : 1048576 < (x0.length : Int)
  · refine ve q0 ?_
    exact Below.refl ..
  refine ve q0 ?_
  refine x_call (drawLinesOf_ok w0 v0 x0 h0) fun rb w1 ⟨b, fb, hb, H⟩ => ?_
  refine vs ?_
  refine x_callf H (implLinesOf_ok w1 _ b (H.own (d := bytes 5) (fp := fb) (cs := [rb]) (x := b) (by repeat (first | exact List.mem_cons_self | apply List.mem_cons_of_mem))) (by omega)) fun rl fl w2 H => ?_
  refine vs ?_
  refine x_call (drawPostRoot_ok w2 v0 x0 (H.rd h0)) fun _ w3 ⟨cs1, fp, p, e, hsm, S⟩ => ?_
  subst e
  have H := H.join S
  simp only [List.cons_append, List.nil_append] at H
  obtain ⟨p1, p2, rfl, _⟩ := kPost_open (H.own (d := kPost) (fp := fp) (cs := cs1) (x := p) (by repeat (first | exact List.mem_cons_self | apply List.mem_cons_of_mem)))
  refine vs ?_
  refine x_al H st37 fun g5 w4 H => vs ?_
  refine x_sta H st37 (vs := [p1, .int .i64 p.f_Time, p2, .int .i64 p.f_Sure]) (h1 := Kd.one _ (H.own (d := kPost) (fp := fp) (cs := [p1, .int .i64 p.f_Time, p2, .int .i64 p.f_Sure]) (x := p) (by repeat (first | exact List.mem_cons_self | apply List.mem_cons_of_mem)))) fun w5 H => vs ?_
  refine x_call (drawPostProof_ok w5 v0 x0 (H.rd h0)) fun _ w6 ⟨cs2, fq, q, i, e, hsmq, hi, S⟩ => ?_
  subst e
  have H := H.join S
  simp only [List.cons_append, List.nil_append] at H
  obtain ⟨q1, q2, rfl, _⟩ := kPost_open (H.own (d := kPost) (fp := fq) (cs := cs2) (x := q) (by repeat (first | exact List.mem_cons_self | apply List.mem_cons_of_mem)))
  refine vs ?_
  refine x_al H st37 fun g6 w7 H => vs ?_
  refine x_sta H st37 (vs := [q1, .int .i64 q.f_Time, q2, .int .i64 q.f_Sure]) (h1 := Kd.one _ (H.own (d := kPost) (fp := fq) (cs := [q1, .int .i64 q.f_Time, q2, .int .i64 q.f_Sure]) (x := q) (by repeat (first | exact List.mem_cons_self | apply List.mem_cons_of_mem)))) fun w8 H => vs ?_
  refine x_lda H st37 ?_
  refine vs ?_
  refine x_call (implPostProof_ok w8 _ q i (H.own (d := kPost) (fp := fq) (cs := [q1, .int .i64 q.f_Time, q2, .int .i64 q.f_Sure]) (x := q) (by repeat (first | exact List.mem_cons_self | apply List.mem_cons_of_mem))) hsmq hi) fun _ w9 ⟨a1, fa1, a2, fa2, e, S⟩ => ?_
  obtain ⟨E, hE⟩ : ∃ E, E = postProof q i := ⟨_, rfl⟩
  rw [← hE] at e S
  subst e
  have H := H.join S
  simp only [List.cons_append, List.nil_append] at H
  refine vs ?_
  refine x_lda H st37 ?_
  refine vs ?_
  refine x_call (specPostProof_ok w9 _ q i (H.own (d := kPost) (fp := fq) (cs := [q1, .int .i64 q.f_Time, q2, .int .i64 q.f_Sure]) (x := q) (by repeat (first | exact List.mem_cons_self | apply List.mem_cons_of_mem))) hsmq hi) fun _ w10 ⟨b1, fb1, b2, fb2, e, S⟩ => ?_
  rw [← hE] at e S
  subst e
  have H := H.join S
  simp only [List.cons_append, List.nil_append] at H
  refine vs ?_
  refine x_call (drawPostGrew_ok w10 v0 x0 (H.rd h0)) fun _ w11 ⟨cs3, fs, s, cs4, ft, t, e, hsms, hsmt, S⟩ => ?_
  subst e
  have H := H.join S
  simp only [List.cons_append, List.nil_append] at H
  obtain ⟨s1, s2, rfl, _⟩ := kPost_open (H.own (d := kPost) (fp := fs) (cs := cs3) (x := s) (by repeat (first | exact List.mem_cons_self | apply List.mem_cons_of_mem)))
  obtain ⟨t1, t2, rfl, _⟩ := kPost_open (H.own (d := kPost) (fp := ft) (cs := cs4) (x := t) (by repeat (first | exact List.mem_cons_self | apply List.mem_cons_of_mem)))
  refine vs ?_
  refine x_al H st37 fun g14 w12 H => vs ?_
  refine x_al H st37 fun g15 w13 H => vs ?_
  refine x_sta H st37 (vs := [s1, .int .i64 s.f_Time, s2, .int .i64 s.f_Sure]) (h1 := Kd.one _ (H.own (d := kPost) (fp := fs) (cs := [s1, .int .i64 s.f_Time, s2, .int .i64 s.f_Sure]) (x := s) (by repeat (first | exact List.mem_cons_self | apply List.mem_cons_of_mem)))) fun w14 H => vs ?_
  refine x_sta H st37 (vs := [t1, .int .i64 t.f_Time, t2, .int .i64 t.f_Sure]) (h1 := Kd.one _ (H.own (d := kPost) (fp := ft) (cs := [t1, .int .i64 t.f_Time, t2, .int .i64 t.f_Sure]) (x := t) (by repeat (first | exact List.mem_cons_self | apply List.mem_cons_of_mem)))) fun w15 H => vs ?_
  refine x_lda H st37 ?_
  refine vs ?_
  refine x_lda H st37 ?_
  refine vs ?_
  refine x_call (implPostGrew_ok w15 _ s _ t (H.own (d := kPost) (fp := fs) (cs := [s1, .int .i64 s.f_Time, s2, .int .i64 s.f_Sure]) (x := s) (by repeat (first | exact List.mem_cons_self | apply List.mem_cons_of_mem))) (H.own (d := kPost) (fp := ft) (cs := [t1, .int .i64 t.f_Time, t2, .int .i64 t.f_Sure]) (x := t) (by repeat (first | exact List.mem_cons_self | apply List.mem_cons_of_mem))) hsms hsmt) fun _ w16 ⟨d1, fd1, e, S⟩ => ?_
  obtain ⟨D, hD⟩ : ∃ D, D = postGrew s t := ⟨_, rfl⟩
  rw [← hD] at e S
  subst e
  have H := H.join S
  simp only [List.cons_append, List.nil_append] at H
  refine vs ?_
  refine x_lda H st37 ?_
  refine vs ?_
  refine x_lda H st37 ?_
  refine vs ?_
  refine x_call (specPostGrew_ok w16 _ s _ t (H.own (d := kPost) (fp := fs) (cs := [s1, .int .i64 s.f_Time, s2, .int .i64 s.f_Sure]) (x := s) (by repeat (first | exact List.mem_cons_self | apply List.mem_cons_of_mem))) (H.own (d := kPost) (fp := ft) (cs := [t1, .int .i64 t.f_Time, t2, .int .i64 t.f_Sure]) (x := t) (by repeat (first | exact List.mem_cons_self | apply List.mem_cons_of_mem))) hsms hsmt) fun _ w17 ⟨e1, fe1, e, S⟩ => ?_
  rw [← hD] at e S
  subst e
  have H := H.join S
  simp only [List.cons_append, List.nil_append] at H
  refine vs ?_
  refine cut_to (σ := Unit) (fun _ => [(6, .pointer (some ⟨g6, 0, none⟩)), (7, .int .i64 i), (8, a1), (9, a2), (10, .bool E.2.2), (14, .pointer (some ⟨g14, 0, none⟩)), (15, .pointer (some ⟨g15, 0, none⟩)), (16, d1), (17, .bool D.2), (106, .bool false)])
    (fun _ w' => Sep w0.heap.size w0 w' [Ck.box g6 [q1, .int .i64 q.f_Time, q2, .int .i64 q.f_Sure] 37, Ck.box g14 [s1, .int .i64 s.f_Time, s2, .int .i64 s.f_Sure] 37, Ck.box g15 [t1, .int .i64 t.f_Time, t2, .int .i64 t.f_Sure] 37, Ck.own kPost fq [q1, .int .i64 q.f_Time, q2, .int .i64 q.f_Sure] q, Ck.own kPost fs [s1, .int .i64 s.f_Time, s2, .int .i64 s.f_Sure] s, Ck.own kPost ft [t1, .int .i64 t.f_Time, t2, .int .i64 t.f_Sure] t, Ck.own LLs fa1 [a1] E.1, Ck.own (bytes 5) fa2 [a2] E.2.1, Ck.own LLs fd1 [d1] D.1]) ?_ ?_
  · skip
    have J := Sep.start w17
    refine draw_of [(0, true), (1, true), (2, false), (3, false), (4, true), (5, true), (6, true), (8, true), (7, false), (9, false), (10, false), (11, true), (12, true), (13, true), (14, true), (15, true), (16, true), (17, true), (18, true), (19, true), (20, true), (21, false), (22, true), (23, true), (24, true), (25, true), (26, true), (27, false), (28, true), (29, true), (30, true), (31, true), (32, true), (33, true), (34, true), (35, true), (36, true), (37, true), (38, false), (39, true), (40, true)] w17.heap.size [] fun w18 hh hbj => vs ?_
    have J := J.go (hbj _)
    have J3 := J
    refine x_callf J (specLinesOf_ok w18 _ b (J.rd (H.own (d := bytes 5) (fp := fb) (cs := [rb]) (x := b) (by repeat (first | exact List.mem_cons_self | apply List.mem_cons_of_mem)))) (by omega)) fun rm fm w19 J => ?_
    refine vs ?_
    refine ⟨kept_base J3 J, ?_⟩
    refine x_callb J (lawsSameLists_ok w19 _ _ (linesOf b) (J.rd (H.own (d := LLs) (fp := fl) (cs := [rl]) (x := linesOf b) (by repeat (first | exact List.mem_cons_self | apply List.mem_cons_of_mem)))) (J.own (d := LLs) (fp := fm) (cs := [rm]) (x := linesOf b) (by repeat (first | exact List.mem_cons_self | apply List.mem_cons_of_mem)))) fun w20 J => ?_
    refine vs ?_
    refine ⟨kept_base J3 J, ?_⟩
    refine q_ldaB H J3 st37 ?_
    refine vs ?_
    refine q_ldaB H J3 st37 ?_
    refine vs ?_
    refine x_callf J (implPostRoot_ok w20 _ p (J.rd (H.own (d := kPost) (fp := fp) (cs := [p1, .int .i64 p.f_Time, p2, .int .i64 p.f_Sure]) (x := p) (by repeat (first | exact List.mem_cons_self | apply List.mem_cons_of_mem)))) hsm) fun r1 f1 w21 J => ?_
    refine vs ?_
    refine ⟨kept_base J3 J, ?_⟩
    refine x_callf J (specPostRoot_ok w21 _ p (J.rd (H.own (d := kPost) (fp := fp) (cs := [p1, .int .i64 p.f_Time, p2, .int .i64 p.f_Sure]) (x := p) (by repeat (first | exact List.mem_cons_self | apply List.mem_cons_of_mem)))) hsm) fun r2 f2 w22 J => ?_
    refine vs ?_
    refine ⟨kept_base J3 J, ?_⟩
    refine x_callw (implSame_ok w22 _ _ (postRoot p) (postRoot p) (J.own (d := bytes 5) (fp := f1) (cs := [r1]) (x := postRoot p) (by repeat (first | exact List.mem_cons_self | apply List.mem_cons_of_mem))) (J.own (d := bytes 5) (fp := f2) (cs := [r2]) (x := postRoot p) (by repeat (first | exact List.mem_cons_self | apply List.mem_cons_of_mem)))) ?_
    refine ve (eq_true (rfl : (postRoot p) = (postRoot p))) ?_
    refine ⟨kept_base J3 J, ?_⟩
    refine x_callb J (lawsSameLists_ok w22 _ _ E.1 (J.rd (H.own (d := LLs) (fp := fa1) (cs := [a1]) (x := E.1) (by repeat (first | exact List.mem_cons_self | apply List.mem_cons_of_mem)))) (J.rd (H.own (d := LLs) (fp := fb1) (cs := [b1]) (x := E.1) (by repeat (first | exact List.mem_cons_self | apply List.mem_cons_of_mem))))) fun w23 J => ?_
    refine vs ?_
    refine ⟨kept_base J3 J, ?_⟩
    refine x_callw (implSame_ok w23 _ _ E.2.1 E.2.1 (J.rd (H.own (d := bytes 5) (fp := fa2) (cs := [a2]) (x := E.2.1) (by repeat (first | exact List.mem_cons_self | apply List.mem_cons_of_mem)))) (J.rd (H.own (d := bytes 5) (fp := fb2) (cs := [b2]) (x := E.2.1) (by repeat (first | exact List.mem_cons_self | apply List.mem_cons_of_mem))))) ?_
    refine ve (eq_true (rfl : E.2.1 = E.2.1)) ?_
    refine ⟨kept_base J3 J, ?_⟩
    refine x_callb J (lawsSameLists_ok w23 _ _ D.1 (J.rd (H.own (d := LLs) (fp := fd1) (cs := [d1]) (x := D.1) (by repeat (first | exact List.mem_cons_self | apply List.mem_cons_of_mem)))) (J.rd (H.own (d := LLs) (fp := fe1) (cs := [e1]) (x := D.1) (by repeat (first | exact List.mem_cons_self | apply List.mem_cons_of_mem))))) fun w24 J => ?_
    refine vs ?_
    refine ⟨kept_base J3 J, ?_⟩
    have H := H.join J
    simp only [List.cons_append, List.nil_append] at H
    have H := H.front (c := Ck.own LLs fd1 [d1] D.1)
    have H := H.front (c := Ck.own (bytes 5) fa2 [a2] E.2.1)
    have H := H.front (c := Ck.own LLs fa1 [a1] E.1)
    have H := H.front (c := Ck.own kPost ft [t1, .int .i64 t.f_Time, t2, .int .i64 t.f_Sure] t)
    have H := H.front (c := Ck.own kPost fs [s1, .int .i64 s.f_Time, s2, .int .i64 s.f_Sure] s)
    have H := H.front (c := Ck.own kPost fq [q1, .int .i64 q.f_Time, q2, .int .i64 q.f_Sure] q)
    have H := H.front (c := Ck.box g15 [t1, .int .i64 t.f_Time, t2, .int .i64 t.f_Sure] 37)
    have H := H.front (c := Ck.box g14 [s1, .int .i64 s.f_Time, s2, .int .i64 s.f_Sure] 37)
    have H := H.front (c := Ck.box g6 [q1, .int .i64 q.f_Time, q2, .int .i64 q.f_Sure] 37)
    exact ⟨(), Sep.left (L := [Ck.box g6 [q1, .int .i64 q.f_Time, q2, .int .i64 q.f_Sure] 37, Ck.box g14 [s1, .int .i64 s.f_Time, s2, .int .i64 s.f_Sure] 37, Ck.box g15 [t1, .int .i64 t.f_Time, t2, .int .i64 t.f_Sure] 37, Ck.own kPost fq [q1, .int .i64 q.f_Time, q2, .int .i64 q.f_Sure] q, Ck.own kPost fs [s1, .int .i64 s.f_Time, s2, .int .i64 s.f_Sure] s, Ck.own kPost ft [t1, .int .i64 t.f_Time, t2, .int .i64 t.f_Sure] t, Ck.own LLs fa1 [a1] E.1, Ck.own (bytes 5) fa2 [a2] E.2.1, Ck.own LLs fd1 [d1] D.1]) H⟩
  rintro ⟨⟩ s9 w25 H
  have hfe : Few' E.1 := by rw [hE]; exact few_proofU q i
  have hfd : Few' D.1 := by rw [hD]; exact few_grewU s t
  refine vs ?_
  cases hA : E.2.2 with
  | false =>
    refine vs ?_
    cases hG : D.2 with
    | false =>
      refine draw_of [(0, true), (1, true), (2, true), (3, true), (5, true), (7, true), (8, true), (11, true), (12, true), (15, true), (4, false), (6, false), (9, false), (10, true), (13, false), (14, true), (16, false), (17, true), (18, true)] w25.heap.size [] fun w26 hh hbj => vs ?_
      refine ⟨Kept.refl .., Kept.refl .., Kept.refl .., Kept.refl .., Kept.refl .., ?_⟩
      first | exact ⟨rfl, (H.go (hbj _)).bel⟩ | exact (H.go (hbj _)).bel
    | true =>
      have gg := by have := grown_goodU (p := s) (p' := t) (by rw [← hD]; exact hG); rw [← hD] at this; exact this
      have J := Sep.start w25
      refine draw_of [(0, true), (1, true), (2, true), (3, true), (5, true), (7, true), (8, true), (11, true), (12, true), (15, true), (4, false), (6, false), (9, false), (10, true), (13, false), (14, true), (16, false), (17, true), (18, true)] w25.heap.size [] fun w26 hh hbj => vs ?_
      have J := J.go (hbj _)
      have J3 := J
      refine q_ldaB H J3 st37 ?_
      refine vs ?_
      refine q_ldaB H J3 st37 ?_
      refine vs ?_
      refine q_ldB H J3 sc22 ?_
      refine vs ?_
      refine q_ldB H J3 sc22 ?_
      refine vs ?_
      refine x_callf J (implPostRoot_ok w26 _ s (J.rd (H.own (d := kPost) (fp := fs) (cs := [s1, .int .i64 s.f_Time, s2, .int .i64 s.f_Sure]) (x := s) (by repeat (first | exact List.mem_cons_self | apply List.mem_cons_of_mem)))) hsms) fun ra fra w27 J => ?_
      refine vs ?_
      refine ⟨kept_base J3 J, ?_⟩
      refine x_callf J (implPostRoot_ok w27 _ t (J.rd (H.own (d := kPost) (fp := ft) (cs := [t1, .int .i64 t.f_Time, t2, .int .i64 t.f_Sure]) (x := t) (by repeat (first | exact List.mem_cons_self | apply List.mem_cons_of_mem)))) hsmt) fun rc frc w28 J => ?_
      refine vs ?_
      refine ⟨kept_base J3 J, ?_⟩
      refine x_callf J (implLinesOf_ok w28 _ s.f_Book (J.rd (book_rdU (H.own (d := kPost) (fp := fs) (cs := [s1, .int .i64 s.f_Time, s2, .int .i64 s.f_Sure]) (x := s) (by repeat (first | exact List.mem_cons_self | apply List.mem_cons_of_mem))))) (by have := hsms.2; omega)) fun rd frd w29 J => ?_
      obtain ⟨Ac, kAc, rfl, _⟩ := sl_open (J.own (.head _))
      refine vs ?_
      refine ⟨kept_base J3 J, ?_⟩
      refine x_callf J (implLinesOf_ok w29 _ t.f_Book (J.rd (book_rdU (H.own (d := kPost) (fp := ft) (cs := [t1, .int .i64 t.f_Time, t2, .int .i64 t.f_Sure]) (x := t) (by repeat (first | exact List.mem_cons_self | apply List.mem_cons_of_mem))))) (by have := hsmt.2; omega)) fun re fre w30 J => ?_
      obtain ⟨Ad, kAd, rfl, _⟩ := sl_open (J.own (.head _))
      refine vs ?_
      refine ⟨kept_base J3 J, ?_⟩
      refine x_callb J (implGrownOk_ok w30 _ (postRoot s) _ (postRoot t) _ _ _ D.1 (J.own (d := bytes 5) (fp := fra) (cs := [ra]) (x := postRoot s) (by repeat (first | exact List.mem_cons_self | apply List.mem_cons_of_mem))) (J.own (d := bytes 5) (fp := frc) (cs := [rc]) (x := postRoot t) (by repeat (first | exact List.mem_cons_self | apply List.mem_cons_of_mem))) (J.rd (H.own (d := LLs) (fp := fd1) (cs := [d1]) (x := D.1) (by repeat (first | exact List.mem_cons_self | apply List.mem_cons_of_mem)))) (root_loU s) hfd) fun w31 J => ?_
      rw [gg]
      refine vs ?_
      refine ⟨kept_base J3 J, ?_⟩
      first | exact ⟨rfl, (H.join J).bel⟩ | exact (H.join J).bel
  | true =>
    have gp := by have := proof_goodU (p := q) (i := i) (by rw [← hE]; exact hA); rw [← hE] at this; exact this
    refine vs ?_
    have J := Sep.start w25
    refine draw_of [(0, true), (2, true), (3, true), (4, true), (7, true), (1, false), (5, false), (6, true), (8, false), (9, true), (10, true), (11, true), (12, true), (13, true)] w25.heap.size [] fun w26 hh hbj => vs ?_
    have J := J.go (hbj _)
    have J3 := J
    refine q_ldB H J3 sc22 ?_
    refine vs ?_
    refine x_callf J (implLeafOf_ok w26 _ E.2.1 (J.rd (H.own (d := bytes 5) (fp := fa2) (cs := [a2]) (x := E.2.1) (by repeat (first | exact List.mem_cons_self | apply List.mem_cons_of_mem)))) (by have := (postProof_sm q i).2; rw [← hE] at this; omega)) fun rf frf w27 J => ?_
    refine vs ?_
    refine ⟨kept_base J3 J, ?_⟩
    refine x_callf J (implLinesOf_ok w27 _ q.f_Book (J.rd (book_rdU (H.own (d := kPost) (fp := fq) (cs := [q1, .int .i64 q.f_Time, q2, .int .i64 q.f_Sure]) (x := q) (by repeat (first | exact List.mem_cons_self | apply List.mem_cons_of_mem))))) (by have := hsmq.2; omega)) fun rg frg w28 J => ?_
    obtain ⟨Ag, kg, rfl, _⟩ := sl_open (J.own (.head _))
    refine vs ?_
    refine ⟨kept_base J3 J, ?_⟩
    refine x_call (implRootBy_ok w28 _ (leafOf E.2.1) i _ _ E.1 (J.own (d := bytes 5) (fp := frf) (cs := [rf]) (x := leafOf E.2.1) (by repeat (first | exact List.mem_cons_self | apply List.mem_cons_of_mem))) (J.rd (H.own (d := LLs) (fp := fa1) (cs := [a1]) (x := E.1) (by repeat (first | exact List.mem_cons_self | apply List.mem_cons_of_mem)))) (leaf_loU _) hfe) fun _ w29 ⟨vr, fr, e, S⟩ => ?_
    rw [gp] at e S
    simp only [Option.isSome_some, Option.getD_some] at e S
    subst e
    have J := J.join S
    simp only [List.cons_append, List.nil_append] at J
    refine vs ?_
    refine ⟨kept_base J3 J, ?_⟩
    refine q_ext (v := vr) ?_
    refine vs ?_
    refine q_ext (v := .bool true) ?_
    refine vs ?_
    have H := H.join J
    simp only [List.cons_append, List.nil_append] at H
    have H := H.front (c := Ck.own (bytes 5) fr [vr] (postRoot q))
    refine x_lda H st37 ?_
    refine vs ?_
    refine x_callf H (implPostRoot_ok w29 _ q (H.own (d := kPost) (fp := fq) (cs := [q1, .int .i64 q.f_Time, q2, .int .i64 q.f_Sure]) (x := q) (by repeat (first | exact List.mem_cons_self | apply List.mem_cons_of_mem))) hsmq) fun rh frh w30 H => ?_
    refine vs ?_
    refine x_callw (implSame_ok w30 _ _ (postRoot q) (postRoot q) (H.own (d := bytes 5) (fp := fr) (cs := [vr]) (x := postRoot q) (by repeat (first | exact List.mem_cons_self | apply List.mem_cons_of_mem))) (H.own (d := bytes 5) (fp := frh) (cs := [rh]) (x := postRoot q) (by repeat (first | exact List.mem_cons_self | apply List.mem_cons_of_mem)))) ?_
    refine ve (eq_true (rfl : postRoot q = postRoot q)) ?_
    cases hG : D.2 with
    | false =>
      refine draw_of [(0, true), (1, true), (2, true), (3, true), (5, true), (7, true), (8, true), (11, true), (12, true), (15, true), (4, false), (6, false), (9, false), (10, true), (13, false), (14, true), (16, false), (17, true), (18, true)] w30.heap.size [] fun w31 hh hbj => vs ?_
      refine ⟨Kept.refl .., Kept.refl .., Kept.refl .., Kept.refl .., Kept.refl .., ?_⟩
      first | exact ⟨rfl, (H.go (hbj _)).bel⟩ | exact (H.go (hbj _)).bel
    | true =>
      have gg := by have := grown_goodU (p := s) (p' := t) (by rw [← hD]; exact hG); rw [← hD] at this; exact this
      have J := Sep.start w30
      refine draw_of [(0, true), (1, true), (2, true), (3, true), (5, true), (7, true), (8, true), (11, true), (12, true), (15, true), (4, false), (6, false), (9, false), (10, true), (13, false), (14, true), (16, false), (17, true), (18, true)] w30.heap.size [] fun w31 hh hbj => vs ?_
      have J := J.go (hbj _)
      have J3 := J
      refine q_ldaB H J3 st37 ?_
      refine vs ?_
      refine q_ldaB H J3 st37 ?_
      refine vs ?_
      refine q_ldB H J3 sc22 ?_
      refine vs ?_
      refine q_ldB H J3 sc22 ?_
      refine vs ?_
      refine x_callf J (implPostRoot_ok w31 _ s (J.rd (H.own (d := kPost) (fp := fs) (cs := [s1, .int .i64 s.f_Time, s2, .int .i64 s.f_Sure]) (x := s) (by repeat (first | exact List.mem_cons_self | apply List.mem_cons_of_mem)))) hsms) fun ra fra w32 J => ?_
      refine vs ?_
      refine ⟨kept_base J3 J, ?_⟩
      refine x_callf J (implPostRoot_ok w32 _ t (J.rd (H.own (d := kPost) (fp := ft) (cs := [t1, .int .i64 t.f_Time, t2, .int .i64 t.f_Sure]) (x := t) (by repeat (first | exact List.mem_cons_self | apply List.mem_cons_of_mem)))) hsmt) fun rc frc w33 J => ?_
      refine vs ?_
      refine ⟨kept_base J3 J, ?_⟩
      refine x_callf J (implLinesOf_ok w33 _ s.f_Book (J.rd (book_rdU (H.own (d := kPost) (fp := fs) (cs := [s1, .int .i64 s.f_Time, s2, .int .i64 s.f_Sure]) (x := s) (by repeat (first | exact List.mem_cons_self | apply List.mem_cons_of_mem))))) (by have := hsms.2; omega)) fun rd frd w34 J => ?_
      obtain ⟨Ac, kAc, rfl, _⟩ := sl_open (J.own (.head _))
      refine vs ?_
      refine ⟨kept_base J3 J, ?_⟩
      refine x_callf J (implLinesOf_ok w34 _ t.f_Book (J.rd (book_rdU (H.own (d := kPost) (fp := ft) (cs := [t1, .int .i64 t.f_Time, t2, .int .i64 t.f_Sure]) (x := t) (by repeat (first | exact List.mem_cons_self | apply List.mem_cons_of_mem))))) (by have := hsmt.2; omega)) fun re fre w35 J => ?_
      obtain ⟨Ad, kAd, rfl, _⟩ := sl_open (J.own (.head _))
      refine vs ?_
      refine ⟨kept_base J3 J, ?_⟩
      refine x_callb J (implGrownOk_ok w35 _ (postRoot s) _ (postRoot t) _ _ _ D.1 (J.own (d := bytes 5) (fp := fra) (cs := [ra]) (x := postRoot s) (by repeat (first | exact List.mem_cons_self | apply List.mem_cons_of_mem))) (J.own (d := bytes 5) (fp := frc) (cs := [rc]) (x := postRoot t) (by repeat (first | exact List.mem_cons_self | apply List.mem_cons_of_mem))) (J.rd (H.own (d := LLs) (fp := fd1) (cs := [d1]) (x := D.1) (by repeat (first | exact List.mem_cons_self | apply List.mem_cons_of_mem)))) (root_loU s) hfd) fun w36 J => ?_
      rw [gg]
      refine vs ?_
      refine ⟨kept_base J3 J, ?_⟩
      first | exact ⟨rfl, (H.join J).bel⟩ | exact (H.join J).bel
end Go.Proofs.YtfhbglaigjekpaaGreat.V
