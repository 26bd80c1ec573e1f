/- The law FnRootsOutlast, walked. Laid by a program. -/
import Derived.Test.YtdljbekkckfmnaaGreatWdt
import Derived.Test.YtdljbekkckfmnaaGreatWqz
import Derived.Test.YtdljbekkckfmnaaGreatPm
namespace Go.Proofs.YtdljbekkckfmnaaGreat.V
open Go Go.RowKit
set_option maxRecDepth 100000
set_option maxHeartbeats 8000000
set_option linter.unusedSimpArgs false
set_option linter.unusedVariables false
set_option pp.deepTerms false
set_option pp.deepTerms.threshold 3

theorem bigR_ok (w : World) (v : Value) (a : List UInt8) (h : (bytes 5).rd w w.heap.size [v] a) :
    ACalls Tryz.prog 9 #[v] w fun r w' => r = .bool (decide (1048576 < (a.length : Int))) ∧ w' = w := by
  obtain ⟨A, c, rfl, _, _, _⟩ := sl_open h
  refine body_of follows Tryz.func9 rfl rfl _ rfl (by kernel_rfl) (vs ?_)
  first | trivial | rfl | exact ⟨rfl, rfl⟩
theorem postRoot_32 {p : MPost} (h : postOk p = true) : ((postRoot p).length : Int) = 32 := by
  rw [postRoot_ok h, rootOf_32 _ _ (Nat.le_refl _) (linesOf_40 _) fun a ha => by have := (linesGo_len 40 p.f_Book).2 a ha; omega]; rfl
theorem postRoot_none {p : MPost} (h : postOk p = false) : postRoot p = [] := by
  unfold postRoot; rw [if_neg (by rw [h]; decide)]
theorem postRoot_0 {p : MPost} (h : postOk p = false) : ((postRoot p).length : Int) = 0 := by rw [postRoot_none h]; rfl
theorem postRoot_sync {p : MPost} (h : postOk p = true) : postRoot (syncP p) = postRoot p := by
  rw [postRoot_ok h, postRoot_ok (sync_ok h), syncP_book]
theorem FnRootsOutlast_ok (w : World) (v0 : Value) (x0 : List UInt8) (h0 : (bytes 5).rd w w.heap.size [v0] x0) :
    ACalls Tryz.prog 5 #[v0] w fun r w' => r = .bool true ∧ Below w.heap.size w w' := by
  refine body_of follows Tryz.func5 rfl rfl _ rfl (by kernel_rfl) (vs ?_)
  refine x_callw (bigR_ok w v0 x0 h0) ?_
  by_cases q0 : 1048576 < (x0.length : Int)
  · refine ve q0 ?_
    exact Below.refl ..
  refine ve q0 ?_
  have hx0 : x0.length ≤ 1048576 := by omega
  refine x_call (drawPostRoot_ok w v0 x0 h0) fun _ w1 ⟨cs, fp, p, e, hsm, H⟩ => ?_
  subst e
  obtain ⟨v1, v2, rfl, _⟩ := kPost_open (H.own (d := kPost) (fp := fp) (cs := cs) (x := p) (by simp))
  refine vs ?_
  refine x_al H st26 fun g3 w2 H => vs ?_
  refine x_sta H st26 (vs := [v1, .int .i64 p.f_Time, v2, .int .i64 p.f_Sure]) (h1 := Kd.one _ (H.own (d := kPost) (fp := fp) (cs := [v1, .int .i64 p.f_Time, v2, .int .i64 p.f_Sure]) (x := p) (by simp))) fun w3 H => vs ?_
  refine x_lda H st26 ?_
  refine vs ?_
  refine x_call (implSync_ok w3 _ p (H.own (d := kPost) (fp := fp) (cs := [v1, .int .i64 p.f_Time, v2, .int .i64 p.f_Sure]) (x := p) (by simp)) hsm) fun _ w4 ⟨cs2, fp2, e, S⟩ => ?_
  subst e
  have H := H.join S
  simp only [List.cons_append, List.nil_append] at H
  have hsmq := syncP_tot hsm
  obtain ⟨q, hq⟩ : ∃ q, q = syncP p := ⟨_, rfl⟩
  rw [← hq] at H hsmq
  obtain ⟨u1, u2, rfl, _⟩ := kPost_open (H.own (d := kPost) (fp := fp2) (cs := cs2) (x := q) (by simp))
  refine vs ?_
  refine x_al H st26 fun g4 w5 H => vs ?_
  refine x_sta H st26 (vs := [u1, .int .i64 q.f_Time, u2, .int .i64 q.f_Sure]) (h1 := Kd.one _ (H.own (d := kPost) (fp := fp2) (cs := [u1, .int .i64 q.f_Time, u2, .int .i64 q.f_Sure]) (x := q) (by simp))) fun w6 H => vs ?_
  refine cut_to (σ := Nat × Value × Value × MPost × List Nat) (fun y => [(0, v0), (3, .pointer (some ⟨g3, 0, none⟩)), (4, .pointer (some ⟨g4, 0, none⟩)), (5, .pointer (some ⟨y.1, 0, none⟩))])
    (fun y w' => (∃ k : Int, y.2.2.2.1 = fallP q k) ∧ Sep w.heap.size w w' [Ck.box y.1 [y.2.1, .int .i64 y.2.2.2.1.f_Time, y.2.2.1, .int .i64 y.2.2.2.1.f_Sure] 26, Ck.own kPost y.2.2.2.2 [y.2.1, .int .i64 y.2.2.2.1.f_Time, y.2.2.1, .int .i64 y.2.2.2.1.f_Sure] y.2.2.2.1, Ck.box g4 [u1, .int .i64 q.f_Time, u2, .int .i64 q.f_Sure] 26, Ck.own kPost fp2 [u1, .int .i64 q.f_Time, u2, .int .i64 q.f_Sure] q, Ck.box g3 [v1, .int .i64 p.f_Time, v2, .int .i64 p.f_Sure] 26, Ck.own kPost fp [v1, .int .i64 p.f_Time, v2, .int .i64 p.f_Sure] p]) ?_ ?_
  · have J := Sep.start w6
    refine fork_draw w6.heap.size [] fun w7 hh hb7 => ?_
    have J := J.go (hb7 _)
    have J3 := J
    refine rest_pre [(0, true), (1, true)] 4 ?_
    refine vs ?_
    refine q_ldaB H J3 st26 ?_
    refine vs ?_
    refine rest_fork 2 4 3 ?_ ?_
    · refine vs ?_
      refine x_call (at_ok _ v0 x0 1 (J.rd (H.rd h0)) (by decide) hx0) fun _ _ ⟨n1, e, hn1, ew⟩ => ?_
      subst e
      subst ew
      refine vs ?_
      refine ⟨kept_base J3 J, ?_⟩
      refine rest_fork 3 4 2 ?_ ?_
      · refine vs ?_
        refine x_call (implFallTo_ok _ _ q (n1 : Int) (J.rd (H.own (d := kPost) (fp := fp2) (cs := [u1, .int .i64 q.f_Time, u2, .int .i64 q.f_Sure]) (x := q) (by simp))) hsmq) fun _ wf ⟨cs3, fp3, e, S3⟩ => ?_
        subst e
        have J := J.join S3
        simp only [List.cons_append, List.nil_append] at J
        obtain ⟨f, hf⟩ : ∃ f, f = fallP q (n1 : Int) := ⟨_, rfl⟩
        rw [← hf] at J
        obtain ⟨z1, z2, rfl, _⟩ := kPost_open (J.own (d := kPost) (fp := fp3) (cs := cs3) (x := f) (by simp))
        refine vs ?_
        refine ⟨kept_base J3 J, ?_⟩
        refine rest_end [(4, false), (5, false)] ?_
        refine vs ?_
        refine x_al J st26 fun g5 wx J => vs ?_
        refine ⟨kept_base J3 J, ?_⟩
        refine x_sta J st26 (vs := [z1, .int .i64 f.f_Time, z2, .int .i64 f.f_Sure]) (h1 := Kd.one _ (J.own (d := kPost) (fp := fp3) (cs := [z1, .int .i64 f.f_Time, z2, .int .i64 f.f_Sure]) (x := f) (by simp))) fun wd J => vs ?_
        refine ⟨kept_base J3 J, ?_⟩
        have H := H.join J
        simp only [List.cons_append, List.nil_append] at H
        have H := H.front (c := Ck.own kPost fp3 [z1, .int .i64 f.f_Time, z2, .int .i64 f.f_Sure] f)
        have H := H.front (c := Ck.box g5 [z1, .int .i64 f.f_Time, z2, .int .i64 f.f_Sure] 26)
        exact ⟨(g5, z1, z2, f, fp3), vs trivial, ⟨_, hf⟩, H⟩
      · refine vs ?_
        refine x_al J st26 fun g5 wx J => vs ?_
        refine ⟨kept_base J3 J, ?_⟩
        refine rest_end [(3, false), (5, false)] ?_
        refine vs ?_
        refine x_call (implFallTo_ok _ _ q (n1 : Int) (J.rd (H.own (d := kPost) (fp := fp2) (cs := [u1, .int .i64 q.f_Time, u2, .int .i64 q.f_Sure]) (x := q) (by simp))) hsmq) fun _ wf ⟨cs3, fp3, e, S3⟩ => ?_
        subst e
        have J := J.join S3
        simp only [List.cons_append, List.nil_append] at J
        obtain ⟨f, hf⟩ : ∃ f, f = fallP q (n1 : Int) := ⟨_, rfl⟩
        rw [← hf] at J
        obtain ⟨z1, z2, rfl, _⟩ := kPost_open (J.own (d := kPost) (fp := fp3) (cs := cs3) (x := f) (by simp))
        refine vs ?_
        refine ⟨kept_base J3 J, ?_⟩
        refine x_sta J st26 (vs := [z1, .int .i64 f.f_Time, z2, .int .i64 f.f_Sure]) (h1 := Kd.one _ (J.own (d := kPost) (fp := fp3) (cs := [z1, .int .i64 f.f_Time, z2, .int .i64 f.f_Sure]) (x := f) (by simp))) fun wd J => vs ?_
        refine ⟨kept_base J3 J, ?_⟩
        have H := H.join J
        simp only [List.cons_append, List.nil_append] at H
        have H := H.front (c := Ck.own kPost fp3 [z1, .int .i64 f.f_Time, z2, .int .i64 f.f_Sure] f)
        have H := H.front (c := Ck.box g5 [z1, .int .i64 f.f_Time, z2, .int .i64 f.f_Sure] 26)
        exact ⟨(g5, z1, z2, f, fp3), vs trivial, ⟨_, hf⟩, H⟩
    · refine vs ?_
      refine x_al J st26 fun g5 wx J => vs ?_
      refine ⟨kept_base J3 J, ?_⟩
      refine rest_end [(2, false), (3, false), (5, false)] ?_
      refine vs ?_
      refine x_call (at_ok _ v0 x0 1 (J.rd (H.rd h0)) (by decide) hx0) fun _ _ ⟨n1, e, hn1, ew⟩ => ?_
      subst e
      subst ew
      refine vs ?_
      refine ⟨kept_base J3 J, ?_⟩
      refine x_call (implFallTo_ok _ _ q (n1 : Int) (J.rd (H.own (d := kPost) (fp := fp2) (cs := [u1, .int .i64 q.f_Time, u2, .int .i64 q.f_Sure]) (x := q) (by simp))) hsmq) fun _ wf ⟨cs3, fp3, e, S3⟩ => ?_
      subst e
      have J := J.join S3
      simp only [List.cons_append, List.nil_append] at J
      obtain ⟨f, hf⟩ : ∃ f, f = fallP q (n1 : Int) := ⟨_, rfl⟩
      rw [← hf] at J
      obtain ⟨z1, z2, rfl, _⟩ := kPost_open (J.own (d := kPost) (fp := fp3) (cs := cs3) (x := f) (by simp))
      refine vs ?_
      refine ⟨kept_base J3 J, ?_⟩
      refine x_sta J st26 (vs := [z1, .int .i64 f.f_Time, z2, .int .i64 f.f_Sure]) (h1 := Kd.one _ (J.own (d := kPost) (fp := fp3) (cs := [z1, .int .i64 f.f_Time, z2, .int .i64 f.f_Sure]) (x := f) (by simp))) fun wd J => vs ?_
      refine ⟨kept_base J3 J, ?_⟩
      have H := H.join J
      simp only [List.cons_append, List.nil_append] at H
      have H := H.front (c := Ck.own kPost fp3 [z1, .int .i64 f.f_Time, z2, .int .i64 f.f_Sure] f)
      have H := H.front (c := Ck.box g5 [z1, .int .i64 f.f_Time, z2, .int .i64 f.f_Sure] 26)
      exact ⟨(g5, z1, z2, f, fp3), vs trivial, ⟨_, hf⟩, H⟩
  rintro ⟨g5, z1, z2, f, fp3⟩ s w7 ⟨⟨kk, hf⟩, H⟩
  dsimp only at hf H
  refine vs ?_
  refine x_lda H st26 ?_
  refine vs ?_
  refine x_callb H (implPostOk_ok w7 _ p (H.own (d := kPost) (fp := fp) (cs := [v1, .int .i64 p.f_Time, v2, .int .i64 p.f_Sure]) (x := p) (by simp)) hsm) fun w8 H => ?_
  cases hok : postOk p with
  | false =>
    refine vs ?_
    refine x_lda H st26 ?_
    refine vs ?_
    refine x_callf H (implPostRoot_ok w8 _ p (H.own (d := kPost) (fp := fp) (cs := [v1, .int .i64 p.f_Time, v2, .int .i64 p.f_Sure]) (x := p) (by simp)) hsm) fun r f9 w9 H => ?_
    obtain ⟨A, c, rfl, _⟩ := sl_open (H.own (.head _))
    refine ve (postRoot_0 hok) ?_
    first | exact ⟨rfl, H.bel⟩ | exact H.bel
  | true =>
    refine vs ?_
    have hfq : f = q := by rw [hf, hq]; exact fall_sync hok kk
    subst hfq
    have hr : postRoot f = postRoot p := by rw [hq]; exact postRoot_sync hok
    have h32 := postRoot_32 hok
    have J := Sep.start w8
    refine draw_of [(0, true), (2, true), (1, false), (3, false), (4, false), (5, true), (6, true), (8, true), (7, false), (9, false), (10, false), (11, true), (12, true), (13, true), (14, false), (15, true), (16, true), (17, true), (18, true)] w8.heap.size [] fun w9 hh hb9 => vs ?_
    have J := J.go (hb9 _)
    have J3 := J
    refine q_ldaB H J3 st26 ?_
    refine vs ?_
    refine q_ldaB H J3 st26 ?_
    refine vs ?_
    refine x_callf J (implPostRoot_ok w9 _ f (J.rd (H.own (d := kPost) (fp := fp2) (cs := [u1, .int .i64 f.f_Time, u2, .int .i64 f.f_Sure]) (x := f) (by simp))) hsmq) fun ra fa wa J => vs ?_
    refine ⟨kept_base J3 J, ?_⟩
    refine x_callf J (implPostRoot_ok wa _ p (J.rd (H.own (d := kPost) (fp := fp) (cs := [v1, .int .i64 p.f_Time, v2, .int .i64 p.f_Sure]) (x := p) (by simp))) hsm) fun rb fb wb J => vs ?_
    refine ⟨kept_base J3 J, ?_⟩
    refine x_callw (implSame_ok wb _ _ (postRoot f) (postRoot p) (J.own (d := bytes 5) (fp := fa) (cs := [ra]) (by simp)) (J.own (d := bytes 5) (fp := fb) (cs := [rb]) (by simp))) ?_
    refine ve (eq_true hr) ?_
    refine ⟨kept_base J3 J, ?_⟩
    refine q_ldaB H J3 st26 ?_
    refine vs ?_
    refine q_ldaB H J3 st26 ?_
    refine vs ?_
    refine x_callf J (implPostRoot_ok wb _ f (J.rd (H.own (d := kPost) (fp := fp3) (cs := [z1, .int .i64 f.f_Time, z2, .int .i64 f.f_Sure]) (x := f) (by simp))) hsmq) fun rc fc wc J => vs ?_
    refine ⟨kept_base J3 J, ?_⟩
    refine x_callf J (implPostRoot_ok wc _ f (J.rd (H.own (d := kPost) (fp := fp2) (cs := [u1, .int .i64 f.f_Time, u2, .int .i64 f.f_Sure]) (x := f) (by simp))) hsmq) fun rd fd wd J => vs ?_
    refine ⟨kept_base J3 J, ?_⟩
    refine x_callw (implSame_ok wd _ _ (postRoot f) (postRoot f) (J.own (d := bytes 5) (fp := fc) (cs := [rc]) (by simp)) (J.own (d := bytes 5) (fp := fd) (cs := [rd]) (by simp))) ?_
    refine ve (eq_true (rfl : postRoot f = postRoot f)) ?_
    refine ⟨kept_base J3 J, ?_⟩
    refine q_ldaB H J3 st26 ?_
    refine vs ?_
    refine x_callf J (implPostRoot_ok wd _ p (J.rd (H.own (d := kPost) (fp := fp) (cs := [v1, .int .i64 p.f_Time, v2, .int .i64 p.f_Sure]) (x := p) (by simp))) hsm) fun re fe we J => ?_
    obtain ⟨A, c, rfl, _⟩ := sl_open (J.own (.head _))
    refine ve h32 ?_
    refine ⟨kept_base J3 J, ?_⟩
    first | exact ⟨rfl, (H.join J).bel⟩ | exact (H.join J).bel
end Go.Proofs.YtdljbekkckfmnaaGreat.V
