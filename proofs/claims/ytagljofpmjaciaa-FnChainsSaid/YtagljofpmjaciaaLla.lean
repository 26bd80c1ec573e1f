/- The law of chains and draws, walked. -/
import Derived.Test.YtagljofpmjaciaaWdj
import Derived.Test.YtagljofpmjaciaaWsa
namespace Go.Proofs.Ytagljofpmjaciaa.V
open Go Go.RowKit
set_option maxRecDepth 100000
set_option maxHeartbeats 8000000
set_option linter.unusedSimpArgs false
set_option linter.unusedVariables false
set_option pp.deepTerms false
set_option pp.deepTerms.threshold 3

theorem bigC_ok (w : World) (v : Value) (a : List UInt8) (h : (bytes 5).rd w w.heap.size [v] a) :
    ACalls Try.prog 12 #[v] w fun r w' => r = .bool (decide (1048576 < (a.length : Int))) ∧ w' = w := by
  obtain ⟨A, c, rfl, _⟩ := sl_open h
  exact body_of follows Try.func12 rfl rfl _ rfl (by kernel_rfl) (vs trivial)
theorem FnChains_ok (w : World) (v0 : Value) (x0 : List UInt8) (h0 : (bytes 5).rd w w.heap.size [v0] x0) :
    ACalls Try.prog 10 #[v0] w fun r w' => r = .bool true ∧ Below w.heap.size w w' := by
  refine body_of follows Try.func10 rfl rfl _ rfl (by kernel_rfl) (vs ?_)
  refine x_callw (bigC_ok w v0 x0 h0) ?_
  by_cases q0 : 1048576 < (x0.length : Int)
  · refine ve q0 ?_
    exact Below.refl ..
  refine ve q0 ?_
  refine x_call (drawChainNext_ok w v0 x0 h0) fun _ w1 ⟨c, cs, e, hsc, hb1, R3⟩ => ?_
  subst e
  have J := (Sep.start w).go hb1
  have K := Sep.start w1
  obtain ⟨k0, rfl, _, hcN⟩ := kChain_open R3
  have hone3 := Kd.one _ R3
  refine vs ?_
  refine x_al K st43 fun g3 w2 K => vs ?_
  refine x_sta (vs := [k0, .int .i64 c.f_N]) K st43 (h1 := hone3) fun w3 K => vs ?_
  refine x_lda K st43 ?_
  refine vs ?_
  refine x_call (implChainNext_ok w3 _ c (K.rd R3) hsc) fun _ w4 ⟨cs4, f4, v4, f5, e, S⟩ => ?_
  subst e
  have K := K.join S
  simp only [List.cons_append, List.nil_append] at K
  obtain ⟨k4, rfl, _, _⟩ := kChain_open (K.own (.head _))
  have hone4 := Kd.one _ (K.own (.head _))
  obtain ⟨A4, d4, rfl, _⟩ := sl_open (K.own (.tail _ (.head _)))
  refine vs ?_
  refine x_al K st43 fun g4 w5 K => vs ?_
  refine x_sta (vs := [k4, .int .i64 (chainNextC c).f_N]) K st43 (h1 := hone4) fun w6 K => vs ?_
  refine x_lda K st43 ?_
  refine vs ?_
  refine x_call (specChainNext_ok w6 _ c (K.rd R3) hsc) fun _ w7 ⟨cs7, f7, v7, f8, e, S⟩ => ?_
  subst e
  have K := K.join S
  simp only [List.cons_append, List.nil_append] at K
  obtain ⟨k7, rfl, _, _⟩ := kChain_open (K.own (.head _))
  have hone7 := Kd.one _ (K.own (.head _))
  refine vs ?_
  refine x_al K st43 fun g7 w8 K => vs ?_
  refine x_sta (vs := [k7, .int .i64 (chainNextC c).f_N]) K st43 (h1 := hone7) fun w9 K => vs ?_
  refine x_call (drawChainNew_ok w9 v0 x0 ((J.join K).rd h0)) fun v10 w10 ⟨sd, f10, hsd, S⟩ => vs ?_
  have K := K.join S
  simp only [List.cons_append, List.nil_append] at K
  refine x_call (implChainNew_ok w10 v10 sd (K.own (.head _))) fun _ w11 ⟨cs11, f11, e, S⟩ => ?_
  subst e
  have K := K.join S
  simp only [List.cons_append, List.nil_append] at K
  obtain ⟨k11, rfl, _, _⟩ := kChain_open (K.own (.head _))
  have hone11 := Kd.one _ (K.own (.head _))
  refine vs ?_
  refine x_al K st43 fun g11 w12 K => vs ?_
  refine x_sta (vs := [k11, .int .i64 (chainNew sd).f_N]) K st43 (h1 := hone11) fun w13 K => vs ?_
  refine x_call (specChainNew_ok w13 v10 sd (K.own (.tail _ (.tail _ (.head _))))) fun _ w14 ⟨cs13, f13, e, S⟩ => ?_
  subst e
  have K := K.join S
  simp only [List.cons_append, List.nil_append] at K
  obtain ⟨k13, rfl, _, _⟩ := kChain_open (K.own (.head _))
  have hone13 := Kd.one _ (K.own (.head _))
  refine vs ?_
  refine x_al K st43 fun g13 w15 K => vs ?_
  refine x_sta (vs := [k13, .int .i64 (chainNew sd).f_N]) K st43 (h1 := hone13) fun w16 K => vs ?_
  -- the drawn catch
  refine x_call (drawCatchKey_ok w16 v0 x0 ((J.join K).rd h0)) fun _ w17 ⟨x, cs15, n, e, hsx, hn, hb17, R15⟩ => ?_
  subst e
  have K := K.go hb17
  have R3 := K.rd R3
  have J := J.join K
  simp only [List.append_nil] at J
  have K := Sep.start w17
  obtain ⟨k15, l15, rfl, _, _⟩ := kCatch_open R15
  have hone15 := Kd.one _ R15
  refine vs ?_
  refine x_al K st50 fun g15 w18 K => vs ?_
  refine x_sta (vs := [k15, .int .i64 x.f_Chain.f_N, l15]) K st50 (h1 := hone15) fun w19 K => vs ?_
  refine x_lda K st50 ?_
  refine vs ?_
  refine x_call (implCatchKey_ok w19 _ x n (K.rd R15) hsx) fun _ w20 ⟨cs17, f17, v18, f18, e, S⟩ => ?_
  subst e
  have K := K.join S
  simp only [List.cons_append, List.nil_append] at K
  obtain ⟨k17, l17, rfl, _, _⟩ := kCatch_open (K.own (.head _))
  have hone17 := Kd.one _ (K.own (.head _))
  obtain ⟨A18, d18, rfl, _⟩ := sl_open (K.own (.tail _ (.head _)))
  refine vs ?_
  refine x_al K st50 fun g17 w21 K => vs ?_
  refine x_sta (vs := [k17, .int .i64 (ck x n).1.f_Chain.f_N, l17]) K st50 (h1 := hone17) fun w22 K => vs ?_
  refine x_lda K st50 ?_
  refine vs ?_
  refine x_call (specCatchKey_ok w22 _ x n (K.rd R15) hsx) fun _ w23 ⟨cs20, f20, v21, f21, e, S⟩ => ?_
  subst e
  have K := K.join S
  simp only [List.cons_append, List.nil_append] at K
  obtain ⟨k20, l20, rfl, _, _⟩ := kCatch_open (K.own (.head _))
  have hone20 := Kd.one _ (K.own (.head _))
  refine vs ?_
  refine x_al K st50 fun g20 w24 K => vs ?_
  refine x_sta (vs := [k20, .int .i64 (ck x n).1.f_Chain.f_N, l20]) K st50 (h1 := hone20) fun w25 K => vs ?_
  -- the two others
  refine x_call (drawChainOk_ok w25 v0 x0 ((J.join K).rd h0)) fun _ w26 ⟨o, cs23, e, hso, hb26, R23⟩ => ?_
  subst e
  have K := K.go hb26
  have R3 := K.rd R3
  have R15 := K.rd R15
  have J := J.join K
  have K := Sep.start w26
  refine vs ?_
  refine x_call (drawCatchOk_ok w26 v0 x0 (J.rd h0)) fun _ w27 ⟨p, cs24, e, hsp, hb27, R24⟩ => ?_
  subst e
  have K := K.go hb27
  have R3 := K.rd R3
  have R15 := K.rd R15
  have R23 := K.rd R23
  have J := J.go hb27
  have K := Sep.start w27
  obtain ⟨k23, rfl, _, _⟩ := kChain_open R23
  have hone23 := Kd.one _ R23
  obtain ⟨k24, l24, rfl, _, _⟩ := kCatch_open R24
  have hone24 := Kd.one _ R24
  refine vs ?_
  refine x_al K st43 fun g23 w28 K => vs ?_
  refine x_al K st50 fun g24 w29 K => vs ?_
  refine x_sta (vs := [k23, .int .i64 o.f_N]) K st43 (h1 := hone23) fun w30 K => vs ?_
  refine x_sta (vs := [k24, .int .i64 p.f_Chain.f_N, l24]) K st50 (h1 := hone24) fun w31 K => vs ?_
  refine draw_at [(0, true), (1, true), (2, true), (3, true), (4, true), (5, true), (6, false), (7, true), (8, true), (9, true), (10, true), (11, true), (12, false), (13, true), (14, true), (15, true), (16, true), (17, true), (18, true), (19, true), (20, true), (21, true), (22, true), (23, false), (24, true), (25, true), (26, true), (27, true), (28, true), (29, true), (30, true), (31, true), (32, true), (33, true), (34, false), (35, true), (36, true), (37, true), (38, true), (39, true), (40, false), (41, true), (42, true), (43, true), (44, true), (46, true), (45, false), (47, false), (48, true), (49, true), (50, true), (51, true), (53, true), (52, false), (54, false), (55, true), (56, true)] fun w32 hh hb32 => vs ?_
  have K := K.go (hb32 _)
  have R3 := K.rd R3
  have R15 := K.rd R15
  have R23 := K.rd R23
  have R24 := K.rd R24
  have J := J.join K
  simp only [List.cons_append, List.nil_append, List.append_nil] at J
  have K := Sep.start w32
  have Q4 := J.own (d := kChain) (fp := f4) (cs := [k4, .int .i64 (chainNextC c).f_N]) (x := chainNextC c) (by simp)
  have Q7 := J.own (d := kChain) (fp := f7) (cs := [k7, .int .i64 (chainNextC c).f_N]) (x := chainNextC c) (by simp)
  have Q5 := J.own (d := bytes 5) (fp := f5) (cs := [.slice A4 (chainNextK c).length d4]) (x := chainNextK c) (by simp)
  have Q8 := J.own (d := bytes 5) (fp := f8) (cs := [v7]) (x := chainNextK c) (by simp)
  have Q11 := J.own (d := kChain) (fp := f11) (cs := [k11, .int .i64 (chainNew sd).f_N]) (x := chainNew sd) (by simp)
  have Q13 := J.own (d := kChain) (fp := f13) (cs := [k13, .int .i64 (chainNew sd).f_N]) (x := chainNew sd) (by simp)
  have Q17 := J.own (d := kCatch) (fp := f17) (cs := [k17, .int .i64 (ck x n).1.f_Chain.f_N, l17]) (x := (ck x n).1) (by simp)
  have Q20 := J.own (d := kCatch) (fp := f20) (cs := [k20, .int .i64 (ck x n).1.f_Chain.f_N, l20]) (x := (ck x n).1) (by simp)
  have Q18 := J.own (d := bytes 5) (fp := f18) (cs := [.slice A18 (ck x n).2.1.length d18]) (x := (ck x n).2.1) (by simp)
  have Q21 := J.own (d := bytes 5) (fp := f21) (cs := [v21]) (x := (ck x n).2.1) (by simp)
  have K0 := K
  refine q_ldaB J K0 st43 (g := g4) (cs := [k4, .int .i64 (chainNextC c).f_N]) ?_
  refine vs ?_
  refine q_ldaB J K0 st43 (g := g7) (cs := [k7, .int .i64 (chainNextC c).f_N]) ?_
  refine vs ?_
  refine x_callb K (sameChain_ok w32 _ _ (chainNextC c) Q4 Q7) fun w33 K => vs ?_
  refine ⟨kept_base (Sep.start w32) K, ?_⟩
  refine x_callw (implSame_ok w33 _ _ (chainNextK c) (chainNextK c) (K.rd Q5) (K.rd Q8)) ?_
  refine vs ?_
  refine ⟨kept_base (Sep.start w32) K, ?_⟩
  refine q_ldaB J K0 st43 (g := g11) (cs := [k11, .int .i64 (chainNew sd).f_N]) ?_
  refine vs ?_
  refine q_ldaB J K0 st43 (g := g13) (cs := [k13, .int .i64 (chainNew sd).f_N]) ?_
  refine vs ?_
  refine x_callb K (sameChain_ok w33 _ _ (chainNew sd) (K.rd Q11) (K.rd Q13)) fun w34 K => vs ?_
  refine ⟨kept_base (Sep.start w32) K, ?_⟩
  refine q_ldaB J K0 st50 (g := g17) (cs := [k17, .int .i64 (ck x n).1.f_Chain.f_N, l17]) ?_
  refine vs ?_
  refine q_ldaB J K0 st50 (g := g20) (cs := [k20, .int .i64 (ck x n).1.f_Chain.f_N, l20]) ?_
  refine vs ?_
  refine x_callb K (sameCatch_ok w34 _ _ (ck x n).1 (K.rd Q17) (K.rd Q20)) fun w35 K => vs ?_
  refine ⟨kept_base (Sep.start w32) K, ?_⟩
  refine x_callw (implSame_ok w35 _ _ (ck x n).2.1 (ck x n).2.1 (K.rd Q18) (K.rd Q21)) ?_
  refine vs ?_
  refine ⟨kept_base (Sep.start w32) K, ?_⟩
  refine q_ldaB J K0 st43 (g := g23) (cs := [k23, .int .i64 o.f_N]) ?_
  refine vs ?_
  refine q_ldaB J K0 st43 (g := g23) (cs := [k23, .int .i64 o.f_N]) ?_
  refine vs ?_
  refine x_callb K (implChainOk_ok w35 _ o (K.rd R23)) fun w36 K => vs ?_
  refine ⟨kept_base (Sep.start w32) K, ?_⟩
  refine x_callb K (specChainOk_ok w36 _ o (K.rd R23)) fun w37 K => vs ?_
  refine ⟨kept_base (Sep.start w32) K, ?_⟩
  refine q_ldaB J K0 st50 (g := g24) (cs := [k24, .int .i64 p.f_Chain.f_N, l24]) ?_
  refine vs ?_
  refine q_ldaB J K0 st50 (g := g24) (cs := [k24, .int .i64 p.f_Chain.f_N, l24]) ?_
  refine vs ?_
  refine x_callb K (implCatchOk_ok w37 _ p (K.rd R24)) fun w38 K => vs ?_
  refine ⟨kept_base (Sep.start w32) K, ?_⟩
  refine x_callb K (specCatchOk_ok w38 _ p (K.rd R24)) fun w39 K => ?_
  refine vs ?_
  refine ⟨kept_base (Sep.start w32) K, ?_⟩
  cases hgo : chainGo c with
  | true =>
    obtain ⟨s1, s2, s3⟩ := chainOk_next hgo
    have hk32 := nextK_len hgo
    have hcr : c.f_N < 1000 := by
      unfold chainGo at hgo
      simp only [Bool.and_eq_true, decide_eq_true_eq] at hgo
      exact hgo.2
    refine vs ?_
    refine x_lda (J.join K) st43 ?_
    refine vs ?_
    refine x_callb K (implChainOk_ok w39 _ (chainNextC c) (K.rd Q4)) fun w40 K => ?_
    refine ve s1 ?_
    refine ve (show (((chainNextK c).length : Int) = 32) by omega) ?_
    refine x_ld (J.join K) sc3 ?_
    refine vs ?_
    refine x_ld (J.join K) sc3 ?_
    refine ve (show w64 (c.f_N + 1) = (chainNextC c).f_N by rw [w64_id (by omega) (by omega), s2]) ?_
    cases hf : (ck x n).2.2 with
    | false =>
      refine vs ?_
      refine x_lda (J.join K) st50 ?_
      refine vs ?_
      refine x_lda (J.join K) st50 ?_
      refine vs ?_
      have ex := ck_same hf
      have Q17' : kCatch.rd w32 w32.heap.size [k17, .int .i64 (ck x n).1.f_Chain.f_N, l17] x := by
        have := Q17
        rw [ex] at this ⊢
        exact this
      refine x_callb K (sameCatch_ok w40 _ _ x (K.rd Q17') (K.rd R15)) fun w50 K => vs ?_
      exact (J.join K).bel
    | true =>
      obtain ⟨t1, t2, t3⟩ := ck_right hf
      refine vs ?_
      refine x_lda (J.join K) st50 ?_
      refine vs ?_
      refine x_call (implCatchKey_ok w40 _ (ck x n).1 n (K.rd Q17) (ck_sm hsx).1) fun _ w50 ⟨cs25, f25, v26, f26, e, S⟩ => ?_
      subst e
      rw [t3]
      have K := K.join S
      simp only [List.cons_append, List.nil_append] at K
      obtain ⟨k25, l25, rfl, _, _⟩ := kCatch_open (K.own (.head _))
      have hone25 := Kd.one _ (K.own (.head _))
      refine vs ?_
      refine x_al K st50 fun g25 w51 K => vs ?_
      refine x_sta (vs := [k25, .int .i64 (ck (ck x n).1 n).1.f_Chain.f_N, l25]) K st50 (h1 := hone25) fun w52 K => vs ?_
      refine x_lda (J.join K) st50 ?_
      refine vs ?_
      refine x_callb K (implCatchOk_ok w52 _ (ck x n).1 (K.rd Q17)) fun w53 K => ?_
      refine ve t1 ?_
      refine ve (show (((ck x n).2.1.length : Int) = 32) by omega) ?_
      exact (J.join K).bel
  | false =>
    refine vs ?_
    refine x_lda (J.join K) st43 ?_
    refine vs ?_
    refine x_lda (J.join K) st43 ?_
    refine vs ?_
    have ec : chainNextC c = c := by unfold chainNextC; rw [if_neg (by rw [hgo]; decide)]
    have Q4' : kChain.rd w32 w32.heap.size [k4, .int .i64 (chainNextC c).f_N] c := by
      have := Q4
      rw [ec] at this ⊢
      exact this
    refine x_callb K (sameChain_ok w39 _ _ c (K.rd Q4') (K.rd R3)) fun w40 K => vs ?_
    cases hf : (ck x n).2.2 with
    | false =>
      refine vs ?_
      refine x_lda (J.join K) st50 ?_
      refine vs ?_
      refine x_lda (J.join K) st50 ?_
      refine vs ?_
      have ex := ck_same hf
      have Q17' : kCatch.rd w32 w32.heap.size [k17, .int .i64 (ck x n).1.f_Chain.f_N, l17] x := by
        have := Q17
        rw [ex] at this ⊢
        exact this
      refine x_callb K (sameCatch_ok w40 _ _ x (K.rd Q17') (K.rd R15)) fun w50 K => vs ?_
      exact (J.join K).bel
    | true =>
      obtain ⟨t1, t2, t3⟩ := ck_right hf
      refine vs ?_
      refine x_lda (J.join K) st50 ?_
      refine vs ?_
      refine x_call (implCatchKey_ok w40 _ (ck x n).1 n (K.rd Q17) (ck_sm hsx).1) fun _ w50 ⟨cs25, f25, v26, f26, e, S⟩ => ?_
      subst e
      rw [t3]
      have K := K.join S
      simp only [List.cons_append, List.nil_append] at K
      obtain ⟨k25, l25, rfl, _, _⟩ := kCatch_open (K.own (.head _))
      have hone25 := Kd.one _ (K.own (.head _))
      refine vs ?_
      refine x_al K st50 fun g25 w51 K => vs ?_
      refine x_sta (vs := [k25, .int .i64 (ck (ck x n).1 n).1.f_Chain.f_N, l25]) K st50 (h1 := hone25) fun w52 K => vs ?_
      refine x_lda (J.join K) st50 ?_
      refine vs ?_
      refine x_callb K (implCatchOk_ok w52 _ (ck x n).1 (K.rd Q17)) fun w53 K => ?_
      refine ve t1 ?_
      refine ve (show (((ck x n).2.1.length : Int) = 32) by omega) ?_
      exact (J.join K).bel
end Go.Proofs.Ytagljofpmjaciaa.V
