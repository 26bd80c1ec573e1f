/- Texts laid by programs, part 17. -/
import Derived.Test.YtcmckbgiiclomabGreatDoorU15
import Derived.Test.YtcmckbgiiclomabGreatDoorU16
import Derived.Test.YtcmckbgiiclomabGreatDoorU09
import Derived.Test.YtcmckbgiiclomabGreatDoorU11
import Derived.Test.YtcmckbgiiclomabGreatDoorU05
import Derived.Test.YtcmckbgiiclomabGreatDoorU07
import Derived.Test.YtcmckbgiiclomabGreatDoorU12
import Derived.Test.YtcmckbgiiclomabGreatDoorU10
import Derived.Test.YtcmckbgiiclomabGreatDoorU06
namespace Go.Proofs.YtcmckbgiiclomabGreatDoor.V
open Go Go.RowKit
set_option maxRecDepth 100000
set_option maxHeartbeats 16000000
set_option linter.unusedSimpArgs false
set_option linter.unusedVariables false
set_option pp.deepTerms false
set_option pp.deepTerms.threshold 3
theorem l17One_ok {n : Nat} {w0 w : World} {L : List Ck} {fp : List Nat} {cs : List Value} {x : MWorld} {nv : Value} {nl : List UInt8} (kd a b : Int) (H : Sep n w0 w (Ck.own kWorld fp cs x :: L)) (hs : smWorld x) (hk : x.f_Sent.length ≤ 1000) (hn : (bytes 5).rd w0 n [nv] nl) (hnl : nl.length ≤ 200) (ha : -9223372036854775808 ≤ a ∧ a < 9223372036854775808) (hb : -9223372036854775808 ≤ b ∧ b < 9223372036854775808) :
    ACalls Tryz.prog 44 #[.agg cs.toArray, .agg #[.int .i64 kd, .int .i64 a, .int .i64 b, nv]] w fun r w' => WOut n w0 L (x.f_Sent.length + x.f_Net.length + 2) r w' := by
  have hs9 := hs; obtain ⟨hs0, hsp, hsr, hsn, hss⟩ := hs; obtain ⟨r1, r2⟩ := kW_rng (H.own (.head _)); obtain ⟨v0, p0, p2, q0, q2, q3, v5, v6, ecs, _, _, _, _, _, h5, h6⟩ := kWorld_open (H.own (.head _)); subst ecs; obtain ⟨A5, c5, rfl, _⟩ := sl_open h5; obtain ⟨A6, c6, rfl, _⟩ := sl_open h6; obtain ⟨An, cn, rfl, _⟩ := sl_open hn; have oneW := Kd.one _ (H.own (d := kWorld) (fp := fp) (cs := (wX x v0 p0 p2 q0 q2 q3 (.slice A5 x.f_Net.length c5) (.slice A6 x.f_Sent.length c6))) (x := x) (.head _)); refine body_of follows Tryz.func44 rfl rfl _ rfl (by kernel_rfl) (vs ?_); refine x_bx H (wX x v0 p0 p2 q0 q2 q3 (.slice A5 x.f_Net.length c5) (.slice A6 x.f_Sent.length c6)) fun g2 w1 H => vs ?_; refine x_bx H (dC kd a b (.slice An nl.length cn)) fun g3 w2 H => vs ?_; refine x_al H st39 fun g4 w3 H => vs ?_; have H : Sep n w0 w3 (Ck.box g4 zW 39 :: Ck.box g3 (dC kd a b (.slice An nl.length cn)) 78 :: wB g2 (wX x v0 p0 p2 q0 q2 q3 (.slice A5 x.f_Net.length c5) (.slice A6 x.f_Sent.length c6)) :: Ck.own kWorld fp (wX x v0 p0 p2 q0 q2 q3 (.slice A5 x.f_Net.length c5) (.slice A6 x.f_Sent.length c6)) x :: L) := H; refine x_ld H sc3 ?_
  by_cases k1 : kd = 1
  · skip
    refine ve k1 ?_; refine x_lda H st39 ?_; refine vs ?_; refine x_lda H st78 ?_; refine vs ?_; have H := H.front (c := Ck.own kWorld fp (wX x v0 p0 p2 q0 q2 q3 (.slice A5 x.f_Net.length c5) (.slice A6 x.f_Sent.length c6)) x); refine x_call (l17Write_ok kd a b H hs9 hk hn hnl ha hb) fun _ w4 ⟨cs4, fq, y, code, e, hys, hyk, H⟩ => ?_; subst e; have oY := Kd.one _ (H.own (.head _)); obtain ⟨u0, z0, z2, y0, y2, y3, y5, y6, rfl, _⟩ := kWorld_open (H.own (.head _)); refine vs ?_; refine x_al H st39 fun g6 w5 H => vs ?_; refine x_sta H st39 (vs := (wX y u0 z0 z2 y0 y2 y3 y5 y6)) (h1 := oY) fun w6 H => vs ?_; refine x_lda H st39 ?_; refine vs ?_; refine x_sta H st39 (vs := (wX y u0 z0 z2 y0 y2 y3 y5 y6)) (h1 := oY) fun wz H => vs ?_; have hres := res_cell H (g := g4) (cs := (wX y u0 z0 z2 y0 y2 y3 y5 y6)) st39; have H := H.front (c := Ck.own kWorld fq (wX y u0 z0 z2 y0 y2 y3 y5 y6) y); have H := H.drops' (L := [_]); have H := H.drops' (L := [_]); have H := H.drops' (L := [_]); have H := H.drops' (L := [_]); exact ⟨_, _, rfl, hres, wout y _ hys hyk H⟩
  refine ve k1 ?_
  by_cases k2 : kd = 2
  · skip
    refine ve k2 ?_; refine x_lda H st39 ?_; refine vs ?_; refine x_lda H st78 ?_; refine vs ?_; have H := H.front (c := Ck.own kWorld fp (wX x v0 p0 p2 q0 q2 q3 (.slice A5 x.f_Net.length c5) (.slice A6 x.f_Sent.length c6)) x); refine x_call (l17Net2_ok kd a b H hs9 hk hn hnl ha hb) fun _ w4 ⟨cs4, fq, y, code, e, hys, hyk, H⟩ => ?_; subst e; have oY := Kd.one _ (H.own (.head _)); obtain ⟨u0, z0, z2, y0, y2, y3, y5, y6, rfl, _⟩ := kWorld_open (H.own (.head _)); refine vs ?_; refine x_al H st39 fun g6 w5 H => vs ?_; refine x_sta H st39 (vs := (wX y u0 z0 z2 y0 y2 y3 y5 y6)) (h1 := oY) fun w6 H => vs ?_; refine x_lda H st39 ?_; refine vs ?_; refine x_sta H st39 (vs := (wX y u0 z0 z2 y0 y2 y3 y5 y6)) (h1 := oY) fun wz H => vs ?_; have hres := res_cell H (g := g4) (cs := (wX y u0 z0 z2 y0 y2 y3 y5 y6)) st39; have H := H.front (c := Ck.own kWorld fq (wX y u0 z0 z2 y0 y2 y3 y5 y6) y); have H := H.drops' (L := [_]); have H := H.drops' (L := [_]); have H := H.drops' (L := [_]); have H := H.drops' (L := [_]); exact ⟨_, _, rfl, hres, wout y _ hys hyk H⟩
  refine ve k2 ?_
  by_cases k3 : kd = 3
  · skip
    refine ve k3 ?_; refine x_lda H st39 ?_; refine vs ?_; refine x_lda H st78 ?_; refine vs ?_; have H := H.front (c := Ck.own kWorld fp (wX x v0 p0 p2 q0 q2 q3 (.slice A5 x.f_Net.length c5) (.slice A6 x.f_Sent.length c6)) x); refine x_call (l17Net2_ok kd a b H hs9 hk hn hnl ha hb) fun _ w4 ⟨cs4, fq, y, code, e, hys, hyk, H⟩ => ?_; subst e; have oY := Kd.one _ (H.own (.head _)); obtain ⟨u0, z0, z2, y0, y2, y3, y5, y6, rfl, _⟩ := kWorld_open (H.own (.head _)); refine vs ?_; refine x_al H st39 fun g6 w5 H => vs ?_; refine x_sta H st39 (vs := (wX y u0 z0 z2 y0 y2 y3 y5 y6)) (h1 := oY) fun w6 H => vs ?_; refine x_lda H st39 ?_; refine vs ?_; refine x_sta H st39 (vs := (wX y u0 z0 z2 y0 y2 y3 y5 y6)) (h1 := oY) fun wz H => vs ?_; have hres := res_cell H (g := g4) (cs := (wX y u0 z0 z2 y0 y2 y3 y5 y6)) st39; have H := H.front (c := Ck.own kWorld fq (wX y u0 z0 z2 y0 y2 y3 y5 y6) y); have H := H.drops' (L := [_]); have H := H.drops' (L := [_]); have H := H.drops' (L := [_]); have H := H.drops' (L := [_]); exact ⟨_, _, rfl, hres, wout y _ hys hyk H⟩
  refine ve k3 ?_
  by_cases k4 : kd = 4
  · skip
    refine ve k4 ?_; refine x_lda H st39 ?_; refine vs ?_; refine x_lda H st78 ?_; refine vs ?_; have H := H.front (c := Ck.own kWorld fp (wX x v0 p0 p2 q0 q2 q3 (.slice A5 x.f_Net.length c5) (.slice A6 x.f_Sent.length c6)) x); refine x_call (l17Net2_ok kd a b H hs9 hk hn hnl ha hb) fun _ w4 ⟨cs4, fq, y, code, e, hys, hyk, H⟩ => ?_; subst e; have oY := Kd.one _ (H.own (.head _)); obtain ⟨u0, z0, z2, y0, y2, y3, y5, y6, rfl, _⟩ := kWorld_open (H.own (.head _)); refine vs ?_; refine x_al H st39 fun g6 w5 H => vs ?_; refine x_sta H st39 (vs := (wX y u0 z0 z2 y0 y2 y3 y5 y6)) (h1 := oY) fun w6 H => vs ?_; refine x_lda H st39 ?_; refine vs ?_; refine x_sta H st39 (vs := (wX y u0 z0 z2 y0 y2 y3 y5 y6)) (h1 := oY) fun wz H => vs ?_; have hres := res_cell H (g := g4) (cs := (wX y u0 z0 z2 y0 y2 y3 y5 y6)) st39; have H := H.front (c := Ck.own kWorld fq (wX y u0 z0 z2 y0 y2 y3 y5 y6) y); have H := H.drops' (L := [_]); have H := H.drops' (L := [_]); have H := H.drops' (L := [_]); have H := H.drops' (L := [_]); exact ⟨_, _, rfl, hres, wout y _ hys hyk H⟩
  refine ve k4 ?_
  by_cases k5 : kd = 5
  · skip
    refine ve k5 ?_; refine x_lda H st39 ?_; refine vs ?_; refine x_lda H st78 ?_; refine vs ?_; have H := H.front (c := Ck.own kWorld fp (wX x v0 p0 p2 q0 q2 q3 (.slice A5 x.f_Net.length c5) (.slice A6 x.f_Sent.length c6)) x); refine x_call (l17Fetch_ok kd a b H hs9 hk hn hnl ha hb) fun _ w4 ⟨cs4, fq, y, code, e, hys, hyk, H⟩ => ?_; subst e; have oY := Kd.one _ (H.own (.head _)); obtain ⟨u0, z0, z2, y0, y2, y3, y5, y6, rfl, _⟩ := kWorld_open (H.own (.head _)); refine vs ?_; refine x_al H st39 fun g6 w5 H => vs ?_; refine x_sta H st39 (vs := (wX y u0 z0 z2 y0 y2 y3 y5 y6)) (h1 := oY) fun w6 H => vs ?_; refine x_lda H st39 ?_; refine vs ?_; refine x_sta H st39 (vs := (wX y u0 z0 z2 y0 y2 y3 y5 y6)) (h1 := oY) fun wz H => vs ?_; have hres := res_cell H (g := g4) (cs := (wX y u0 z0 z2 y0 y2 y3 y5 y6)) st39; have H := H.front (c := Ck.own kWorld fq (wX y u0 z0 z2 y0 y2 y3 y5 y6) y); have H := H.drops' (L := [_]); have H := H.drops' (L := [_]); have H := H.drops' (L := [_]); have H := H.drops' (L := [_]); exact ⟨_, _, rfl, hres, wout y _ hys hyk H⟩
  refine ve k5 ?_
  by_cases k8 : kd = 8
  · skip
    refine ve k8 ?_; refine x_lda H st39 ?_; refine vs ?_; refine x_lda H st78 ?_; refine vs ?_; have H := H.front (c := Ck.own kWorld fp (wX x v0 p0 p2 q0 q2 q3 (.slice A5 x.f_Net.length c5) (.slice A6 x.f_Sent.length c6)) x); refine x_call (l17Clock_ok kd a b H hs9 hk hn hnl ha hb) fun _ w4 ⟨cs4, fq, y, code, e, hys, hyk, H⟩ => ?_; subst e; have oY := Kd.one _ (H.own (.head _)); obtain ⟨u0, z0, z2, y0, y2, y3, y5, y6, rfl, _⟩ := kWorld_open (H.own (.head _)); refine vs ?_; refine x_al H st39 fun g6 w5 H => vs ?_; refine x_sta H st39 (vs := (wX y u0 z0 z2 y0 y2 y3 y5 y6)) (h1 := oY) fun w6 H => vs ?_; refine x_lda H st39 ?_; refine vs ?_; refine x_sta H st39 (vs := (wX y u0 z0 z2 y0 y2 y3 y5 y6)) (h1 := oY) fun wz H => vs ?_; have hres := res_cell H (g := g4) (cs := (wX y u0 z0 z2 y0 y2 y3 y5 y6)) st39; have H := H.front (c := Ck.own kWorld fq (wX y u0 z0 z2 y0 y2 y3 y5 y6) y); have H := H.drops' (L := [_]); have H := H.drops' (L := [_]); have H := H.drops' (L := [_]); have H := H.drops' (L := [_]); exact ⟨_, _, rfl, hres, wout y _ hys hyk H⟩
  refine ve k8 ?_
  by_cases k9 : kd = 9
  · skip
    refine ve k9 ?_; refine x_lda H st39 ?_; refine vs ?_; refine x_lda H st78 ?_; refine vs ?_; have H := H.front (c := Ck.own kWorld fp (wX x v0 p0 p2 q0 q2 q3 (.slice A5 x.f_Net.length c5) (.slice A6 x.f_Sent.length c6)) x); refine x_call (l17Clock_ok kd a b H hs9 hk hn hnl ha hb) fun _ w4 ⟨cs4, fq, y, code, e, hys, hyk, H⟩ => ?_; subst e; have oY := Kd.one _ (H.own (.head _)); obtain ⟨u0, z0, z2, y0, y2, y3, y5, y6, rfl, _⟩ := kWorld_open (H.own (.head _)); refine vs ?_; refine x_al H st39 fun g6 w5 H => vs ?_; refine x_sta H st39 (vs := (wX y u0 z0 z2 y0 y2 y3 y5 y6)) (h1 := oY) fun w6 H => vs ?_; refine x_lda H st39 ?_; refine vs ?_; refine x_sta H st39 (vs := (wX y u0 z0 z2 y0 y2 y3 y5 y6)) (h1 := oY) fun wz H => vs ?_; have hres := res_cell H (g := g4) (cs := (wX y u0 z0 z2 y0 y2 y3 y5 y6)) st39; have H := H.front (c := Ck.own kWorld fq (wX y u0 z0 z2 y0 y2 y3 y5 y6) y); have H := H.drops' (L := [_]); have H := H.drops' (L := [_]); have H := H.drops' (L := [_]); have H := H.drops' (L := [_]); exact ⟨_, _, rfl, hres, wout y _ hys hyk H⟩
  refine ve k9 ?_
  by_cases k6 : kd = 6
  · skip
    refine ve k6 ?_; refine x_ldp H (pC x.f_Post p0 p2) st32 ?_; refine vs ?_; refine x_call (specSync_ok w3 _ x.f_Post (kW_rd (H.ow kWorld fp (wX x v0 p0 p2 q0 q2 q3 (.slice A5 x.f_Net.length c5) (.slice A6 x.f_Sent.length c6)) x)).2.1 hsp) fun _ w4 ⟨csp, fq, e, S⟩ => ?_; have hYs := syncP_tot hsp; obtain ⟨Y, hY⟩ : ∃ Y, Y = syncP x.f_Post := ⟨_, rfl⟩; rw [← hY] at S hYs; subst e; have H := H.join S; simp only [List.cons_append, List.nil_append] at H; obtain ⟨m0, m2, rfl, _⟩ := kPost_open (H.ow kPost fq csp Y); have op := Kd.one _ (H.ow kPost fq (pC Y m0 m2) Y); refine vs ?_; refine x_sta H st32 (vs := (pC Y m0 m2)) (h1 := op) fun w5 H => vs ?_; refine x_lda H st39 ?_; refine vs ?_; refine x_sta H st39 (vs := (wC x.f_Count x.f_Known Y x.f_Reader v0 m0 m2 q0 q2 q3 (.slice A5 x.f_Net.length c5) (.slice A6 x.f_Sent.length c6))) (h1 := one13w (oneW v0 (by simp)) (op m0 (by simp)) (op m2 (by simp)) (oneW q0 (by simp)) (oneW q2 (by simp)) (oneW q3 (by simp)) rfl rfl) fun wz H => vs ?_; have hres := res_cell H (g := g4) (cs := (wC x.f_Count x.f_Known Y x.f_Reader v0 m0 m2 q0 q2 q3 (.slice A5 x.f_Net.length c5) (.slice A6 x.f_Sent.length c6))) st39; have H := H.front (c := Ck.own kWorld fp (wX x v0 p0 p2 q0 q2 q3 (.slice A5 x.f_Net.length c5) (.slice A6 x.f_Sent.length c6)) x); obtain ⟨f0, f3, f4, f5, f6, H⟩ := apartW H; have H := H.front (c := oS f6 (.slice A6 x.f_Sent.length c6) x.f_Sent); have H := H.front (c := oN f5 (.slice A5 x.f_Net.length c5) x.f_Net); have H := H.front (c := oR f4 x.f_Reader q0 q2 q3); have H := H.front (c := oP fq Y m0 m2); have H := H.front (c := oB f0 v0 x.f_Seed); obtain ⟨fz, H⟩ := ownWorld ({ x with f_Post := Y } : MWorld) H r1 r2; have H := H.drops' (L := [_]); have H := H.drops' (L := [_]); have H := H.drops' (L := [_])
    have H := H.drops' (L := [_]); exact ⟨_, _, rfl, hres, wout ({ x with f_Post := Y } : MWorld) _ ⟨hs0, hYs, hsr, hsn, hss⟩ (by (try dsimp only); (try simp only [List.length_append, List.length_cons, List.length_nil]); omega) H⟩
  refine ve k6 ?_
  by_cases k7 : kd = 7
  · skip
    refine ve k7 ?_; refine x_ldp H (pC x.f_Post p0 p2) st32 ?_; refine vs ?_; refine x_ld H sc3 ?_; refine vs ?_; refine x_call (specFallTo_ok w3 _ x.f_Post a (kW_rd (H.ow kWorld fp (wX x v0 p0 p2 q0 q2 q3 (.slice A5 x.f_Net.length c5) (.slice A6 x.f_Sent.length c6)) x)).2.1 hsp) fun _ w4 ⟨csp, fq, e, S⟩ => ?_; have hYs := fallP_sm (keep := a) hsp; obtain ⟨Y, hY⟩ : ∃ Y, Y = fallP x.f_Post a := ⟨_, rfl⟩; rw [← hY] at S hYs; subst e; have H := H.join S; simp only [List.cons_append, List.nil_append] at H; obtain ⟨m0, m2, rfl, _⟩ := kPost_open (H.ow kPost fq csp Y); have op := Kd.one _ (H.ow kPost fq (pC Y m0 m2) Y); refine vs ?_; refine x_sta H st32 (vs := (pC Y m0 m2)) (h1 := op) fun w5 H => vs ?_; refine x_lda H st39 ?_; refine vs ?_; refine x_sta H st39 (vs := (wC x.f_Count x.f_Known Y x.f_Reader v0 m0 m2 q0 q2 q3 (.slice A5 x.f_Net.length c5) (.slice A6 x.f_Sent.length c6))) (h1 := one13w (oneW v0 (by simp)) (op m0 (by simp)) (op m2 (by simp)) (oneW q0 (by simp)) (oneW q2 (by simp)) (oneW q3 (by simp)) rfl rfl) fun wz H => vs ?_; have hres := res_cell H (g := g4) (cs := (wC x.f_Count x.f_Known Y x.f_Reader v0 m0 m2 q0 q2 q3 (.slice A5 x.f_Net.length c5) (.slice A6 x.f_Sent.length c6))) st39; have H := H.front (c := Ck.own kWorld fp (wX x v0 p0 p2 q0 q2 q3 (.slice A5 x.f_Net.length c5) (.slice A6 x.f_Sent.length c6)) x); obtain ⟨f0, f3, f4, f5, f6, H⟩ := apartW H; have H := H.front (c := oS f6 (.slice A6 x.f_Sent.length c6) x.f_Sent); have H := H.front (c := oN f5 (.slice A5 x.f_Net.length c5) x.f_Net); have H := H.front (c := oR f4 x.f_Reader q0 q2 q3); have H := H.front (c := oP fq Y m0 m2); have H := H.front (c := oB f0 v0 x.f_Seed); obtain ⟨fz, H⟩ := ownWorld ({ x with f_Post := Y } : MWorld) H r1 r2; have H := H.drops' (L := [_]); have H := H.drops' (L := [_])
    have H := H.drops' (L := [_]); have H := H.drops' (L := [_]); exact ⟨_, _, rfl, hres, wout ({ x with f_Post := Y } : MWorld) _ ⟨hs0, hYs, hsr, hsn, hss⟩ (by (try dsimp only); (try simp only [List.length_append, List.length_cons, List.length_nil]); omega) H⟩
  refine ve k7 ?_
  by_cases k10 : kd = 10
  · refine ve k10 ?_
    have r9 := (kReader_open (kW_rd (H.ow kWorld fp (wX x v0 p0 p2 q0 q2 q3 (.slice A5 x.f_Net.length c5) (.slice A6 x.f_Sent.length c6)) x)).2.2.1).choose_spec.choose_spec.choose_spec.2.2.1; refine x_ld H sc3 ?_; refine vs ?_; refine x_st H sc3 fun w5 H => vs ?_; refine x_lda H st39 ?_; refine vs ?_; refine x_sta H st39 (vs := (wC x.f_Count x.f_Reader.f_Epoch x.f_Post x.f_Reader v0 p0 p2 q0 q2 q3 (.slice A5 x.f_Net.length c5) (.slice A6 x.f_Sent.length c6))) (h1 := one13w (oneW v0 (by simp)) (oneW p0 (by simp)) (oneW p2 (by simp)) (oneW q0 (by simp)) (oneW q2 (by simp)) (oneW q3 (by simp)) rfl rfl) fun wz H => vs ?_; have hres := res_cell H (g := g4) (cs := (wC x.f_Count x.f_Reader.f_Epoch x.f_Post x.f_Reader v0 p0 p2 q0 q2 q3 (.slice A5 x.f_Net.length c5) (.slice A6 x.f_Sent.length c6))) st39; have H := H.front (c := Ck.own kWorld fp (wX x v0 p0 p2 q0 q2 q3 (.slice A5 x.f_Net.length c5) (.slice A6 x.f_Sent.length c6)) x); obtain ⟨f0, f3, f4, f5, f6, H⟩ := apartW H; have H := H.front (c := oS f6 (.slice A6 x.f_Sent.length c6) x.f_Sent); have H := H.front (c := oN f5 (.slice A5 x.f_Net.length c5) x.f_Net); have H := H.front (c := oR f4 x.f_Reader q0 q2 q3); have H := H.front (c := oP f3 x.f_Post p0 p2); have H := H.front (c := oB f0 v0 x.f_Seed); obtain ⟨fz, H⟩ := ownWorld ({ x with f_Known := x.f_Reader.f_Epoch } : MWorld) H r1 r9; have H := H.drops' (L := [_]); have H := H.drops' (L := [_]); have H := H.drops' (L := [_]); exact ⟨_, _, rfl, hres, wout ({ x with f_Known := x.f_Reader.f_Epoch } : MWorld) _ ⟨hs0, hsp, hsr, hsn, hss⟩ (by (try dsimp only); (try simp only [List.length_append, List.length_cons, List.length_nil]); omega) H⟩
  refine ve k10 ?_; refine x_lda H st39 ?_; refine vs ?_; refine x_sta H st39 (vs := (wX x v0 p0 p2 q0 q2 q3 (.slice A5 x.f_Net.length c5) (.slice A6 x.f_Sent.length c6))) (h1 := oneW) fun wz H => vs ?_; have hres := res_cell H (g := g4) (cs := (wX x v0 p0 p2 q0 q2 q3 (.slice A5 x.f_Net.length c5) (.slice A6 x.f_Sent.length c6))) st39; have H := H.front (c := Ck.own kWorld fp (wX x v0 p0 p2 q0 q2 q3 (.slice A5 x.f_Net.length c5) (.slice A6 x.f_Sent.length c6)) x); have H := H.drops' (L := [_]); have H := H.drops' (L := [_]); have H := H.drops' (L := [_]); exact ⟨_, _, rfl, hres, wout x _ hs9 (by omega) H⟩
theorem low4t {k : Nat} (h : k = 0 ∨ (k : Int) < 4) : k < 256 := by omega
theorem u8_low4 {k : Nat} (h : k = 0 ∨ (k : Int) < 4) : (k : Int) % 256 = ((UInt8.ofNat k).toNat : Int) := u8_low (low4t h)
theorem l16DrawSeed_ok {n : Nat} {w0 w : World} {L : List Ck} {g : Nat} {v : Value} {i h : Int} {a : List UInt8} (H : Sep n w0 w (curB g v i h :: L)) (hv : (bytes 5).rd w0 n [v] a) (hi : 0 ≤ i ∧ i ≤ a.length) :
    ACalls Tryz.prog 41 #[.pointer (some ⟨g, 0, none⟩)] w fun r w' => ∃ (b : List UInt8) (fp : List Nat) (i' h' : Int), b.length = 32 ∧ (0 ≤ i' ∧ i' ≤ a.length) ∧ Sep n w0 w' (Ck.own (bytes 5) fp [r] b :: curB g v i' h' :: L) := by
  refine body_of follows Tryz.func41 rfl rfl _ rfl (by kernel_rfl) (vs ?_); refine x_call (l1Below_ok 4 H hv hi) fun _ w1 ⟨k, i1, h1, e, hk, hi1, H⟩ => ?_; subst e; refine ve (u8_low4 hk) ?_; refine x_emp H pl_u8 sl22 fun g1 w1 H => vs ?_; have h32 : ((32 : Nat) : Int) = 32 := rfl
  refine loop_at (σ := Nat × Value × List UInt8 × List Nat) (fun y => [(3, .int .u8 ((UInt8.ofNat k).toNat : Int)), (4, y.2.1), (5, .int .i64 (y.1 : Int))])
    (fun y w' => y.1 ≤ 32 ∧ y.2.2.1.length = y.1 ∧ Sep n w0 w' (Ck.own (bytes 5) y.2.2.2 [y.2.1] y.2.2.1 :: curB g v i1 h1 :: L)) (fun y => 32 - y.1) (0, .slice (some ⟨g1, 0, none⟩) 0 0, [], [g1]) (vs trivial) ⟨Nat.zero_le _, rfl, H⟩ ?_
  rintro ⟨j, u, b, fp⟩ s w3 ⟨hj, hb, H⟩; dsimp only at hj hb H; refine vs (ways ?_ ?_)
  · refine vh fun hlt => ?_
    refine x_lst H pl_u8 sl22 [UInt8.ofNat k] (by simp) fun g4 w4 H => vs ?_; refine x_app H pl_u8 sl22 (H.own (.head _)) ?_ ?_ fun f5 v5 w5 H => vs ?_
    · simp only [List.length_cons, List.length_nil]; omega
    · simp only [List.length_cons, List.length_nil]; omega
    refine ⟨(j + 1, v5, b ++ [UInt8.ofNat k], f5), ⟨rfl, i64_eq (by show w64 ((j : Int) + 1) = ((j + 1 : Nat) : Int); exact w64_succ (b := 1048576) (by omega) (by omega))⟩, ⟨by dsimp only; omega, by dsimp only; simp [hb], ?_⟩, by show 32 - (j + 1) < 32 - j; omega⟩; have H := H.front (c := curB g v i1 h1); have H := H.front (c := Ck.own (bytes 5) f5 [v5] (b ++ [UInt8.ofNat k])); exact H.drops' (L := [_, _])
  · refine vh fun hlt => ?_
    exact ⟨_, _, _, _, by omega, hi1, H⟩
theorem oneD {a b c : Int} {v : Value} (hv : v.oneCell' = true) : ∀ x ∈ [Value.int .i64 a, .int .i64 b, .int .i64 c, v], x.oneCell' = true := by
  intro x hx; simp only [List.mem_cons, List.not_mem_nil, or_false] at hx
  rcases hx with rfl | rfl | rfl | rfl
  · rfl
  · rfl
  · rfl
  · exact hv
def rg (a : Int) : Prop := -9223372036854775808 ≤ a ∧ a < 9223372036854775808
theorem rg_lit {a : Int} (h : 0 ≤ a ∧ a ≤ 1000000) : rg a := by unfold rg; omega
theorem rg_low {k : Nat} {m : Int} (h : k = 0 ∨ (k : Int) < m) (hm : m ≤ 1048577) : rg (k : Int) := by unfold rg; omega
theorem l17DrawDeed_ok {n : Nat} {w0 w : World} {L : List Ck} {g : Nat} {v : Value} {i h : Int} {a : List UInt8} {cs : List Value} {x : MWorld} (H : Sep n w0 w (curB g v i h :: L)) (hv : (bytes 5).rd w0 n [v] a) (hi : 0 ≤ i ∧ i ≤ a.length) (hW : kWorld.rd w w.heap.size cs x) (hs : smWorld x) :
    ACalls Tryz.prog 43 #[.pointer (some ⟨g, 0, none⟩), .agg cs.toArray] w fun r w' => ∃ (kd A B : Int) (nv : Value) (nl : List UInt8) (fnn : List Nat) (i' h' : Int), r = .agg #[.int .i64 kd, .int .i64 A, .int .i64 B, nv] ∧ (nl.length ≤ 12 ∧ rg A ∧ rg B) ∧ (0 ≤ i' ∧ i' ≤ a.length) ∧ Sep n w0 w' (Ck.own (bytes 5) fnn [nv] nl :: curB g v i' h' :: L) := by
  have hnm := hs.2.2.2.1.1; obtain ⟨v0, p0, p2, q0, q2, q3, v5, v6, ecs, _, _, _, _, _, h5, h6⟩ := kWorld_open hW; subst ecs; obtain ⟨A5, c5, rfl, _⟩ := sl_open h5; obtain ⟨A6, c6, rfl, _⟩ := sl_open h6; refine body_of follows Tryz.func43 rfl rfl _ rfl (by kernel_rfl) (vs ?_); refine x_bx H [v0, .int .i64 x.f_Count, .int .i64 x.f_Known, p0, .int .i64 x.f_Post.f_Time, p2, .int .i64 x.f_Post.f_Sure, q0, .int .i64 x.f_Reader.f_Epoch, q2, q3, .slice A5 x.f_Net.length c5, .slice A6 x.f_Sent.length c6] fun g3 w1 H => vs ?_; refine x_al H st78 fun g4 w2 H => vs ?_; have H : Sep n w0 w2 (Ck.box g4 [.int .i64 0, .int .i64 0, .int .i64 0, .slice none 0 0] 78 :: Ck.box g3 [v0, .int .i64 x.f_Count, .int .i64 x.f_Known, p0, .int .i64 x.f_Post.f_Time, p2, .int .i64 x.f_Post.f_Sure, q0, .int .i64 x.f_Reader.f_Epoch, q2, q3, .slice A5 x.f_Net.length c5, .slice A6 x.f_Sent.length c6] 39 :: curB g v i h :: L) := H; have H := H.front (c := curB g v i h); refine x_call (l1Below_ok 14 H hv hi) fun _ w3 ⟨q, i1, h1, e, hq, hi1, H⟩ => ?_; subst e; refine vs ?_
  by_cases s0 : (q : Int) = 0
  · refine ve s0 ?_
    refine x_ld H sc37 ?_
    by_cases few : (x.f_Sent.length : Int) < 4
    · refine ve few ?_
      refine x_call (l1Below_ok 3 H hv hi1) fun _ wk ⟨k, i2, h2, e, hk, hi2, H⟩ => ?_; subst e; refine vs ?_; refine x_lst H pl_i64 sl55 [0, 5, 50] (by simp) fun gp wp H => vs ?_; refine x_call (l1PickInt_ok _ H hv hi2 (by simp)) fun _ wD ⟨D, i3, h3, e, _, rD, hi3, H⟩ => ?_; subst e; refine vs ?_; refine x_call (l1DrawBytes_ok 12 H hv hi3 (by omega)) fun r wn ⟨nl, fb, i4, h4, hnl, hi4, H⟩ => ?_; obtain ⟨An, cn, rfl, _⟩ := sl_open (H.own (.head _)); refine vs ?_; refine x_build bl78 [.int .i64 1, .int .i64 (k : Int), .int .i64 D, .slice An nl.length cn] ?_; refine vs ?_; refine x_sta H st78 (vs := [.int .i64 1, .int .i64 (k : Int), .int .i64 D, .slice An nl.length cn]) (h1 := oneD rfl) fun wz H => vs ?_; have hres := res_cell H (g := g4) (cs := [.int .i64 1, .int .i64 (k : Int), .int .i64 D, .slice An nl.length cn]) st78; have H := H.front (c := curB g v i4 h4); have H := H.front (c := Ck.own (bytes 5) fb [.slice An nl.length cn] nl); have H := H.drops' (L := [_, _]); have H := H.drops' (L := [_, _]); exact ⟨_, _, rfl, hres, 1, (k : Int), D, _, _, _, i4, h4, rfl, ⟨by omega, rg_low hk (by decide), rD⟩, hi4, H⟩
    refine ve few ?_; refine x_ld H sc36 ?_; refine vs ?_; refine x_callw (l1Max_ok _ _ _) ?_; refine vs ?_; have H := H.front (c := curB g v i1 h1); refine x_call (l1Below_ok _ H hv hi1) fun _ wk ⟨k, i2, h2, e, hk, hi2, H⟩ => ?_; subst e; refine vs ?_; refine x_build bl78 [.int .i64 2, .int .i64 (k : Int), .int .i64 0, .slice none 0 0] ?_; refine vs ?_; refine x_sta H st78 (vs := [.int .i64 2, .int .i64 (k : Int), .int .i64 0, .slice none 0 0]) (h1 := oneD rfl) fun wz H => vs ?_; have hres := res_cell H (g := g4) (cs := [.int .i64 2, .int .i64 (k : Int), .int .i64 0, .slice none 0 0]) st78; have H := H.nothing (d := (bytes 5)) (sl_zero wz); have H := H.front (c := curB g v i2 h2); have H := H.front (c := Ck.own (bytes 5) [] [.slice none 0 0] []); have H := H.drops' (L := [_, _]); have H := H.drops' (L := [_, _]); exact ⟨_, _, rfl, hres, 2, (k : Int), 0, _, _, _, i2, h2, rfl, ⟨Nat.zero_le _, rg_low hk (by omega), rg_lit (by decide)⟩, hi2, H⟩
  refine ve s0 ?_
  by_cases s1 : (q : Int) = 1
  · refine ve s1 ?_
    refine x_ld H sc37 ?_
    by_cases few : (x.f_Sent.length : Int) < 4
    · refine ve few ?_
      refine x_call (l1Below_ok 3 H hv hi1) fun _ wk ⟨k, i2, h2, e, hk, hi2, H⟩ => ?_; subst e; refine vs ?_; refine x_lst H pl_i64 sl55 [0, 5, 50] (by simp) fun gp wp H => vs ?_; refine x_call (l1PickInt_ok _ H hv hi2 (by simp)) fun _ wD ⟨D, i3, h3, e, _, rD, hi3, H⟩ => ?_; subst e; refine vs ?_; refine x_call (l1DrawBytes_ok 12 H hv hi3 (by omega)) fun r wn ⟨nl, fb, i4, h4, hnl, hi4, H⟩ => ?_; obtain ⟨An, cn, rfl, _⟩ := sl_open (H.own (.head _)); refine vs ?_; refine x_build bl78 [.int .i64 1, .int .i64 (k : Int), .int .i64 D, .slice An nl.length cn] ?_; refine vs ?_; refine x_sta H st78 (vs := [.int .i64 1, .int .i64 (k : Int), .int .i64 D, .slice An nl.length cn]) (h1 := oneD rfl) fun wz H => vs ?_; have hres := res_cell H (g := g4) (cs := [.int .i64 1, .int .i64 (k : Int), .int .i64 D, .slice An nl.length cn]) st78; have H := H.front (c := curB g v i4 h4); have H := H.front (c := Ck.own (bytes 5) fb [.slice An nl.length cn] nl); have H := H.drops' (L := [_, _]); have H := H.drops' (L := [_, _]); exact ⟨_, _, rfl, hres, 1, (k : Int), D, _, _, _, i4, h4, rfl, ⟨by omega, rg_low hk (by decide), rD⟩, hi4, H⟩
    refine ve few ?_; refine x_ld H sc36 ?_; refine vs ?_; refine x_callw (l1Max_ok _ _ _) ?_; refine vs ?_; have H := H.front (c := curB g v i1 h1); refine x_call (l1Below_ok _ H hv hi1) fun _ wk ⟨k, i2, h2, e, hk, hi2, H⟩ => ?_; subst e; refine vs ?_; refine x_build bl78 [.int .i64 2, .int .i64 (k : Int), .int .i64 0, .slice none 0 0] ?_; refine vs ?_; refine x_sta H st78 (vs := [.int .i64 2, .int .i64 (k : Int), .int .i64 0, .slice none 0 0]) (h1 := oneD rfl) fun wz H => vs ?_; have hres := res_cell H (g := g4) (cs := [.int .i64 2, .int .i64 (k : Int), .int .i64 0, .slice none 0 0]) st78; have H := H.nothing (d := (bytes 5)) (sl_zero wz); have H := H.front (c := curB g v i2 h2); have H := H.front (c := Ck.own (bytes 5) [] [.slice none 0 0] []); have H := H.drops' (L := [_, _]); have H := H.drops' (L := [_, _]); exact ⟨_, _, rfl, hres, 2, (k : Int), 0, _, _, _, i2, h2, rfl, ⟨Nat.zero_le _, rg_low hk (by omega), rg_lit (by decide)⟩, hi2, H⟩
  refine ve s1 ?_
  by_cases s2 : (q : Int) = 2
  · refine ve s2 ?_
    refine x_ld H sc37 ?_
    by_cases few : (x.f_Sent.length : Int) < 4
    · refine ve few ?_
      refine x_call (l1Below_ok 3 H hv hi1) fun _ wk ⟨k, i2, h2, e, hk, hi2, H⟩ => ?_; subst e; refine vs ?_; refine x_lst H pl_i64 sl55 [0, 5, 50] (by simp) fun gp wp H => vs ?_; refine x_call (l1PickInt_ok _ H hv hi2 (by simp)) fun _ wD ⟨D, i3, h3, e, _, rD, hi3, H⟩ => ?_; subst e; refine vs ?_; refine x_call (l1DrawBytes_ok 12 H hv hi3 (by omega)) fun r wn ⟨nl, fb, i4, h4, hnl, hi4, H⟩ => ?_; obtain ⟨An, cn, rfl, _⟩ := sl_open (H.own (.head _)); refine vs ?_; refine x_build bl78 [.int .i64 1, .int .i64 (k : Int), .int .i64 D, .slice An nl.length cn] ?_; refine vs ?_; refine x_sta H st78 (vs := [.int .i64 1, .int .i64 (k : Int), .int .i64 D, .slice An nl.length cn]) (h1 := oneD rfl) fun wz H => vs ?_; have hres := res_cell H (g := g4) (cs := [.int .i64 1, .int .i64 (k : Int), .int .i64 D, .slice An nl.length cn]) st78; have H := H.front (c := curB g v i4 h4); have H := H.front (c := Ck.own (bytes 5) fb [.slice An nl.length cn] nl); have H := H.drops' (L := [_, _]); have H := H.drops' (L := [_, _]); exact ⟨_, _, rfl, hres, 1, (k : Int), D, _, _, _, i4, h4, rfl, ⟨by omega, rg_low hk (by decide), rD⟩, hi4, H⟩
    refine ve few ?_; refine x_ld H sc36 ?_; refine vs ?_; refine x_callw (l1Max_ok _ _ _) ?_; refine vs ?_; have H := H.front (c := curB g v i1 h1); refine x_call (l1Below_ok _ H hv hi1) fun _ wk ⟨k, i2, h2, e, hk, hi2, H⟩ => ?_; subst e; refine vs ?_; refine x_build bl78 [.int .i64 2, .int .i64 (k : Int), .int .i64 0, .slice none 0 0] ?_; refine vs ?_; refine x_sta H st78 (vs := [.int .i64 2, .int .i64 (k : Int), .int .i64 0, .slice none 0 0]) (h1 := oneD rfl) fun wz H => vs ?_; have hres := res_cell H (g := g4) (cs := [.int .i64 2, .int .i64 (k : Int), .int .i64 0, .slice none 0 0]) st78; have H := H.nothing (d := (bytes 5)) (sl_zero wz); have H := H.front (c := curB g v i2 h2); have H := H.front (c := Ck.own (bytes 5) [] [.slice none 0 0] []); have H := H.drops' (L := [_, _]); have H := H.drops' (L := [_, _]); exact ⟨_, _, rfl, hres, 2, (k : Int), 0, _, _, _, i2, h2, rfl, ⟨Nat.zero_le _, rg_low hk (by omega), rg_lit (by decide)⟩, hi2, H⟩
  refine ve s2 ?_
  by_cases s3 : (q : Int) = 3
  · refine ve s3 ?_
    refine draw_zn [(0, true), (3, true), (4, true), (5, true), (6, true), (1, false), (2, false), (7, false), (8, false), (9, true)] 10 [10] (g3 + 1) (Gb n g3) fun w4 hh hb4 => vs ?_; have H := H.go (hb4 _); have H6 := H; refine q_ldX H sc36 ?_; refine vs ?_; refine x_lst H pl_i64 sl55 [3, 4] (by simp) fun gp wp H => vs ?_; refine ⟨kept_box H6 H, ?_⟩; refine x_call (l1PickInt_ok _ H hv hi1 (by simp)) fun _ wD ⟨D, i2, h2, e, _, rD, hi2, H⟩ => ?_; subst e; refine vs ?_; refine ⟨kept_box H6 H, ?_⟩; refine x_callw (l1Max_ok _ _ _) ?_; refine vs ?_; refine ⟨kept_box H6 H, ?_⟩; refine x_call (l1Below_ok _ H hv hi2) fun _ wk ⟨k, i3, h3, e, hk, hi3, H⟩ => ?_; subst e; refine vs ?_; refine ⟨kept_box H6 H, ?_⟩; refine q_bld bl78 [.int .i64 D, .int .i64 (k : Int), .int .i64 0, .slice none 0 0] ?_ (by kernel_rfl); refine vs ?_; refine dl_cons ⟨_, rfl, vs ?_⟩; refine x_sta H st78 (vs := [.int .i64 D, .int .i64 (k : Int), .int .i64 0, .slice none 0 0]) (h1 := oneD rfl) fun wz H => ?_; refine dl_nil (vs ?_); have hres := res_cell H (g := g4) (cs := [.int .i64 D, .int .i64 (k : Int), .int .i64 0, .slice none 0 0]) st78; have H := H.nothing (d := (bytes 5)) (sl_zero wz); have H := H.front (c := curB g v i3 h3); have H := H.front (c := Ck.own (bytes 5) [] [.slice none 0 0] []); have H := H.drops' (L := [_, _]); have H := H.drops' (L := [_, _]); exact ⟨_, _, rfl, hres, D, (k : Int), 0, _, _, _, i3, h3, rfl, ⟨Nat.zero_le _, rg_low hk (by omega), rg_lit (by decide)⟩, hi3, H⟩
  refine ve s3 ?_
  by_cases s4 : (q : Int) = 4
  · refine ve s4 ?_
    refine x_call (l1Below_ok 2 H hv hi1) fun _ wk ⟨k, i2, h2, e, hk, hi2, H⟩ => ?_; subst e; refine vs ?_; refine x_build bl78 [.int .i64 5, .int .i64 (k : Int), .int .i64 0, .slice none 0 0] ?_; refine vs ?_; refine x_sta H st78 (vs := [.int .i64 5, .int .i64 (k : Int), .int .i64 0, .slice none 0 0]) (h1 := oneD rfl) fun wz H => vs ?_; have hres := res_cell H (g := g4) (cs := [.int .i64 5, .int .i64 (k : Int), .int .i64 0, .slice none 0 0]) st78; have H := H.nothing (d := (bytes 5)) (sl_zero wz); have H := H.front (c := curB g v i2 h2); have H := H.front (c := Ck.own (bytes 5) [] [.slice none 0 0] []); have H := H.drops' (L := [_, _]); have H := H.drops' (L := [_, _]); exact ⟨_, _, rfl, hres, 5, (k : Int), 0, _, _, _, i2, h2, rfl, ⟨Nat.zero_le _, rg_low hk (by decide), rg_lit (by decide)⟩, hi2, H⟩
  refine ve s4 ?_
  by_cases s5 : (q : Int) = 5
  · refine ve s5 ?_
    refine x_call (l1Below_ok 2 H hv hi1) fun _ wk ⟨k, i2, h2, e, hk, hi2, H⟩ => ?_; subst e; refine vs ?_; refine x_build bl78 [.int .i64 5, .int .i64 (k : Int), .int .i64 0, .slice none 0 0] ?_; refine vs ?_; refine x_sta H st78 (vs := [.int .i64 5, .int .i64 (k : Int), .int .i64 0, .slice none 0 0]) (h1 := oneD rfl) fun wz H => vs ?_; have hres := res_cell H (g := g4) (cs := [.int .i64 5, .int .i64 (k : Int), .int .i64 0, .slice none 0 0]) st78; have H := H.nothing (d := (bytes 5)) (sl_zero wz); have H := H.front (c := curB g v i2 h2); have H := H.front (c := Ck.own (bytes 5) [] [.slice none 0 0] []); have H := H.drops' (L := [_, _]); have H := H.drops' (L := [_, _]); exact ⟨_, _, rfl, hres, 5, (k : Int), 0, _, _, _, i2, h2, rfl, ⟨Nat.zero_le _, rg_low hk (by decide), rg_lit (by decide)⟩, hi2, H⟩
  refine ve s5 ?_
  by_cases s6 : (q : Int) = 6
  · refine ve s6 ?_
    refine x_build bl78 [.int .i64 6, .int .i64 0, .int .i64 0, .slice none 0 0] ?_; refine vs ?_; refine x_sta H st78 (vs := [.int .i64 6, .int .i64 0, .int .i64 0, .slice none 0 0]) (h1 := oneD rfl) fun wz H => vs ?_; have hres := res_cell H (g := g4) (cs := [.int .i64 6, .int .i64 0, .int .i64 0, .slice none 0 0]) st78; have H := H.nothing (d := (bytes 5)) (sl_zero wz); have H := H.front (c := curB g v i1 h1); have H := H.front (c := Ck.own (bytes 5) [] [.slice none 0 0] []); have H := H.drops' (L := [_, _]); have H := H.drops' (L := [_, _]); exact ⟨_, _, rfl, hres, 6, 0, 0, _, _, _, i1, h1, rfl, ⟨Nat.zero_le _, rg_lit (by decide), rg_lit (by decide)⟩, hi1, H⟩
  refine ve s6 ?_
  by_cases s7 : (q : Int) = 7
  · refine ve s7 ?_
    refine x_lst H pl_i64 sl55 [0, 20, 200, 5000] (by simp) fun gp wp H => vs ?_; refine x_call (l1PickInt_ok _ H hv hi1 (by simp)) fun _ wD ⟨D, i2, h2, e, _, rD, hi2, H⟩ => ?_; subst e; refine vs ?_; refine x_build bl78 [.int .i64 7, .int .i64 D, .int .i64 0, .slice none 0 0] ?_; refine vs ?_; refine x_sta H st78 (vs := [.int .i64 7, .int .i64 D, .int .i64 0, .slice none 0 0]) (h1 := oneD rfl) fun wz H => vs ?_; have hres := res_cell H (g := g4) (cs := [.int .i64 7, .int .i64 D, .int .i64 0, .slice none 0 0]) st78; have H := H.nothing (d := (bytes 5)) (sl_zero wz); have H := H.front (c := curB g v i2 h2); have H := H.front (c := Ck.own (bytes 5) [] [.slice none 0 0] []); have H := H.drops' (L := [_, _]); have H := H.drops' (L := [_, _]); exact ⟨_, _, rfl, hres, 7, D, 0, _, _, _, i2, h2, rfl, ⟨Nat.zero_le _, rD, rg_lit (by decide)⟩, hi2, H⟩
  refine ve s7 ?_
  by_cases s8 : (q : Int) = 8
  · refine ve s8 ?_
    refine x_call (l1Below_ok 9 H hv hi1) fun _ wk ⟨k, i2, h2, e, hk, hi2, H⟩ => ?_; subst e; refine vs ?_; refine x_build bl78 [.int .i64 8, .int .i64 (k : Int), .int .i64 0, .slice none 0 0] ?_; refine vs ?_; refine x_sta H st78 (vs := [.int .i64 8, .int .i64 (k : Int), .int .i64 0, .slice none 0 0]) (h1 := oneD rfl) fun wz H => vs ?_; have hres := res_cell H (g := g4) (cs := [.int .i64 8, .int .i64 (k : Int), .int .i64 0, .slice none 0 0]) st78; have H := H.nothing (d := (bytes 5)) (sl_zero wz); have H := H.front (c := curB g v i2 h2); have H := H.front (c := Ck.own (bytes 5) [] [.slice none 0 0] []); have H := H.drops' (L := [_, _]); have H := H.drops' (L := [_, _]); exact ⟨_, _, rfl, hres, 8, (k : Int), 0, _, _, _, i2, h2, rfl, ⟨Nat.zero_le _, rg_low hk (by decide), rg_lit (by decide)⟩, hi2, H⟩
  refine ve s8 ?_
  by_cases s9 : (q : Int) = 9
  · refine ve s9 ?_
    refine x_lst H pl_i64 sl55 [9, 10, 10] (by simp) fun gp wp H => vs ?_; refine x_call (l1PickInt_ok _ H hv hi1 (by simp)) fun _ wD ⟨D, i2, h2, e, _, rD, hi2, H⟩ => ?_; subst e; refine vs ?_; refine x_build bl78 [.int .i64 D, .int .i64 0, .int .i64 0, .slice none 0 0] ?_; refine vs ?_; refine x_sta H st78 (vs := [.int .i64 D, .int .i64 0, .int .i64 0, .slice none 0 0]) (h1 := oneD rfl) fun wz H => vs ?_; have hres := res_cell H (g := g4) (cs := [.int .i64 D, .int .i64 0, .int .i64 0, .slice none 0 0]) st78; have H := H.nothing (d := (bytes 5)) (sl_zero wz); have H := H.front (c := curB g v i2 h2); have H := H.front (c := Ck.own (bytes 5) [] [.slice none 0 0] []); have H := H.drops' (L := [_, _]); have H := H.drops' (L := [_, _]); exact ⟨_, _, rfl, hres, D, 0, 0, _, _, _, i2, h2, rfl, ⟨Nat.zero_le _, rg_lit (by decide), rg_lit (by decide)⟩, hi2, H⟩
  refine ve s9 ?_; refine x_ld H sc36 ?_; refine vs ?_; refine x_callw (l1Max_ok _ _ _) ?_; refine vs ?_; have H := H.front (c := curB g v i1 h1); refine x_call (l1Below_ok _ H hv hi1) fun _ wk ⟨k, i2, h2, e, hk, hi2, H⟩ => ?_; subst e; refine vs ?_; refine x_build bl78 [.int .i64 2, .int .i64 (k : Int), .int .i64 0, .slice none 0 0] ?_; refine vs ?_; refine x_sta H st78 (vs := [.int .i64 2, .int .i64 (k : Int), .int .i64 0, .slice none 0 0]) (h1 := oneD rfl) fun wz H => vs ?_; have hres := res_cell H (g := g4) (cs := [.int .i64 2, .int .i64 (k : Int), .int .i64 0, .slice none 0 0]) st78; have H := H.nothing (d := (bytes 5)) (sl_zero wz); have H := H.front (c := curB g v i2 h2); have H := H.front (c := Ck.own (bytes 5) [] [.slice none 0 0] []); have H := H.drops' (L := [_, _]); have H := H.drops' (L := [_, _]); exact ⟨_, _, rfl, hres, 2, (k : Int), 0, _, _, _, i2, h2, rfl, ⟨Nat.zero_le _, rg_low hk (by omega), rg_lit (by decide)⟩, hi2, H⟩


theorem kItem_of0 {w : World} {n : Nat} {v : Value} {r b : List UInt8} (h1 : r.length ≤ 9223372036854775807) (h : (bytes 5).rd w n [v] b) : kItem.rd w n [.string ⟨r.toArray⟩, .int .i64 0, .int .i64 0, v] ⟨r, 0, 0, b⟩ :=
  ⟨[_], _, rfl, ⟨rfl, h1⟩, [_], _, rfl, ⟨rfl, by show (-9223372036854775808 : Int) ≤ 0 ∧ (0 : Int) < 9223372036854775808; decide⟩, [_], _, rfl, ⟨rfl, by show (-9223372036854775808 : Int) ≤ 0 ∧ (0 : Int) < 9223372036854775808; decide⟩, h⟩
theorem wireOk_p {x : MWire} (hp : x.f_ToPost = true) (h : ¬ (itemOk x.f_Item = true ∧ x.f_Bytes.length = 0)) : wireOk x = false := by
  rw [wireOk_post hp, Bool.eq_false_iff]; intro hh; simp only [Bool.and_eq_true, decide_eq_true_eq] at hh; exact h hh
theorem wireOk_r {x : MWire} (hp : x.f_ToPost = false) (h : ¬ (noItem x.f_Item = true ∧ x.f_Bytes.length ≤ 1560)) : wireOk x = false := by
  rw [wireOk_read hp, Bool.eq_false_iff]; intro hh; simp only [Bool.and_eq_true, decide_eq_true_eq] at hh; exact h hh
theorem all_bad {α : Type} {l : List α} {p : α → Bool} {i : Nat} (hi : i < l.length) (h : p l[i] = false) : l.all p = false := by
  rw [Bool.eq_false_iff]; intro ha; rw [List.all_eq_true.1 ha _ (List.getElem_mem hi)] at h; cases h
theorem l17Net_ok (w : World) (v : Value) (l : List MWire) (h : wires.rd w w.heap.size [v] l) (hs : smWireS l) :
    ACalls Tryz.prog 74 #[v] w fun r w' => r = .bool (l.all wireOk && decide (l.length ≤ 12)) ∧ Below w.heap.size w w' := by
  have hlm := sl_len h; obtain ⟨A, c, rfl, hc1, hc2, ha⟩ := sl_open h; refine body_of follows Tryz.func74 rfl rfl _ rfl (by kernel_rfl) (vs ?_)
  refine loop_at (σ := Nat) (fun k => [(0, .slice A l.length c), (3, .int .i64 (k : Int))])
    (fun k w' => k ≤ l.length ∧ (∀ i (hi : i < l.length), i < k → wireOk l[i] = true) ∧ Sep w.heap.size w w' []) (fun k => l.length - k) 0 (vs trivial) ⟨Nat.zero_le _, fun i hi h => absurd h (Nat.not_lt_zero i), Sep.start w⟩ ?_
  rintro k s w2 ⟨hk, hall, H⟩; refine vs (ways ?_ ?_)
  rotate_left
  · refine vh fun hlt => ?_
    have e : l.all wireOk = true := List.all_eq_true.2 fun y hy => by
      obtain ⟨i, hi, rfl⟩ := List.getElem_of_mem hy; exact hall i hi (by omega)
    have e2 : decide ((l.length : Int) ≤ 12) = decide (l.length ≤ 12) := decide_eq_decide.2 (by omega); rw [e, Bool.true_and]
    first | exact ⟨congrArg Value.bool e2, H.bel⟩ | (rw [← e2]; exact ⟨rfl, H.bel⟩) | (rw [← e2]; exact H.bel)
  refine vh fun hlt => ?_; have hk2 : k < l.length := by omega
  have hk3 : w64 ((k : Int) + 1) = ((k + 1 : Nat) : Int) := by have := hs.1; unfold w64; omega
  have no : wireOk l[k] = false → (l.all wireOk && decide (l.length ≤ 12)) = false := fun h => by rw [all_bad hk2 h]; rfl
  have go : wireOk l[k] = true → ∀ i (hi : i < l.length), i < k + 1 → wireOk l[i] = true := fun h i hi h3 => by
    by_cases h2 : i = k
    · subst h2; exact h
    · exact hall i hi (by omega)
  refine x_ele H sl36 rfl k hk2 ha rfl fun ad es hb1 hr hc' => vs ?_; have hr : kWire.rd w w.heap.size es l[k] := hr; have hr2 := hr; obtain ⟨u4, u5, rfl, _, ri, r5⟩ := kWire_open hr2; obtain ⟨u4', e4, _, _, _, r4⟩ := kItem_open ri; simp only [List.cons.injEq, and_true, true_and] at e4; subst e4; obtain ⟨B4, d4, rfl, _⟩ := sl_open r4; obtain ⟨B5, d5, rfl, _⟩ := sl_open r5; refine x_lds st64 hc' (Kd.len _ hr) (vs ?_); refine x_al H st64 fun g5 w6 H => vs ?_; refine x_sta H st64 (vs := [.bool l[k].f_ToPost, .string ⟨l[k].f_Item.f_Route.toArray⟩, .int .i64 l[k].f_Item.f_Topic, .int .i64 l[k].f_Item.f_Due, .slice B4 l[k].f_Item.f_Bytes.length d4, .slice B5 l[k].f_Bytes.length d5]) (h1 := Kd.one _ hr) fun w7 H => vs ?_; have hrt : l[k].f_Item.f_Route.length ≤ 1099511627776 := by have := (hs.2 _ (List.getElem_mem hk2)).1.1; omega
  refine x_ld H sc9 ?_
  by_cases n1 : l[k].f_Item.f_Route = []
  rotate_left
  · have hno : noItem l[k].f_Item = false := by unfold noItem; rw [decide_eq_false n1]; rfl
    refine ve (n1) ?_; refine x_ld H sc4 ?_
    cases hp : l[k].f_ToPost with
    | true =>
      rw [hp] at H; refine ve (And.intro hp (n1)) ?_; refine x_ldp H [.string ⟨l[k].f_Item.f_Route.toArray⟩, .int .i64 l[k].f_Item.f_Topic, .int .i64 l[k].f_Item.f_Due, .slice B4 l[k].f_Item.f_Bytes.length d4] st28 ?_; refine ve (And.intro hp (n1)) ?_; refine x_callb H (specItemOk_ok w7 _ l[k].f_Item (H.rd ri) hrt) fun w8 H => ?_
      cases ho : itemOk l[k].f_Item with
      | false =>
        refine ve (And.intro hp (n1)) ?_; rw [no (wireOk_p hp fun hh => by rw [hh.1] at ho; cases ho)]
        first | exact ⟨rfl, H.bel⟩ | exact H.bel
      | true =>
        refine ve (And.intro hp (n1)) ?_; refine x_ld H sc22 ?_
        by_cases hb : (0 : Int) < (l[k].f_Bytes.length : Int)
        · refine ve (And.intro hb (And.intro hp (n1))) ?_
          rw [no (wireOk_p hp fun hh => by omega)]
          first | exact ⟨rfl, H.bel⟩ | exact H.bel
        refine ve (And.intro hb (And.intro hp (n1))) ?_; refine x_ld H sc4 ?_; refine ve (And.intro hb (And.intro hp (n1))) ?_; exact ⟨k + 1, i64_eq hk3, ⟨hk2, go (by rw [wireOk_post hp, ho, decide_eq_true (show l[k].f_Bytes.length = 0 by omega)]; rfl), H.tail⟩, by omega⟩
    | false =>
      rw [hp] at H; refine ve (And.intro hp (n1)) ?_; refine x_ld H sc4 ?_; refine ve (And.intro hp (n1)) ?_; rw [no (wireOk_r hp fun hh => by rw [hno] at hh; exact absurd hh.1 (by decide))]
      first | exact ⟨rfl, H.bel⟩ | exact H.bel
  have fqn1 : (l[k].f_Item.f_Route = []) = True := eq_true n1; refine ve (fqn1) ?_; refine x_ld H sc3 ?_
  by_cases n2 : l[k].f_Item.f_Topic = 0
  rotate_left
  · have hno : noItem l[k].f_Item = false := by unfold noItem; rw [decide_eq_false n2]; simp
    refine ve (And.intro n2 (fqn1)) ?_; refine x_ld H sc4 ?_
    cases hp : l[k].f_ToPost with
    | true =>
      rw [hp] at H; refine ve (And.intro hp (And.intro n2 (fqn1))) ?_; refine x_ldp H [.string ⟨l[k].f_Item.f_Route.toArray⟩, .int .i64 l[k].f_Item.f_Topic, .int .i64 l[k].f_Item.f_Due, .slice B4 l[k].f_Item.f_Bytes.length d4] st28 ?_; refine ve (And.intro hp (And.intro n2 (fqn1))) ?_; refine x_callb H (specItemOk_ok w7 _ l[k].f_Item (H.rd ri) hrt) fun w8 H => ?_
      cases ho : itemOk l[k].f_Item with
      | false =>
        refine ve (And.intro hp (And.intro n2 (fqn1))) ?_; rw [no (wireOk_p hp fun hh => by rw [hh.1] at ho; cases ho)]
        first | exact ⟨rfl, H.bel⟩ | exact H.bel
      | true =>
        refine ve (And.intro hp (And.intro n2 (fqn1))) ?_; refine x_ld H sc22 ?_
        by_cases hb : (0 : Int) < (l[k].f_Bytes.length : Int)
        · refine ve (And.intro hb (And.intro hp (And.intro n2 (fqn1)))) ?_
          rw [no (wireOk_p hp fun hh => by omega)]
          first | exact ⟨rfl, H.bel⟩ | exact H.bel
        refine ve (And.intro hb (And.intro hp (And.intro n2 (fqn1)))) ?_; refine x_ld H sc4 ?_; refine ve (And.intro hb (And.intro hp (And.intro n2 (fqn1)))) ?_; exact ⟨k + 1, i64_eq hk3, ⟨hk2, go (by rw [wireOk_post hp, ho, decide_eq_true (show l[k].f_Bytes.length = 0 by omega)]; rfl), H.tail⟩, by omega⟩
    | false =>
      rw [hp] at H; refine ve (And.intro hp (And.intro n2 (fqn1))) ?_; refine x_ld H sc4 ?_; refine ve (And.intro hp (And.intro n2 (fqn1))) ?_; rw [no (wireOk_r hp fun hh => by rw [hno] at hh; exact absurd hh.1 (by decide))]
      first | exact ⟨rfl, H.bel⟩ | exact H.bel
  have fqn2 : (l[k].f_Item.f_Topic = 0) = True := eq_true n2; refine ve (And.intro fqn2 (fqn1)) ?_; refine x_ld H sc3 ?_
  by_cases n3 : l[k].f_Item.f_Due = 0
  rotate_left
  · have hno : noItem l[k].f_Item = false := by unfold noItem; rw [decide_eq_false n3]; simp
    refine ve (And.intro n3 (And.intro fqn2 (fqn1))) ?_; refine x_ld H sc4 ?_
    cases hp : l[k].f_ToPost with
    | true =>
      rw [hp] at H; refine ve (And.intro hp (And.intro n3 (And.intro fqn2 (fqn1)))) ?_; refine x_ldp H [.string ⟨l[k].f_Item.f_Route.toArray⟩, .int .i64 l[k].f_Item.f_Topic, .int .i64 l[k].f_Item.f_Due, .slice B4 l[k].f_Item.f_Bytes.length d4] st28 ?_; refine ve (And.intro hp (And.intro n3 (And.intro fqn2 (fqn1)))) ?_; refine x_callb H (specItemOk_ok w7 _ l[k].f_Item (H.rd ri) hrt) fun w8 H => ?_
      cases ho : itemOk l[k].f_Item with
      | false =>
        refine ve (And.intro hp (And.intro n3 (And.intro fqn2 (fqn1)))) ?_; rw [no (wireOk_p hp fun hh => by rw [hh.1] at ho; cases ho)]
        first | exact ⟨rfl, H.bel⟩ | exact H.bel
      | true =>
        refine ve (And.intro hp (And.intro n3 (And.intro fqn2 (fqn1)))) ?_; refine x_ld H sc22 ?_
        by_cases hb : (0 : Int) < (l[k].f_Bytes.length : Int)
        · refine ve (And.intro hb (And.intro hp (And.intro n3 (And.intro fqn2 (fqn1))))) ?_
          rw [no (wireOk_p hp fun hh => by omega)]
          first | exact ⟨rfl, H.bel⟩ | exact H.bel
        refine ve (And.intro hb (And.intro hp (And.intro n3 (And.intro fqn2 (fqn1))))) ?_; refine x_ld H sc4 ?_; refine ve (And.intro hb (And.intro hp (And.intro n3 (And.intro fqn2 (fqn1))))) ?_; exact ⟨k + 1, i64_eq hk3, ⟨hk2, go (by rw [wireOk_post hp, ho, decide_eq_true (show l[k].f_Bytes.length = 0 by omega)]; rfl), H.tail⟩, by omega⟩
    | false =>
      rw [hp] at H; refine ve (And.intro hp (And.intro n3 (And.intro fqn2 (fqn1)))) ?_; refine x_ld H sc4 ?_; refine ve (And.intro hp (And.intro n3 (And.intro fqn2 (fqn1)))) ?_; rw [no (wireOk_r hp fun hh => by rw [hno] at hh; exact absurd hh.1 (by decide))]
      first | exact ⟨rfl, H.bel⟩ | exact H.bel
  have fqn3 : (l[k].f_Item.f_Due = 0) = True := eq_true n3; refine ve (And.intro fqn3 (And.intro fqn2 (fqn1))) ?_; refine x_ld H sc22 ?_
  by_cases n4 : (l[k].f_Item.f_Bytes.length : Int) = 0
  rotate_left
  · have hno : noItem l[k].f_Item = false := by unfold noItem; rw [decide_eq_false (show ¬ l[k].f_Item.f_Bytes.length = 0 by omega)]; simp
    refine ve (And.intro n4 (And.intro fqn3 (And.intro fqn2 (fqn1)))) ?_; refine x_ld H sc4 ?_
    cases hp : l[k].f_ToPost with
    | true =>
      rw [hp] at H; refine ve (And.intro hp (And.intro n4 (And.intro fqn3 (And.intro fqn2 (fqn1))))) ?_; refine x_ldp H [.string ⟨l[k].f_Item.f_Route.toArray⟩, .int .i64 l[k].f_Item.f_Topic, .int .i64 l[k].f_Item.f_Due, .slice B4 l[k].f_Item.f_Bytes.length d4] st28 ?_; refine ve (And.intro hp (And.intro n4 (And.intro fqn3 (And.intro fqn2 (fqn1))))) ?_; refine x_callb H (specItemOk_ok w7 _ l[k].f_Item (H.rd ri) hrt) fun w8 H => ?_
      cases ho : itemOk l[k].f_Item with
      | false =>
        refine ve (And.intro hp (And.intro n4 (And.intro fqn3 (And.intro fqn2 (fqn1))))) ?_; rw [no (wireOk_p hp fun hh => by rw [hh.1] at ho; cases ho)]
        first | exact ⟨rfl, H.bel⟩ | exact H.bel
      | true =>
        refine ve (And.intro hp (And.intro n4 (And.intro fqn3 (And.intro fqn2 (fqn1))))) ?_; refine x_ld H sc22 ?_
        by_cases hb : (0 : Int) < (l[k].f_Bytes.length : Int)
        · refine ve (And.intro hb (And.intro hp (And.intro n4 (And.intro fqn3 (And.intro fqn2 (fqn1)))))) ?_
          rw [no (wireOk_p hp fun hh => by omega)]
          first | exact ⟨rfl, H.bel⟩ | exact H.bel
        refine ve (And.intro hb (And.intro hp (And.intro n4 (And.intro fqn3 (And.intro fqn2 (fqn1)))))) ?_; refine x_ld H sc4 ?_; refine ve (And.intro hb (And.intro hp (And.intro n4 (And.intro fqn3 (And.intro fqn2 (fqn1)))))) ?_; exact ⟨k + 1, i64_eq hk3, ⟨hk2, go (by rw [wireOk_post hp, ho, decide_eq_true (show l[k].f_Bytes.length = 0 by omega)]; rfl), H.tail⟩, by omega⟩
    | false =>
      rw [hp] at H; refine ve (And.intro hp (And.intro n4 (And.intro fqn3 (And.intro fqn2 (fqn1))))) ?_; refine x_ld H sc4 ?_; refine ve (And.intro hp (And.intro n4 (And.intro fqn3 (And.intro fqn2 (fqn1))))) ?_; rw [no (wireOk_r hp fun hh => by rw [hno] at hh; exact absurd hh.1 (by decide))]
      first | exact ⟨rfl, H.bel⟩ | exact H.bel
  have fqn4 : ((l[k].f_Item.f_Bytes.length : Int) = 0) = True := eq_true n4; have hno : noItem l[k].f_Item = true := by unfold noItem; rw [decide_eq_true n1, decide_eq_true n2, decide_eq_true n3, decide_eq_true (show l[k].f_Item.f_Bytes.length = 0 by omega)]; rfl
  refine ve (And.intro fqn4 (And.intro fqn3 (And.intro fqn2 (fqn1)))) ?_; refine x_ld H sc4 ?_
  cases hp : l[k].f_ToPost with
  | true =>
    rw [hp] at H; refine ve (And.intro hp (And.intro fqn4 (And.intro fqn3 (And.intro fqn2 (fqn1))))) ?_; refine x_ldp H [.string ⟨l[k].f_Item.f_Route.toArray⟩, .int .i64 l[k].f_Item.f_Topic, .int .i64 l[k].f_Item.f_Due, .slice B4 l[k].f_Item.f_Bytes.length d4] st28 ?_; refine ve (And.intro hp (And.intro fqn4 (And.intro fqn3 (And.intro fqn2 (fqn1))))) ?_; refine x_callb H (specItemOk_ok w7 _ l[k].f_Item (H.rd ri) hrt) fun w8 H => ?_
    cases ho : itemOk l[k].f_Item with
    | false =>
      refine ve (And.intro hp (And.intro fqn4 (And.intro fqn3 (And.intro fqn2 (fqn1))))) ?_; rw [no (wireOk_p hp fun hh => by rw [hh.1] at ho; cases ho)]
      first | exact ⟨rfl, H.bel⟩ | exact H.bel
    | true =>
      refine ve (And.intro hp (And.intro fqn4 (And.intro fqn3 (And.intro fqn2 (fqn1))))) ?_; refine x_ld H sc22 ?_
      by_cases hb : (0 : Int) < (l[k].f_Bytes.length : Int)
      · refine ve (And.intro hb (And.intro hp (And.intro fqn4 (And.intro fqn3 (And.intro fqn2 (fqn1)))))) ?_
        rw [no (wireOk_p hp fun hh => by omega)]
        first | exact ⟨rfl, H.bel⟩ | exact H.bel
      refine ve (And.intro hb (And.intro hp (And.intro fqn4 (And.intro fqn3 (And.intro fqn2 (fqn1)))))) ?_; refine x_ld H sc4 ?_; refine ve (And.intro hb (And.intro hp (And.intro fqn4 (And.intro fqn3 (And.intro fqn2 (fqn1)))))) ?_; exact ⟨k + 1, i64_eq hk3, ⟨hk2, go (by rw [wireOk_post hp, ho, decide_eq_true (show l[k].f_Bytes.length = 0 by omega)]; rfl), H.tail⟩, by omega⟩
  | false =>
    rw [hp] at H; refine ve (And.intro hp (And.intro fqn4 (And.intro fqn3 (And.intro fqn2 (fqn1))))) ?_; refine x_ld H sc4 ?_; refine ve (And.intro hp (And.intro fqn4 (And.intro fqn3 (And.intro fqn2 (fqn1))))) ?_; refine x_ld H sc22 ?_
    by_cases hb : (1560 : Int) < (l[k].f_Bytes.length : Int)
    · refine ve (And.intro hb (And.intro hp (And.intro fqn4 (And.intro fqn3 (And.intro fqn2 (fqn1)))))) ?_
      rw [no (wireOk_r hp fun hh => by omega)]
      first | exact ⟨rfl, H.bel⟩ | exact H.bel
    refine ve (And.intro hb (And.intro hp (And.intro fqn4 (And.intro fqn3 (And.intro fqn2 (fqn1)))))) ?_; exact ⟨k + 1, i64_eq hk3, ⟨hk2, go (by rw [wireOk_read hp, hno, decide_eq_true (show l[k].f_Bytes.length ≤ 1560 by omega)]; rfl), H.tail⟩, by omega⟩
theorem specWorldOk_ok (w : World) (cs : List Value) (x : MWorld) (h : kWorld.rd w w.heap.size cs x) (hs : smWorld x) :
    ACalls Tryz.prog 52 #[.agg cs.toArray] w fun r w' => r = .bool (worldOk x) ∧ Below w.heap.size w w' := by
  unfold smWorld at hs; obtain ⟨v0, v3, v5, v7, v9, v10, v11, v12, rfl, h0, hC, hK, hP, hR, hN, hS⟩ := kWorld_open h; have hN0 := hN; have hS0 := hS; have hlN := sl_len hN; have hlS := sl_len hS; obtain ⟨A0, c0, rfl, _⟩ := sl_open h0; obtain ⟨A11, c11, rfl, _, _, haN⟩ := sl_open hN; obtain ⟨A12, c12, rfl, _, _, haS⟩ := sl_open hS; have H := Sep.start w; refine body_of follows Tryz.func52 rfl rfl _ rfl (by kernel_rfl) (vs ?_); refine x_bx H [.slice A0 x.f_Seed.length c0, .int .i64 x.f_Count, .int .i64 x.f_Known, v3, .int .i64 x.f_Post.f_Time, v5, .int .i64 x.f_Post.f_Sure, v7, .int .i64 x.f_Reader.f_Epoch, v9, v10, .slice A11 x.f_Net.length c11, .slice A12 x.f_Sent.length c12] fun g1 w1 H => vs ?_; refine x_ld H sc22 ?_
  by_cases hA : (x.f_Seed.length : Int) = 32
  rotate_left
  · refine ve (hA) ?_
    rw [worldOk_no fun hh => hA (by have := hh.1; omega)]
    first | exact ⟨rfl, H.bel⟩ | exact H.bel
  have eA : ((x.f_Seed.length : Int) = 32) = True := eq_true hA; refine ve (eA) ?_; refine x_ld H sc3 ?_; refine ve (eA) ?_; refine x_callw (l1In_ok w1 _ _ _) ?_
  by_cases hc : 0 ≤ x.f_Count ∧ x.f_Count ≤ 12
  rotate_left
  · refine ve (And.intro hc (eA)) ?_
    rw [worldOk_no fun hh => hc hh.2.1]
    first | exact ⟨rfl, H.bel⟩ | exact H.bel
  refine ve (And.intro eA (hc)) ?_; refine x_ld H sc3 ?_; refine ve (And.intro eA (hc)) ?_; refine x_callw (l1In_ok w1 _ _ _) ?_
  by_cases hk : 0 ≤ x.f_Known ∧ x.f_Known ≤ 40
  rotate_left
  · refine ve (And.intro hk (And.intro eA (hc))) ?_
    rw [worldOk_no fun hh => hk hh.2.2.1]
    first | exact ⟨rfl, H.bel⟩ | exact H.bel
  refine ve (And.intro eA (And.intro hc (hk))) ?_; refine x_ldp H [v3, .int .i64 x.f_Post.f_Time, v5, .int .i64 x.f_Post.f_Sure] st32 ?_; refine ve (And.intro eA (And.intro hc (hk))) ?_; refine x_callb H (specPostOk_ok w1 _ x.f_Post (H.rd hP) hs.2.1) fun w2 H => ?_
  cases hp : postOk x.f_Post with
  | false =>
    refine ve (And.intro eA (And.intro hc (hk))) ?_; rw [worldOk_no fun hh => by have := hh.2.2.2.1; rw [hp] at this; cases this]
    first | exact ⟨rfl, H.bel⟩ | exact H.bel
  | true =>
    refine ve (And.intro eA (And.intro hc (hk))) ?_; refine x_ldp H [v7, .int .i64 x.f_Reader.f_Epoch, v9, v10] st35 ?_; refine ve (And.intro eA (And.intro hc (hk))) ?_; refine x_callb H (specReaderOk_ok w2 _ x.f_Reader (H.rd hR)) fun w3 H => ?_
    cases hq : readerOk x.f_Reader with
    | false =>
      refine ve (And.intro eA (And.intro hc (hk))) ?_; rw [worldOk_no fun hh => by have := hh.2.2.2.2.1; rw [hq] at this; cases this]
      first | exact ⟨rfl, H.bel⟩ | exact H.bel
    | true =>
      refine ve (And.intro eA (And.intro hc (hk))) ?_; refine x_ld H sc36 ?_; refine ve (And.intro eA (And.intro hc (hk))) ?_; refine x_callb H (l17Net_ok w3 _ x.f_Net (H.rd hN0) hs.2.2.2.1) fun w4 H => ?_
      cases hn : (x.f_Net.all wireOk && decide (x.f_Net.length ≤ 12)) with
      | false =>
        refine ve (And.intro eA (And.intro hc (hk))) ?_; rw [worldOk_no fun hh => by rw [hh.2.2.2.2.2.2.2.1, decide_eq_true hh.2.2.2.2.2.1] at hn; cases hn]
        first | exact ⟨rfl, H.bel⟩ | exact H.bel
      | true =>
        simp only [Bool.and_eq_true, decide_eq_true_eq] at hn; refine ve (And.intro eA (And.intro hc (hk))) ?_; refine x_ld H sc37 ?_; refine ve (And.intro eA (And.intro hc (hk))) ?_; refine x_ld H sc3 ?_
        by_cases hl : (x.f_Sent.length : Int) = x.f_Count
        rotate_left
        · refine ve (And.intro hl (And.intro eA (And.intro hc (hk)))) ?_
          rw [worldOk_no fun hh => hl hh.2.2.2.2.2.2.1]
          first | exact ⟨rfl, H.bel⟩ | exact H.bel
        have el : ((x.f_Sent.length : Int) = x.f_Count) = True := eq_true hl; refine ve (And.intro eA (And.intro hc (And.intro hk (el)))) ?_
        refine loop_at (σ := Nat) (fun k => [(1, .pointer (some ⟨g1, 0, none⟩)), (3, .int .i64 (k : Int))])
          (fun k w' => k ≤ x.f_Sent.length ∧ (∀ i (hi : i < x.f_Sent.length), i < k → sentOk x.f_Sent[i] = true) ∧ Sep w.heap.size w w' [Ck.box g1 [.slice A0 x.f_Seed.length c0, .int .i64 x.f_Count, .int .i64 x.f_Known, v3, .int .i64 x.f_Post.f_Time, v5, .int .i64 x.f_Post.f_Sure, v7, .int .i64 x.f_Reader.f_Epoch, v9, v10, .slice A11 x.f_Net.length c11, .slice A12 x.f_Sent.length c12] 39]) (fun k => x.f_Sent.length - k) 0 (vs trivial) ⟨Nat.zero_le _, fun i hi h => absurd h (Nat.not_lt_zero i), H⟩ ?_
        rintro k s w5 ⟨hkl, hall, H⟩; refine vs ?_; refine x_ld H sc37 ?_; refine vs (ways ?_ ?_)
        · refine vh fun hlt => ?_
          have hk2 : k < x.f_Sent.length := by omega
          refine x_ld H sc37 ?_; refine vs ?_; refine x_ele H sl37 rfl k hk2 haS rfl fun ad es hb1 hr hc' => vs ?_; have hr : kSent.rd w w.heap.size es x.f_Sent[k] := hr; have hr2 := hr; obtain ⟨u2, u3, rfl, r0, r1, r2, r3⟩ := kSent_open hr2; have r3' := r3; obtain ⟨B2, d2, rfl, _⟩ := sl_open r2; obtain ⟨B3, d3, rfl, _⟩ := sl_open r3; refine x_lds st66 hc' (Kd.len _ hr) (vs ?_); refine x_al H st66 fun g5 w6 H => vs ?_; refine x_sta H st66 (vs := [.string ⟨x.f_Sent[k].f_Route.toArray⟩, .int .i64 x.f_Sent[k].f_Epoch, .slice B2 x.f_Sent[k].f_Note.length d2, .slice B3 x.f_Sent[k].f_Bytes.length d3]) (h1 := Kd.one _ hr) fun w7 H => vs ?_; refine x_ld H sc9 ?_; refine vs ?_; refine x_ld H sc22 ?_; refine vs ?_; refine x_build bl28 [.string ⟨x.f_Sent[k].f_Route.toArray⟩, .int .i64 0, .int .i64 0, .slice B3 x.f_Sent[k].f_Bytes.length d3] ?_; refine vs ?_; refine x_callb H (specItemOk_ok w7 _ ⟨x.f_Sent[k].f_Route, 0, 0, x.f_Sent[k].f_Bytes⟩ (kItem_of0 r0 (H.rd r3')) (by have := (hs.2.2.2.2.2 _ (List.getElem_mem hk2)).1; dsimp only; omega)) fun w8 H => ?_
          have eI : itemOk ⟨x.f_Sent[k].f_Route, 0, 0, x.f_Sent[k].f_Bytes⟩ = (isRoute x.f_Sent[k].f_Route && decide (x.f_Sent[k].f_Bytes.length ≤ 1560)) := by
            unfold itemOk; simp
          cases hi : itemOk ⟨x.f_Sent[k].f_Route, 0, 0, x.f_Sent[k].f_Bytes⟩ with
          | false =>
            rw [hi] at eI; refine vs ?_
            rw [worldOk_no fun hh => by
              have := sentOk_iff.1 (List.all_eq_true.1 hh.2.2.2.2.2.2.2.2 _ (List.getElem_mem hk2)); rw [this.2.1, decide_eq_true this.2.2.1] at eI
              cases eI]
            first | exact ⟨rfl, H.bel⟩ | exact H.bel
          | true =>
            rw [hi] at eI; have eI2 := eI.symm; simp only [Bool.and_eq_true, decide_eq_true_eq] at eI2; refine vs ?_; refine x_ld H sc22 ?_
            by_cases hn2 : (200 : Int) < (x.f_Sent[k].f_Note.length : Int)
            · refine ve hn2 ?_
              rw [worldOk_no fun hh => by
                have := sentOk_iff.1 (List.all_eq_true.1 hh.2.2.2.2.2.2.2.2 _ (List.getElem_mem hk2))
                omega]
              first | exact ⟨rfl, H.bel⟩ | exact H.bel
            refine ve hn2 ?_; refine x_ld H sc3 ?_; refine ve hn2 ?_; refine x_callw (l1In_ok w8 _ _ _) ?_
            by_cases he : 0 ≤ x.f_Sent[k].f_Epoch ∧ x.f_Sent[k].f_Epoch ≤ 40
            rotate_left
            · refine ve (And.intro he hn2) ?_
              rw [worldOk_no fun hh => by
                have := sentOk_iff.1 (List.all_eq_true.1 hh.2.2.2.2.2.2.2.2 _ (List.getElem_mem hk2))
                exact he this.2.2.2]
              first | exact ⟨rfl, H.bel⟩ | exact H.bel
            refine ve (And.intro he hn2) ?_; refine ⟨k + 1, i64_eq (by have := hs.2.2.2.2.1; unfold w64; omega), ⟨hk2, fun i hi h => ?_, H.tail⟩, by omega⟩
            by_cases h2 : i = k
            · subst h2; exact sentOk_iff.2 ⟨by omega, eI2.1, eI2.2, he⟩
            · exact hall i hi (by omega)
        · refine vh fun hlt => ?_
          have e : worldOk x = true := worldOk_iff.2 ⟨by omega, hc, hk, hp, hq, hn.2, hl, hn.1, List.all_eq_true.2 fun y hy => by
            obtain ⟨i, hi, rfl⟩ := List.getElem_of_mem hy
            exact hall i hi (by omega)⟩
          rw [e]
          first | exact ⟨rfl, H.bel⟩ | exact H.bel

def worldZ (a b : List UInt8) : MWorld := ⟨a, 0, 0, zPost, readerZ b, [], []⟩
noncomputable def worldY (a b : List UInt8) : MWorld := ⟨a, 0, 0, zPost, readerNew b, [], []⟩
noncomputable def worldNew (a b : List UInt8) : MWorld × Bool := if worldOk (worldZ a b) = true then (worldZ a b, true) else (zWorld, false)
theorem worldNew_yes {a b : List UInt8} (h : worldOk (worldZ a b) = true) : worldNew a b = (worldZ a b, true) := by unfold worldNew; rw [if_pos h]
theorem worldNew_no {a b : List UInt8} (h : worldOk (worldZ a b) = false) : worldNew a b = (zWorld, false) := by unfold worldNew; rw [if_neg (by rw [h]; decide)]
theorem zReader_bad : readerOk zReader = false := readerOk_false fun h => by have := h.1; cases this
theorem worldY_Z (a b : List UInt8) : worldOk (worldY a b) = worldOk (worldZ a b) := by
  cases h : readerOk (readerZ b) with
  | true =>
    have e : readerNew b = readerZ b := by unfold readerNew; rw [if_pos h]
    unfold worldY worldZ; rw [e]
  | false =>
    have e : readerNew b = zReader := by unfold readerNew; rw [if_neg (by rw [h]; decide)]
    have e1 := worldOk_no (x := worldY a b) fun hh => by
        have := hh.2.2.2.2.1; rw [show (worldY a b).f_Reader = readerNew b from rfl, e, zReader_bad] at this; cases this
    have e2 := worldOk_no (x := worldZ a b) fun hh => by
        have := hh.2.2.2.2.1; rw [show (worldZ a b).f_Reader = readerZ b from rfl, h] at this; cases this
    rw [e1, e2]
theorem worldY_ok {a b : List UInt8} (h : worldOk (worldZ a b) = true) : worldY a b = worldZ a b := by
  have h2 := (worldOk_iff.1 h).2.2.2.2.1; have e : readerNew b = readerZ b := by unfold readerNew; rw [if_pos (show readerOk (readerZ b) = true from h2)]
  unfold worldY worldZ; rw [e]
theorem smZ {a b : List UInt8} (ha : a.length ≤ 1048576) (hb : b.length ≤ 1048576) : smWorld (worldZ a b) := by
  unfold smWorld worldZ smPost smReader smItemS smByteSS smWireS smSentS zPost readerZ; refine ⟨ha, ⟨⟨by simp, by simp⟩, by simp⟩, ⟨hb, ⟨by simp, by simp⟩, ⟨by simp, by simp⟩⟩, ⟨by simp, by simp⟩, ⟨by simp, by simp⟩⟩
theorem smY {a b : List UInt8} (ha : a.length ≤ 1048576) (hb : b.length ≤ 1048576) : smWorld (worldY a b) := by
  have hr : smReader (readerNew b) := by
    unfold readerNew
    split
    · exact (smZ ha hb).2.2.1
    · unfold smReader zReader smByteSS; exact ⟨by simp, ⟨by simp, by simp⟩, ⟨by simp, by simp⟩⟩
  have hz := smZ ha hb; exact ⟨hz.1, hz.2.1, hr, hz.2.2.2.1, hz.2.2.2.2⟩
theorem worldNew_sm {a b : List UInt8} (ha : a.length ≤ 1048576) (hb : b.length ≤ 1048576) : smWorld (worldNew a b).1 := by
  unfold worldNew
  split
  · exact smZ ha hb
  · have hz := smZ (a := []) (b := []) (Nat.zero_le _) (Nat.zero_le _)
    unfold smWorld zWorld smPost smReader smItemS smByteSS smWireS smSentS zPost zReader; refine ⟨Nat.zero_le _, ⟨⟨by simp, by simp⟩, by simp⟩, ⟨Nat.zero_le _, ⟨by simp, by simp⟩, ⟨by simp, by simp⟩⟩, ⟨by simp, by simp⟩, ⟨by simp, by simp⟩⟩
theorem zero_rg : (-9223372036854775808 : Int) ≤ 0 ∧ (0 : Int) < 9223372036854775808 := by decide
theorem one4z {a b : Value} (ha : a.oneCell' = true) (hb : b.oneCell' = true) : ∀ v ∈ [a, .int .i64 0, b, .int .i64 0], v.oneCell' = true := by
  intro v hv; simp only [List.mem_cons, List.not_mem_nil, or_false] at hv
  rcases hv with rfl | rfl | rfl | rfl
  · exact ha
  · rfl
  · exact hb
  · rfl
theorem specPostNewZ (w : World) : ACalls Tryz.prog 45 #[] w fun r w' => r = .agg #[.slice none 0 0, .int .i64 0, .slice none 0 0, .int .i64 0] ∧ Below w.heap.size w w' := by
  have H := Sep.start w; refine body_of follows Tryz.func45 rfl rfl _ rfl (by kernel_rfl) (vs ?_); refine x_al H st32 fun g1 w1 H => vs ?_; refine x_build bl32 [.slice none 0 0, .int .i64 0, .slice none 0 0, .int .i64 0] ?_; refine vs ?_; refine x_sta H st32 (vs := [.slice none 0 0, .int .i64 0, .slice none 0 0, .int .i64 0]) (h1 := one4z rfl rfl) fun w2 H => vs ?_; exact ⟨_, _, rfl, res_cell H st32, rfl, H.bel⟩
theorem ownW {n : Nat} {w0 w : World} {L : List Ck} {f0 f4 : List Nat} {v0 v4 v6 v7 : Value} {a : List UInt8} {r : MReader} (H : Sep n w0 w (Ck.own (bytes 5) f0 [v0] a :: Ck.own kReader f4 [v4, .int .i64 r.f_Epoch, v6, v7] r :: L)) :
    ∃ fp, Sep n w0 w (Ck.own kWorld fp [v0, .int .i64 0, .int .i64 0, .slice none 0 0, .int .i64 0, .slice none 0 0, .int .i64 0, v4, .int .i64 r.f_Epoch, v6, v7, .slice none 0 0, .slice none 0 0] ⟨a, 0, 0, zPost, r, [], []⟩ :: L) := by
  have H := H.nothing (d := sents) (sl_zero w); have H := H.nothing (d := wires) (sl_zero w); have H := H.front (c := Ck.own kReader f4 [v4, .int .i64 r.f_Epoch, v6, v7] r); have H := H.nothing (kPost_zero w); have H := H.front (c := Ck.own (bytes 5) f0 [v0] a); exact ownWorld (⟨a, 0, 0, zPost, r, [], []⟩ : MWorld) H zero_rg zero_rg
theorem one13 {a b c d : Value} {n : Int} (ha : a.oneCell' = true) (hb : b.oneCell' = true) (hc : c.oneCell' = true) (hd : d.oneCell' = true) : ∀ v ∈ [a, .int .i64 0, .int .i64 0, .slice none 0 0, .int .i64 0, .slice none 0 0, .int .i64 0, b, .int .i64 n, c, d, .slice none 0 0, .slice none 0 0], v.oneCell' = true := by
  intro v hv; simp only [List.mem_cons, List.not_mem_nil, or_false] at hv
  rcases hv with rfl | rfl | rfl | rfl | rfl | rfl | rfl | rfl | rfl | rfl | rfl | rfl | rfl <;> first | rfl | assumption
end Go.Proofs.YtcmckbgiiclomabGreatDoor.V
