/- The law FnExactIssue, walked. Laid by a program. -/
import Derived.Test.YticlmbnchldbfaaDoorWta
import Derived.Test.YticlmbnchldbfaaDoorVu
namespace Go.Proofs.YticlmbnchldbfaaDoor.V
open Go Go.RowKit
set_option maxRecDepth 100000
set_option maxHeartbeats 4000000
set_option linter.unusedSimpArgs false
set_option linter.unusedVariables false
set_option pp.deepTerms false
set_option pp.deepTerms.threshold 3
theorem FnExactIssue_ok (w : World) (v0 : Value) (x0 : (List UInt8)) (h0 : ((Kd.slice 5 Kd.u8)).rd w w.heap.size [v0] x0) (c1 : List Value) (x1 : MToken) (h1 : kToken.rd w w.heap.size c1 x1) (ht : Tab w) :
    ACalls Tryd.prog 4 #[v0, .agg c1.toArray] w fun r w' => r = .bool true ∧ Below w.heap.size w w' := by
  have hv0 := h0
  have hlm0 := sl_len h0
  obtain ⟨A0, k0, rfl, _, _, _⟩ := sl_open h0
  obtain ⟨_, rfl, _⟩ := kToken_open h1
  have H := Sep.start w
  refine body_of follows Tryd.func4 rfl rfl _ rfl (by kernel_rfl) (vs ?_)
  refine x_bx H [.string ⟨(x1.f_Route).toArray⟩, .int .i64 x1.f_Until] fun g1 w1 H => vs ?_
  refine ways ?_ ?_
  · refine vh fun _ => ?_
    exact H.bel
  refine vh fun hs0 => ?_
  refine x_lda H st47 ?_
  refine vs ?_
  refine x_call (szToken_ok w1 _ _ _ (H.rd h1) (by omega) (by omega)) fun _ w2 ⟨z1, e, hb, lo1, hi1, s⟩ => ?_
  subst e
  have H := H.go hb
  refine vs (ways ?_ ?_)
  · refine vh fun _ => ?_
    exact H.bel
  refine vh fun hge => ?_
  have hs1 := s (by omega)
  refine draw_at [(0, true), (2, true), (1, false), (3, false), (4, false), (5, true)] fun w3 hh hb => vs ?_
  have H := H.go (hb _)
  refine q_lda H st47 ?_
  refine vs ?_
  refine x_call (toByteS_ok w3 _ _ (H.rd h0) (by omega)) fun r1 w4 ⟨f1, S⟩ => ?_
  have HK := kept_of S.bel (Nat.le_refl _)
  have H := H.join S
  simp only [List.cons_append, List.nil_append] at H
  refine vs ?_
  refine ⟨HK, ?_⟩
  refine x_call (toToken_ok w4 _ _ (H.rd h1) hs1) fun _ w5 ⟨d2, f2, e, S⟩ => ?_
  subst e
  have HK := HK.below (S.bel.mono (HK.1 (Nat.le_refl _)))
  have H := H.join S
  simp only [List.cons_append, List.nil_append] at H
  refine vs ?_
  refine ⟨HK, ?_⟩
  refine x_call (specIssue_ok w5 _ x0 _ x1 (H.own (.tail _ (.head _))) (H.own (.head _)) hs1 (ht.below H.bel)) fun _ w6 ⟨e, hb⟩ => ?_
  subst e
  have HK := HK.below (hb.mono (HK.1 (Nat.le_refl _)))
  have H := H.go hb
  refine vs ?_
  refine ⟨HK, ?_⟩
  refine x_callf H (toByteS_ok w6 _ _ (H.rd h0) (by omega)) fun r3 f3 w7 H => vs ?_
  refine x_lda H st47 ?_
  refine vs ?_
  refine x_call (toToken_ok w7 _ _ (H.rd h1) hs1) fun _ w8 ⟨d4, f4, e, S⟩ => ?_
  subst e
  have H := H.join S
  simp only [List.cons_append, List.nil_append] at H
  refine vs ?_
  refine x_callb H (implIssue_ok w8 _ x0 _ x1 (H.own (.tail _ (.head _))) (H.own (.head _)) hs1 (ht.below H.bel)) fun w9 H => vs ?_
  refine x_callf H (toByteS_ok w9 _ _ (H.rd h0) (by omega)) fun r6 f6 w10 H => vs ?_
  refine x_callb H (eqByteS_ok w10 _ _ _ _ (H.own (fp := f3) (x := x0) (by repeat (first | exact List.mem_cons_self | apply List.mem_cons_of_mem))) (H.own (.head _))) fun w11 H => vs ?_
  exact H.bel
end Go.Proofs.YticlmbnchldbfaaDoor.V
