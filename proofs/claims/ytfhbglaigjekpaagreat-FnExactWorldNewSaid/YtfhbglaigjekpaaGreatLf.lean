/- The law FnExactWorldNew, walked. Laid by a program. -/
import Derived.Test.YtfhbglaigjekpaaGreatWni
import Derived.Test.YtfhbglaigjekpaaGreatWns
import Derived.Test.YtfhbglaigjekpaaGreatWxw
namespace Go.Proofs.YtfhbglaigjekpaaGreat.V
open Go Go.RowKit
set_option maxRecDepth 100000
set_option maxHeartbeats 8000000
set_option linter.unusedSimpArgs false
set_option linter.unusedVariables false
set_option pp.deepTerms false
set_option pp.deepTerms.threshold 3
theorem FnExactWorldNew_ok (w : World) (v0 : Value) (x0 : (List UInt8)) (h0 : ((Kd.slice 5 Kd.u8)).rd w w.heap.size [v0] x0) (v1 : Value) (x1 : (List UInt8)) (h1 : ((Kd.slice 5 Kd.u8)).rd w w.heap.size [v1] x1) :
    ACalls Tryz.prog 5 #[v0, v1] w fun r w' => r = .bool true ∧ Below w.heap.size w w' := by
  have hv0 := h0
  have hlm0 := sl_len h0
  obtain ⟨A0, k0, rfl, _, _, _⟩ := sl_open h0
  have hv1 := h1
  have hlm1 := sl_len h1
  obtain ⟨A1, k1, rfl, _, _, _⟩ := sl_open h1
  have H := Sep.start w
  refine body_of follows Tryz.func5 rfl rfl _ rfl (by kernel_rfl) (vs ?_)
  refine ways ?_ ?_
  · refine vh fun _ => ?_
    exact H.bel
  refine vh fun hs0 => ?_
  refine ways ?_ ?_
  · refine vh fun _ => ?_
    exact H.bel
  refine vh fun hs1 => ?_
  refine x_callf H (toByteS_ok w _ _ (H.rd h0) (by omega)) fun r1 f1 w1 H => vs ?_
  refine x_callf H (toByteS_ok w1 _ _ (H.rd h1) (by omega)) fun r2 f2 w2 H => vs ?_
  refine x_call (specWorldNew_ok w2 _ x0 _ x1 (H.own (.tail _ (.head _))) (H.own (.head _)) (by omega) (by omega)) fun _ w3 ⟨v3_0, f3_0, e3, S⟩ => ?_
  subst e3
  have H := H.join S
  simp only [List.cons_append, List.nil_append] at H
  obtain ⟨t3_0_0, t3_0_3_0, t3_0_3_2, t3_0_4_0, t3_0_4_2, t3_0_4_3, t3_0_5, t3_0_6, rfl, _⟩ := kWorld_open (H.own (.head _))
  refine vs ?_
  refine x_al H st42 fun b3_0 w4 H => vs ?_
  refine x_sta H st42 (h1 := Kd.one _ (H.own (.tail _ (.head _)))) fun w5 H => vs ?_
  refine x_callf H (toByteS_ok w5 _ _ (H.rd h0) (by omega)) fun r4 f4 w6 H => vs ?_
  refine x_callf H (toByteS_ok w6 _ _ (H.rd h1) (by omega)) fun r5 f5 w7 H => vs ?_
  refine x_call (implWorldNew_ok w7 _ x0 _ x1 (H.own (.tail _ (.head _))) (H.own (.head _)) (by omega) (by omega)) fun _ w8 ⟨v6_0, f6_0, e6, S⟩ => ?_
  subst e6
  have H := H.join S
  simp only [List.cons_append, List.nil_append] at H
  obtain ⟨t6_0_0, t6_0_3_0, t6_0_3_2, t6_0_4_0, t6_0_4_2, t6_0_4_3, t6_0_5, t6_0_6, rfl, _⟩ := kWorld_open (H.own (.head _))
  refine vs ?_
  refine x_al H st42 fun b6_0 w9 H => vs ?_
  refine x_sta H st42 (h1 := Kd.one _ (H.own (.tail _ (.head _)))) fun w10 H => vs ?_
  refine x_lda H st42 ?_
  refine vs ?_
  refine x_lda H st42 ?_
  refine vs ?_
  refine x_callb H (eqWorld_ok w10 _ _ _ (H.own (.tail _ (.head _))) (H.own (.tail _ (.tail _ (.tail _ (.tail _ (.tail _ (.head _)))))))) fun w11 H => vs ?_
  refine x_callf H (toByteS_ok w11 _ _ (H.rd h0) (by omega)) fun r7 f7 w12 H => vs ?_
  refine x_callb H (eqByteS_ok w12 _ _ _ _ (H.own (.tail _ (.tail _ (.tail _ (.tail _ (.head _)))))) (H.own (.head _))) fun w13 H => vs ?_
  refine x_callf H (toByteS_ok w13 _ _ (H.rd h1) (by omega)) fun r8 f8 w14 H => vs ?_
  refine x_callb H (eqByteS_ok w14 _ _ _ _ (H.own (.tail _ (.tail _ (.tail _ (.tail _ (.head _)))))) (H.own (.head _))) fun w15 H => vs ?_
  have ht0 : (x0).length ≤ 1099511627776 := by omega
  have ht1 : (x1).length ≤ 1099511627776 := by omega
  have H := H.front (h := (.there (.there (.there (.there (.there .here))))))
  refine x_call (markByteS_ok H (1) (by omega)) fun _ w16 ⟨e, fm9, H⟩ => ?_
  subst e
  refine vs ?_
  have H := H.front (h := (.there (.there (.there (.there (.there .here))))))
  refine x_call (markByteS_ok H (1 + (x0).length) (by omega)) fun _ w17 ⟨e, fm10, H⟩ => ?_
  subst e
  have nk : ¬ ((1 + (x0).length + (x1).length : Nat) : Int) < 0 := by omega
  refine ve nk ?_
  refine x_lda H st42 ?_
  refine vs ?_
  refine x_lda H st42 ?_
  refine vs ?_
  refine x_callb H (eqWorld_ok w17 _ _ _ (H.own (.tail _ (.tail _ (.tail _ (.tail _ (.tail _ (.head _))))))) (H.own (.tail _ (.tail _ (.tail _ (.tail _ (.tail _ (.tail _ (.tail _ (.head _)))))))))) fun w18 H => vs ?_
  have hg0 : (totWorld ((worldNew x0 x1).1)) ≤ 1152921504606846976 := (by have := totWorld_le (worldNew_sm (a := x0) (b := x1) (by omega) (by omega)); omega)
  refine x_lda H st42 ?_
  refine vs ?_
  have H := H.front (h := (.there (.there (.there (.there (.there .here))))))
  refine x_call (markWorld_ok H (1) (by omega)) fun _ w19 ⟨e, fm11, H⟩ => ?_
  subst e
  refine vs ?_
  refine x_lda H st42 ?_
  refine vs ?_
  refine x_callb H (heldWorld_ok w19 _ ((worldNew x0 x1).1) (1) (H.own (.head _)) (by omega)) fun w20 H => ?_
  have nn12 : ¬ ((1 + (totWorld ((worldNew x0 x1).1)) : Nat) : Int) < 0 := by omega
  refine ve nn12 ?_
  refine x_callf H (toByteS_ok w20 _ _ (H.rd h0) (by omega)) fun r13 f13 w21 H => vs ?_
  refine x_callf H (toByteS_ok w21 _ _ (H.rd h1) (by omega)) fun r14 f14 w22 H => vs ?_
  refine x_call (implWorldNew_ok w22 _ x0 _ x1 (H.own (.tail _ (.head _))) (H.own (.head _)) (by omega) (by omega)) fun _ w23 ⟨v15_0, f15_0, e15, S⟩ => ?_
  subst e15
  have H := H.join S
  simp only [List.cons_append, List.nil_append] at H
  obtain ⟨t15_0_0, t15_0_3_0, t15_0_3_2, t15_0_4_0, t15_0_4_2, t15_0_4_3, t15_0_5, t15_0_6, rfl, _⟩ := kWorld_open (H.own (.head _))
  refine vs ?_
  refine x_al H st42 fun b15_0 w24 H => vs ?_
  refine x_sta H st42 (h1 := Kd.one _ (H.own (.tail _ (.head _)))) fun w25 H => vs ?_
  refine x_lda H st42 ?_
  refine vs ?_
  refine x_lda H st42 ?_
  refine vs ?_
  refine x_callb H (eqWorld_ok w25 _ _ _ (H.own (.tail _ (.head _))) (H.own (.tail _ (.tail _ (.tail _ (.tail _ (.tail _ (.tail _ (.tail _ (.tail _ (.tail _ (.tail _ (.tail _ (.head _)))))))))))))) fun w26 H => vs ?_
  refine x_lda H st42 ?_
  refine vs ?_
  refine x_callb H (heldWorld_ok w26 _ ((worldNew x0 x1).1) (1) (H.own (.tail _ (.tail _ (.tail _ (.tail _ (.head _)))))) (by omega)) fun w27 H => ?_
  have nn16 : ¬ ((1 + (totWorld ((worldNew x0 x1).1)) : Nat) : Int) < 0 := by omega
  refine ve nn16 ?_
  exact H.bel
end Go.Proofs.YtfhbglaigjekpaaGreat.V
