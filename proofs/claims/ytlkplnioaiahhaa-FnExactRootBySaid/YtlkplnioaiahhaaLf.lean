/- The law FnExactRootBy, walked. Laid by a program. -/
import Derived.Test.YtlkplnioaiahhaaZ2
import Derived.Test.YtlkplnioaiahhaaWm
import Derived.Test.YtlkplnioaiahhaaWx
import Derived.Test.YtlkplnioaiahhaaWt
namespace Go.Proofs.Ytlkplnioaiahhaa.V
open Go Go.RowKit
set_option maxRecDepth 100000
set_option maxHeartbeats 8000000
set_option linter.unusedSimpArgs false
set_option linter.unusedVariables false
set_option pp.deepTerms false
set_option pp.deepTerms.threshold 3
theorem FnExactRootBy_ok (w : World) (v0 : Value) (x0 : (List UInt8)) (h0 : ((Kd.slice 5 Kd.u8)).rd w w.heap.size [v0] x0) (v1 : Value) (x1 : Int) (h1 : (Kd.i64).rd w w.heap.size [v1] x1) (v2 : Value) (x2 : Int) (h2 : (Kd.i64).rd w w.heap.size [v2] x2) (v3 : Value) (x3 : (List (List UInt8))) (h3 : ((Kd.slice 22 (Kd.slice 5 Kd.u8))).rd w w.heap.size [v3] x3) :
    ACalls Try.prog 10 #[v0, v1, v2, v3] w fun r w' => r = .bool true ∧ Below w.heap.size w w' := by
  have hv0 := h0
  have hlm0 := sl_len h0
  obtain ⟨A0, k0, rfl, _, _, _⟩ := sl_open h0
  have hr1 := h1.2
  obtain rfl := (List.cons.inj h1.1).1
  have hr2 := h2.2
  obtain rfl := (List.cons.inj h2.1).1
  have hv3 := h3
  have hlm3 := sl_len h3
  obtain ⟨A3, k3, rfl, _, _, _⟩ := sl_open h3
  have H := Sep.start w
  refine body_of follows Try.func10 rfl rfl _ rfl (by kernel_rfl) (vs ?_)
  refine ways ?_ ?_
  · refine vh fun _ => ?_
    exact H.bel
  refine vh fun hs0 => ?_
  refine x_call (szByteSS_ok w _ _ _ (H.rd h3) (by omega) (by omega)) fun _ w1 ⟨z3, e, hb, lo3, hi3, s⟩ => ?_
  subst e
  have H := H.go hb
  refine vs (ways ?_ ?_)
  · refine vh fun _ => ?_
    exact H.bel
  refine vh fun hge => ?_
  have hs3 := s (by omega)
  refine x_callf H (toByteS_ok w1 _ _ (H.rd h0) (by omega)) fun r1 f1 w2 H => vs ?_
  refine x_callf H (toByteSS_ok w2 _ _ (H.rd h3) hs3) fun r4 f4 w3 H => vs ?_
  refine x_call (specRootBy_ok w3 _ x0 x1 x2 _ x3 (H.own (.tail _ (.head _))) (H.own (.head _)) (by omega) (few_sm' hs3)) fun _ w4 ⟨v5_0, f5_0, e5, S⟩ => ?_
  subst e5
  have H := H.join S
  simp only [List.cons_append, List.nil_append] at H
  refine vs ?_
  refine x_callf H (toByteS_ok w4 _ _ (H.rd h0) (by omega)) fun r6 f6 w5 H => vs ?_
  refine x_callf H (toByteSS_ok w5 _ _ (H.rd h3) hs3) fun r9 f9 w6 H => vs ?_
  refine x_call (implRootBy_ok w6 _ x0 x1 x2 _ x3 (H.own (.tail _ (.head _))) (H.own (.head _)) (by omega) (few_sm' hs3)) fun _ w7 ⟨v10_0, f10_0, e10, S⟩ => ?_
  subst e10
  have H := H.join S
  simp only [List.cons_append, List.nil_append] at H
  refine vs ?_
  refine x_callb H (eqByteS_ok w7 _ _ _ _ (H.own (.head _)) (H.own (.tail _ (.tail _ (.tail _ (.head _)))))) fun w8 H => vs ?_
  refine x_callf H (toByteS_ok w8 _ _ (H.rd h0) (by omega)) fun r11 f11 w9 H => vs ?_
  refine x_callb H (eqByteS_ok w9 _ _ _ _ (H.own (.tail _ (.tail _ (.tail _ (.head _))))) (H.own (.head _))) fun w10 H => vs ?_
  refine x_callf H (toByteSS_ok w10 _ _ (H.rd h3) hs3) fun r12 f12 w11 H => vs ?_
  refine x_callb H (eqByteSS_ok w11 _ _ x3 (H.own (.tail _ (.tail _ (.tail _ (.head _))))) (H.own (.head _))) fun w12 H => vs ?_
  have ht0 : (x0).length ≤ 1099511627776 := by omega
  have ht3 := totByteSS_le hs3
  have H := H.front (h := (.there (.there (.there (.there .here)))))
  refine x_call (markByteS_ok H (1) (by omega)) fun _ w13 ⟨e, fm13, H⟩ => ?_
  subst e
  refine vs ?_
  have H := H.front (h := (.there (.there (.there (.there .here)))))
  refine x_call (markByteSS_ok H (1 + (x0).length) (by omega)) fun _ w14 ⟨e, fm14, H⟩ => ?_
  subst e
  have nk : ¬ ((1 + (x0).length + (totByteSS (x3)) : Nat) : Int) < 0 := by omega
  refine ve nk ?_
  refine x_callb H (eqByteS_ok w14 _ _ _ _ (H.own (.tail _ (.tail _ (.tail _ (.tail _ (.head _)))))) (H.own (.tail _ (.tail _ (.tail _ (.tail _ (.tail _ (.head _)))))))) fun w15 H => vs ?_
  have hg0 : ((rootBy x0 x1 x2 x3).getD []).length ≤ 1152921504606846976 := (by have := rootBy_len x0 x1 x2 x3; omega)
  have H := H.front (h := (.there (.there (.there (.there .here)))))
  refine x_call (markByteS_ok H (1) (by omega)) fun _ w16 ⟨e, fm15, H⟩ => ?_
  subst e
  refine vs ?_
  refine x_callw (heldByteS_ok w16 _ ((rootBy x0 x1 x2 x3).getD []) (1) (H.own (.head _)) (by omega)) ?_
  have nn16 : ¬ ((1 + ((rootBy x0 x1 x2 x3).getD []).length : Nat) : Int) < 0 := by omega
  refine ve nn16 ?_
  refine x_callf H (toByteS_ok w16 _ _ (H.rd h0) (by omega)) fun r17 f17 w17 H => vs ?_
  refine x_callf H (toByteSS_ok w17 _ _ (H.rd h3) hs3) fun r20 f20 w18 H => vs ?_
  refine x_call (implRootBy_ok w18 _ x0 x1 x2 _ x3 (H.own (.tail _ (.head _))) (H.own (.head _)) (by omega) (few_sm' hs3)) fun _ w19 ⟨v21_0, f21_0, e21, S⟩ => ?_
  subst e21
  have H := H.join S
  simp only [List.cons_append, List.nil_append] at H
  refine vs ?_
  refine x_callb H (eqByteS_ok w19 _ _ _ _ (H.own (.head _)) (H.own (.tail _ (.tail _ (.tail _ (.tail _ (.tail _ (.tail _ (.tail _ (.tail _ (.head _))))))))))) fun w20 H => vs ?_
  refine x_callw (heldByteS_ok w20 _ ((rootBy x0 x1 x2 x3).getD []) (1) (H.own (.tail _ (.tail _ (.tail _ (.head _))))) (by omega)) ?_
  have nn22 : ¬ ((1 + ((rootBy x0 x1 x2 x3).getD []).length : Nat) : Int) < 0 := by omega
  refine ve nn22 ?_
  exact H.bel
end Go.Proofs.Ytlkplnioaiahhaa.V
