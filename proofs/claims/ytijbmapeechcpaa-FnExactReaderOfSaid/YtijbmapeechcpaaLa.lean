/- The law FnExactReaderOf, walked. Laid by a program. -/
import Derived.Test.YtijbmapeechcpaaWrp
import Derived.Test.YtijbmapeechcpaaWx
namespace Go.Proofs.Ytijbmapeechcpaa.V
open Go Go.RowKit
set_option maxRecDepth 100000
set_option maxHeartbeats 8000000
set_option linter.unusedSimpArgs false
set_option linter.unusedVariables false
set_option pp.deepTerms false
set_option pp.deepTerms.threshold 3
theorem FnExactReaderOf_ok (w : World) (v0 : Value) (x0 : (List UInt8)) (h0 : ((Kd.slice 5 Kd.u8)).rd w w.heap.size [v0] x0) :
    ACalls Try.prog 3 #[v0] w fun r w' => r = .bool true ∧ Below w.heap.size w w' := by
  have hv0 := h0
  have hlm0 := sl_len h0
  obtain ⟨A0, k0, rfl, _, _, _⟩ := sl_open h0
  have H := Sep.start w
  refine body_of follows Try.func3 rfl rfl _ rfl (by kernel_rfl) (vs ?_)
  refine ways ?_ ?_
  · refine vh fun _ => ?_
    exact H.bel
  refine vh fun hs0 => ?_
  refine x_callf H (toByteS_ok w _ _ (H.rd h0) (by omega)) fun r1 f1 w1 H => vs ?_
  refine x_call (specReaderOf_ok w1 _ x0 (H.own (.head _)) (by omega)) fun _ w2 ⟨v2_0, f2_0, e2, S⟩ => ?_
  subst e2
  have H := H.join S
  simp only [List.cons_append, List.nil_append] at H
  obtain ⟨t2_0_0, t2_0_2, t2_0_3, rfl, _⟩ := kReader_open (H.own (.head _))
  refine vs ?_
  refine x_al H st25 fun b2_0 w3 H => vs ?_
  refine x_sta H st25 (h1 := Kd.one _ (H.own (.tail _ (.head _)))) fun w4 H => vs ?_
  refine x_callf H (toByteS_ok w4 _ _ (H.rd h0) (by omega)) fun r3 f3 w5 H => vs ?_
  refine x_call (implReaderOf_ok w5 _ x0 (H.own (.head _)) (by omega)) fun _ w6 ⟨v4_0, f4_0, e4, S⟩ => ?_
  subst e4
  have H := H.join S
  simp only [List.cons_append, List.nil_append] at H
  obtain ⟨t4_0_0, t4_0_2, t4_0_3, rfl, _⟩ := kReader_open (H.own (.head _))
  refine vs ?_
  refine x_al H st25 fun b4_0 w7 H => vs ?_
  refine x_sta H st25 (h1 := Kd.one _ (H.own (.tail _ (.head _)))) fun w8 H => vs ?_
  refine x_lda H st25 ?_
  refine vs ?_
  refine x_lda H st25 ?_
  refine vs ?_
  refine x_callb H (eqReader_ok w8 _ _ _ (H.own (.tail _ (.head _))) (H.own (.tail _ (.tail _ (.tail _ (.tail _ (.head _))))))) fun w9 H => vs ?_
  refine x_callf H (toByteS_ok w9 _ _ (H.rd h0) (by omega)) fun r5 f5 w10 H => vs ?_
  refine x_callb H (eqByteS_ok w10 _ _ _ _ (H.own (.tail _ (.tail _ (.tail _ (.head _))))) (H.own (.head _))) fun w11 H => vs ?_
  have ht0 : (x0).length ≤ 1099511627776 := by omega
  have H := H.front (h := (.there (.there (.there .here))))
  refine x_call (markByteS_ok H (1) (by omega)) fun _ w12 ⟨e, fm6, H⟩ => ?_
  subst e
  have nk : ¬ ((1 + (x0).length : Nat) : Int) < 0 := by omega
  refine ve nk ?_
  refine x_lda H st25 ?_
  refine vs ?_
  refine x_lda H st25 ?_
  refine vs ?_
  refine x_callb H (eqReader_ok w12 _ _ _ (H.own (.tail _ (.tail _ (.tail _ (.head _))))) (H.own (.tail _ (.tail _ (.tail _ (.tail _ (.tail _ (.head _)))))))) fun w13 H => vs ?_
  have hg0 : (totReader ((readerOf x0).1)) ≤ 1152921504606846976 := (by have := readerOf_tot x0; omega)
  refine x_lda H st25 ?_
  refine vs ?_
  have H := H.front (h := (.there (.there (.there .here))))
  refine x_call (markReader_ok H (1) (by omega)) fun _ w14 ⟨e, fm7, H⟩ => ?_
  subst e
  refine vs ?_
  refine x_lda H st25 ?_
  refine vs ?_
  refine x_callb H (heldReader_ok w14 _ ((readerOf x0).1) (1) (H.own (.head _)) (by omega)) fun w15 H => ?_
  have nn8 : ¬ ((1 + (totReader ((readerOf x0).1)) : Nat) : Int) < 0 := by omega
  refine ve nn8 ?_
  refine x_callf H (toByteS_ok w15 _ _ (H.rd h0) (by omega)) fun r9 f9 w16 H => vs ?_
  refine x_call (implReaderOf_ok w16 _ x0 (H.own (.head _)) (by omega)) fun _ w17 ⟨v10_0, f10_0, e10, S⟩ => ?_
  subst e10
  have H := H.join S
  simp only [List.cons_append, List.nil_append] at H
  obtain ⟨t10_0_0, t10_0_2, t10_0_3, rfl, _⟩ := kReader_open (H.own (.head _))
  refine vs ?_
  refine x_al H st25 fun b10_0 w18 H => vs ?_
  refine x_sta H st25 (h1 := Kd.one _ (H.own (.tail _ (.head _)))) fun w19 H => vs ?_
  refine x_lda H st25 ?_
  refine vs ?_
  refine x_lda H st25 ?_
  refine vs ?_
  refine x_callb H (eqReader_ok w19 _ _ _ (H.own (.tail _ (.head _))) (H.own (.tail _ (.tail _ (.tail _ (.tail _ (.tail _ (.tail _ (.tail _ (.tail _ (.head _))))))))))) fun w20 H => vs ?_
  refine x_lda H st25 ?_
  refine vs ?_
  refine x_callb H (heldReader_ok w20 _ ((readerOf x0).1) (1) (H.own (.tail _ (.tail _ (.tail _ (.head _))))) (by omega)) fun w21 H => ?_
  have nn11 : ¬ ((1 + (totReader ((readerOf x0).1)) : Nat) : Int) < 0 := by omega
  refine ve nn11 ?_
  exact H.bel
end Go.Proofs.Ytijbmapeechcpaa.V
