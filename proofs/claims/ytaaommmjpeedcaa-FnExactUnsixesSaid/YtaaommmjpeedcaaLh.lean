/- The law FnExactUnsixes, walked. Laid by a program. -/
import Derived.Test.YtaaommmjpeedcaaWu
import Derived.Test.YtaaommmjpeedcaaWm
import Derived.Test.YtaaommmjpeedcaaWx
import Derived.Test.YtaaommmjpeedcaaWt
namespace Go.Proofs.Ytaaommmjpeedcaa.V
open Go Go.RowKit
set_option maxRecDepth 100000
set_option maxHeartbeats 8000000
set_option linter.unusedSimpArgs false
set_option linter.unusedVariables false
set_option pp.deepTerms false
set_option pp.deepTerms.threshold 3
theorem FnExactUnsixes_ok (w : World) (v0 : Value) (x0 : (List UInt8)) (h0 : (Kd.str).rd w w.heap.size [v0] x0) :
    ACalls Try.prog 7 #[v0] w fun r w' => r = .bool true ∧ Below w.heap.size w w' := by
  have hr0 := h0.2
  obtain rfl := (List.cons.inj h0.1).1
  have H := Sep.start w
  refine body_of follows Try.func7 rfl rfl _ rfl (by kernel_rfl) (vs ?_)
  refine ways ?_ ?_
  · refine vh fun _ => ?_
    exact H.bel
  refine vh fun hs0 => ?_
  refine x_call (specUnsixes_ok w x0  (by omega)) fun _ w1 ⟨v2_0, f2_0, e2, S⟩ => ?_
  subst e2
  have H := H.join S
  simp only [List.cons_append, List.nil_append] at H
  refine vs ?_
  refine x_call (implUnsixes_ok w1 x0  (by omega)) fun _ w2 ⟨v4_0, f4_0, e4, S⟩ => ?_
  subst e4
  have H := H.join S
  simp only [List.cons_append, List.nil_append] at H
  refine vs ?_
  refine x_callb H (eqByteS_ok w2 _ _ _ _ (H.own (.head _)) (H.own (.tail _ (.head _)))) fun w3 H => vs ?_
  have hg0 : (unOut x0).length ≤ 1152921504606846976 := (by have := unOut_len x0; omega)
  have H := H.front (h := .here)
  refine x_call (markByteS_ok H (1) (by omega)) fun _ w4 ⟨e, fm5, H⟩ => ?_
  subst e
  refine vs ?_
  refine x_callw (heldByteS_ok w4 _ (unOut x0) (1) (H.own (.head _)) (by omega)) ?_
  have nn6 : ¬ ((1 + (unOut x0).length : Nat) : Int) < 0 := by omega
  refine ve nn6 ?_
  refine x_call (implUnsixes_ok w4 x0  (by omega)) fun _ w5 ⟨v8_0, f8_0, e8, S⟩ => ?_
  subst e8
  have H := H.join S
  simp only [List.cons_append, List.nil_append] at H
  refine vs ?_
  refine x_callb H (eqByteS_ok w5 _ _ _ _ (H.own (.head _)) (H.own (.tail _ (.tail _ (.head _))))) fun w6 H => vs ?_
  refine x_callw (heldByteS_ok w6 _ (unOut x0) (1) (H.own (.tail _ (.head _))) (by omega)) ?_
  have nn9 : ¬ ((1 + (unOut x0).length : Nat) : Int) < 0 := by omega
  refine ve nn9 ?_
  exact H.bel
end Go.Proofs.Ytaaommmjpeedcaa.V
