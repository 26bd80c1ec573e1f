/- The law of signs and draws, walked. -/
import Derived.Test.YtagljofpmjaciaaWdb
import Derived.Test.YtagljofpmjaciaaPv
import Derived.Test.YtagljofpmjaciaaWsa
namespace Go.Proofs.Ytagljofpmjaciaa.V
open Go Go.RowKit
set_option maxRecDepth 100000
set_option maxHeartbeats 8000000
set_option linter.unusedSimpArgs false
set_option linter.unusedVariables false
set_option pp.deepTerms false
set_option pp.deepTerms.threshold 3

theorem big_ok (w : World) (v : Value) (a : List UInt8) (h : (bytes 5).rd w w.heap.size [v] a) :
    ACalls Try.prog 12 #[v] w fun r w' => r = .bool (decide (1048576 < (a.length : Int))) ∧ w' = w := by
  obtain ⟨A, c, rfl, _⟩ := sl_open h
  exact body_of follows Try.func12 rfl rfl _ rfl (by kernel_rfl) (vs trivial)

theorem FnSixes_ok (w : World) (v0 : Value) (x0 : List UInt8) (h0 : (bytes 5).rd w w.heap.size [v0] x0) :
    ACalls Try.prog 3 #[v0] w fun r w' => r = .bool true ∧ Below w.heap.size w w' := by
  have H := Sep.start w
  refine body_of follows Try.func3 rfl rfl _ rfl (by kernel_rfl) (vs ?_)
  refine x_callw (big_ok w v0 x0 h0) ?_
  by_cases q0 : 1048576 < (x0.length : Int)
  · refine ve q0 ?_
    exact H.bel
  refine ve q0 ?_
  refine x_call (drawSixes_ok w v0 x0 h0) fun r1 w1 ⟨b, f1, hb, H⟩ => vs ?_
  refine x_callb H (implSixes_ok w1 _ b (H.own (.head _)) (by omega)) fun w2 H => vs ?_
  refine x_call (drawUnsixes_ok w2 v0 x0 (H.rd h0)) fun _ w3 ⟨t, e, ht, hb3⟩ => ?_
  subst e
  have H := H.go hb3
  refine vs ?_
  refine x_call (implUnsixes_ok w3 t (by omega)) fun _ w4 ⟨v4, f4, e, S⟩ => ?_
  subst e
  have H := H.join S
  simp only [List.cons_append, List.nil_append] at H
  refine vs ?_
  refine x_call (specUnsixes_ok w4 t (by omega)) fun _ w5 ⟨v5, f5, e, S⟩ => ?_
  subst e
  have H := H.join S
  simp only [List.cons_append, List.nil_append] at H
  refine vs ?_
  refine x_call (drawSixesLen_ok w5 v0 x0 (H.rd h0)) fun _ w6 ⟨m, e, hm, hb6⟩ => ?_
  subst e
  have H := H.go hb6
  refine vs ?_
  refine x_callb H (specSixes_ok w6 _ b (H.own (.tail _ (.tail _ (.head _)))) (by omega)) fun w7 H => vs ?_
  have hl := unOut_len t
  obtain ⟨u1, u2⟩ := un_sixes b
  have hs6 : ((sixes b).length : Int) = sixesLen (b.length : Int) := by
    unfold sixesLen
    rw [if_pos (by omega), sixes_six]
    omega
  refine x_callw (implSame_ok w7 _ _ (unOut t) (unOut t) (H.own (.tail _ (.head _))) (H.own (.head _))) (vs ?_)
  refine x_callw (implSixesLen_ok w7 m) (vs ?_)
  refine x_callw (specSixesLen_ok w7 m) ?_
  cases hu : unOk t with
  | true =>
    refine vs ?_
    refine x_callb H (implSixes_ok w7 _ (unOut t) (H.own (.tail _ (.head _))) (by omega)) fun w8 H => ?_
    refine ve (un_six hu) ?_
    refine x_call (implUnsixes_ok w8 (sixes b) (by have := sixes_len b; omega)) fun _ w9 ⟨v9, f9, e, S⟩ => ?_
    subst e
    rw [u1]
    rw [u2] at S
    have H := H.join S
    simp only [List.cons_append, List.nil_append] at H
    refine vs ?_
    refine x_callw (implSame_ok w9 _ _ b b (H.own (.head _)) (H.own (.tail _ (.tail _ (.tail _ (.head _)))))) (vs ?_)
    obtain ⟨A1, c1, rfl, _⟩ := sl_open (H.own (.tail _ (.tail _ (.tail _ (.head _)))))
    refine vs ?_
    refine x_callw (implSixesLen_ok w9 (b.length : Int)) (ve hs6 ?_)
    exact H.bel
  | false =>
    refine vs ?_
    refine x_call (implUnsixes_ok w7 (sixes b) (by have := sixes_len b; omega)) fun _ w9 ⟨v9, f9, e, S⟩ => ?_
    subst e
    rw [u1]
    rw [u2] at S
    have H := H.join S
    simp only [List.cons_append, List.nil_append] at H
    refine vs ?_
    refine x_callw (implSame_ok w9 _ _ b b (H.own (.head _)) (H.own (.tail _ (.tail _ (.tail _ (.head _)))))) (vs ?_)
    obtain ⟨A1, c1, rfl, _⟩ := sl_open (H.own (.tail _ (.tail _ (.tail _ (.head _)))))
    refine vs ?_
    refine x_callw (implSixesLen_ok w9 (b.length : Int)) (ve hs6 ?_)
    exact H.bel
end Go.Proofs.Ytagljofpmjaciaa.V
