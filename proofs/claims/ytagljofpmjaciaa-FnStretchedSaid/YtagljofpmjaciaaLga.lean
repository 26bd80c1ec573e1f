/- The law of stretched keys and draws, walked. -/
import Derived.Test.YtagljofpmjaciaaWdc
import Derived.Test.YtagljofpmjaciaaWmd
import Derived.Test.YtagljofpmjaciaaLfa
namespace Go.Proofs.Ytagljofpmjaciaa.V
open Go Go.RowKit
set_option maxRecDepth 100000
set_option maxHeartbeats 8000000
set_option linter.unusedSimpArgs false
set_option linter.unusedVariables false
set_option pp.deepTerms false
set_option pp.deepTerms.threshold 3

theorem FnStretched_ok (w : World) (v0 : Value) (x0 : List UInt8) (h0 : (bytes 5).rd w w.heap.size [v0] x0) :
    ACalls Try.prog 7 #[v0] w fun r w' => r = .bool true ∧ Below w.heap.size w w' := by
  refine body_of follows Try.func7 rfl rfl _ rfl (by kernel_rfl) (vs ?_)
  refine x_callw (big_ok w v0 x0 h0) ?_
  by_cases q0 : 1048576 < (x0.length : Int)
  · refine ve q0 ?_
    exact Below.refl ..
  refine ve q0 ?_
  refine x_call (drawStretch_ok w v0 x0 h0) fun _ w1 ⟨u1, u2, b1, b2, f1, f2, x, y, e, ⟨hb1, hb2⟩, hx, hy, H⟩ => ?_
  subst e
  refine vs ?_
  refine x_callf H (implStretch_ok w1 u1 b1 u2 b2 x y (H.own (.tail _ (.head _))) (H.own (.head _))) fun r2 f3 w2 H => vs ?_
  refine x_callf H (specStretch_ok w2 u1 b1 u2 b2 x y (H.own (.tail _ (.tail _ (.head _)))) (H.own (.tail _ (.head _)))) fun r3 f4 w3 H => vs ?_
  refine x_callw (implSame_ok w3 _ _ (stretch b1 b2 x y) (stretch b1 b2 x y) (H.own (.tail _ (.head _))) (H.own (.head _))) (vs ?_)
  obtain ⟨A2, c2, rfl, _⟩ := sl_open (H.own (.tail _ (.head _)))
  obtain ⟨B1, d1, rfl, _⟩ := sl_open (H.own (.tail _ (.tail _ (.tail _ (.head _)))))
  obtain ⟨B2, d2, rfl, _⟩ := sl_open (H.own (.tail _ (.tail _ (.head _))))
  by_cases q : (1 ≤ x ∧ x ≤ 50) ∧ (1 ≤ y ∧ y ≤ 96) ∧ b1.length ≤ 400 ∧ b2.length ≤ 400
  · obtain ⟨e1, e2, e3, e4⟩ := stretch_in q
    obtain ⟨q1, q2, q3, q4⟩ := q
    refine ve (show ¬ (((stretch b1 b2 x y).length : Int) = 0) by omega) ?_
    refine x_callf H (implStretch_ok w3 _ b1 _ b2 1 32 (H.own (.tail _ (.tail _ (.tail _ (.head _))))) (H.own (.tail _ (.tail _ (.head _))))) fun r5 f5 w5 H => vs ?_
    refine x_emp H pl_u8 sl22 fun g6 w6 H => vs ?_
    refine x_app (l := []) H pl_u8 sl22 (H.own (.tail _ (.tail _ (.tail _ (.tail _ (.head _)))))) ?_ ?_ fun f7 v7 w7 H => vs ?_
    · simp only [List.length_nil]; omega
    · simp only [List.length_nil]; omega
    rw [List.nil_append] at H
    refine x_lst H pl_u8 sl22 [0, 0, 0, 1] (by simp) fun g8 w8 H => vs ?_
    refine x_app H pl_u8 sl22 (H.own (.head _)) ?_ ?_ fun f9 v9 w9 H => vs ?_
    · simp only [List.length_cons, List.length_nil]; omega
    · simp only [List.length_cons, List.length_nil]; omega
    refine x_callf H (implMac_ok w9 _ b1 _ (b2 ++ [0, 0, 0, 1]) (H.own (.tail _ (.tail _ (.tail _ (.tail _ (.tail _ (.tail _ (.head _)))))))) (H.own (.tail _ (.head _)))) fun r10 f10 w10 H => vs ?_
    refine x_callf H (implStretch_ok w10 _ b1 _ b2 2 32 (H.own (.tail _ (.tail _ (.tail _ (.tail _ (.tail _ (.tail _ (.tail _ (.head _))))))))) (H.own (.tail _ (.tail _ (.tail _ (.tail _ (.tail _ (.tail _ (.head _))))))))) fun r11 f11 w11 H => vs ?_
    refine draw_at [(0, true), (1, true), (2, true), (3, true), (4, true), (5, true), (6, true), (7, true), (9, true), (10, true), (8, false), (11, false), (12, true), (13, true), (14, true), (15, true), (16, false), (17, true), (18, true), (19, true), (20, true), (21, true), (22, true), (23, false), (24, false), (25, false), (26, true), (27, true)] fun w12 hh hb12 => vs ?_
    have H := H.go (hb12 _)
    have J := Sep.start w12
    refine ve e1 ?_
    refine q_to (wr := w12) sl22 rfl (H.own (.tail _ (.tail _ (.tail _ (.tail _ (.tail _ (.tail _ (.head _)))))))) (hi := 1) (by omega) fun v1 hv1 => ?_
    refine vs ?_
    refine x_callf J (implStretch_ok w12 _ b1 _ b2 x 1 (H.own (.tail _ (.tail _ (.tail _ (.tail _ (.tail _ (.tail _ (.tail _ (.tail _ (.head _)))))))))) (H.own (.tail _ (.tail _ (.tail _ (.tail _ (.tail _ (.tail _ (.tail _ (.head _)))))))))) fun r13 f13 w13 J => ?_
    rw [e2] at J
    refine vs ?_
    refine ⟨kept_base (Sep.start w12) J, ?_⟩
    refine x_callw (implSame_ok w13 _ _ ((stretch b1 b2 x y).take 1) ((stretch b1 b2 x y).take 1) (J.own (.head _)) (J.rd hv1)) ?_
    refine vs ?_
    refine ⟨kept_base (Sep.start w12) J, ?_⟩
    have H1 := H.own (.tail _ (.tail _ (.tail _ (.tail _ (.head _)))))
    have H2 := H.own (.tail _ (.head _))
    have H3 := H.own (.head _)
    rw [e3] at H1
    rw [e4] at H3
    refine x_callw (implSame_ok w13 _ _ (mac b1 (b2 ++ [0, 0, 0, 1])) (mac b1 (b2 ++ [0, 0, 0, 1])) (J.rd H1) (J.rd H2)) ?_
    refine vs ?_
    refine ⟨kept_base (Sep.start w12) J, ?_⟩
    refine x_callf J (implMac_ok w13 _ b1 _ (mac b1 (b2 ++ [0, 0, 0, 1])) (J.rd (H.own (.tail _ (.tail _ (.tail _ (.tail _ (.tail _ (.tail _ (.tail _ (.tail _ (.head _))))))))))) (J.rd H2)) fun r14 f14 w14 J => vs ?_
    refine ⟨kept_base (Sep.start w12) J, ?_⟩
    refine x_callf J (implXor_ok w14 _ (mac b1 (b2 ++ [0, 0, 0, 1])) _ (mac b1 (mac b1 (b2 ++ [0, 0, 0, 1]))) (J.rd H2) (J.own (.head _)) (by have := mac_len b1 (b2 ++ [0, 0, 0, 1]); omega)) fun r15 f15 w15 J => vs ?_
    refine ⟨kept_base (Sep.start w12) J, ?_⟩
    refine x_callw (implSame_ok w15 _ _ _ _ (J.rd H3) (J.own (.head _))) ?_
    refine vs ?_
    refine ⟨kept_base (Sep.start w12) J, ?_⟩
    exact (H.join J).bel
  · have e := stretch_out q
    rw [e]
    refine ve (show ((([] : List UInt8).length : Int) = 0) from rfl) ?_
    by_cases a0 : x < 1
    · refine ve a0 ?_
      exact H.bel
    refine ve a0 ?_
    by_cases a1 : 50 < x
    · refine ve a1 ?_
      exact H.bel
    refine ve a1 ?_
    by_cases a2 : y < 1
    · refine ve a2 ?_
      exact H.bel
    refine ve a2 ?_
    by_cases a3 : 96 < y
    · refine ve a3 ?_
      exact H.bel
    refine ve a3 ?_
    by_cases a4 : 400 < (b1.length : Int)
    · refine ve a4 ?_
      exact H.bel
    refine ve a4 ?_
    refine ve (show 400 < (b2.length : Int) by omega) ?_
    exact H.bel
end Go.Proofs.Ytagljofpmjaciaa.V
