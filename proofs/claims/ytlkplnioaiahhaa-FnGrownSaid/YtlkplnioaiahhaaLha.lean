/- The law of roots that grow, walked. -/
import Derived.Test.YtlkplnioaiahhaaWdg
import Derived.Test.YtlkplnioaiahhaaPm
import Derived.Test.YtlkplnioaiahhaaVx
import Derived.Test.YtlkplnioaiahhaaWsa
namespace Go.Proofs.Ytlkplnioaiahhaa.V
open Go Go.RowKit
set_option maxRecDepth 100000
set_option maxHeartbeats 8000000
set_option linter.unusedSimpArgs false
set_option linter.unusedVariables false
set_option pp.deepTerms false
set_option pp.deepTerms.threshold 3

theorem big_ok (w : World) (v : Value) (a : List UInt8) (h : (bytes 5).rd w w.heap.size [v] a) :
    ACalls Try.prog 13 #[v] w fun r w' => r = .bool (decide (1048576 < (a.length : Int))) ∧ w' = w := by
  obtain ⟨A, c, rfl, _⟩ := sl_open h
  exact body_of follows Try.func13 rfl rfl _ rfl (by kernel_rfl) (vs trivial)

theorem FnRootsGrow_ok (w : World) (v0 : Value) (x0 : List UInt8) (h0 : (bytes 5).rd w w.heap.size [v0] x0) :
    ACalls Try.prog 6 #[v0] w fun r w' => r = .bool true ∧ Below w.heap.size w w' := by
  refine body_of follows Try.func6 rfl rfl _ rfl (by kernel_rfl) (vs ?_)
  refine x_callw (big_ok w v0 x0 h0) ?_
  by_cases q0 : 1048576 < (x0.length : Int)
  · refine ve q0 ?_
    exact Below.refl ..
  refine ve q0 ?_
  refine x_call (drawRootOf_ok w v0 x0 h0) fun r1 w1 ⟨l, f1, hd, H⟩ => ?_
  obtain ⟨A, c, rfl, hc1, hc2, _⟩ := sl_open (H.own (.head _))
  have hfew := hd.few
  refine vs ?_
  by_cases q1 : (l.length : Int) < 2
  · refine ve q1 ?_
    refine x_callf H (implRootOf_ok w1 _ l (H.own (.head _)) hfew) fun r2 f2 w2 H => vs ?_
    refine x_callf H (specRootOf_ok w2 _ l (H.own (.tail _ (.head _))) hfew) fun r3 f3 w3 H => vs ?_
    refine x_callw (implSame_ok w3 _ _ (rootOf l) (rootOf l) (H.own (.tail _ (.head _))) (H.own (.head _))) (vs ?_)
    exact H.bel
  refine ve q1 ?_
  by_cases q2 : 40 < (l.length : Int)
  · refine ve q2 ?_
    refine x_callf H (implRootOf_ok w1 _ l (H.own (.head _)) hfew) fun r2 f2 w2 H => vs ?_
    refine x_callf H (specRootOf_ok w2 _ l (H.own (.tail _ (.head _))) hfew) fun r3 f3 w3 H => vs ?_
    refine x_callw (implSame_ok w3 _ _ (rootOf l) (rootOf l) (H.own (.tail _ (.head _))) (H.own (.head _))) (vs ?_)
    exact H.bel
  refine ve q2 ?_
  have h2 : 2 ≤ l.length := by omega
  have h40 : l.length ≤ 40 := by omega
  have hk := first_lt h2
  have hk0 := first_pos l.length
  refine loop_at (σ := Nat) (fun e => [(3, .slice A l.length c), (4, .int .i64 ((2 ^ e : Nat) : Int))]) (fun e w' => (e = 0 ∨ 2 ^ e < l.length) ∧ Sep w.heap.size w w' [Ck.own lists f1 [.slice A l.length c] l]) (fun e => l.length - 2 ^ e) 0 (vs ?_) ⟨.inl rfl, H⟩ ?_
  · rfl
  rintro e s w2 ⟨he, H⟩
  have hp : 2 ^ e ≤ 40 := by
    rcases he with he | he
    · subst he; decide
    · omega
  have hp0 : 0 < 2 ^ e := Nat.pow_pos (by omega)
  have e1 : w64 (2 * ((2 ^ e : Nat) : Int)) = ((2 ^ (e + 1) : Nat) : Int) := by rw [Nat.pow_succ]; unfold w64; omega
  refine ve e1 (ways ?_ ?_)
  · refine vh fun hlt => ?_
    have h2 : 2 ^ (e + 1) < l.length := by omega
    have h3 : 2 ^ e < 2 ^ (e + 1) := by rw [Nat.pow_succ]; omega
    exact ⟨e + 1, i64_eq e1, ⟨.inr h2, H⟩, by omega⟩
  · refine vh fun hlt => ?_
    have ek : 2 ^ e = first l.length := first_eq he (by rw [Nat.pow_succ] at hlt; omega)
    rw [ek]
    refine x_to (wr := w2) sl24 rfl (H.own (.head _)) (hi := 1) (by omega) fun v1 hv1 => ?_
    refine vs ?_
    refine x_callf H (implRootOf_ok w2 v1 (l.take 1) hv1 (hfew.take 1)) fun r3 f3 w3 H => vs ?_
    refine draw_at [(0, true), (2, true), (3, true), (4, true), (6, true), (7, true), (8, true), (1, false), (5, false), (9, false), (10, false), (11, false), (12, true), (13, true), (14, true), (15, true), (16, true), (17, false), (18, false), (19, true), (20, true), (21, false), (22, false), (23, false), (24, true), (25, true)] fun w4 hh hb4 => vs ?_
    have H := H.go (hb4 _)
    have J := Sep.start w4
    have hl4 := H.own (.tail _ (.head _))
    obtain ⟨A', c', e', _, _, ha⟩ := sl_open hl4
    simp only [List.cons.injEq, Value.slice.injEq, and_true] at e'
    obtain ⟨rfl, _, rfl⟩ := e'
    refine q_to (wr := w4) sl24 rfl hl4 (hi := first l.length) (by omega) fun v5 hv5 => vs ?_
    refine q_from (wr := w4) sl24 rfl hl4 (lo := first l.length) (by omega) fun v6 hv6 => vs ?_
    refine x_callf J (implRootOf_ok w4 _ l hl4 hfew) fun r7 f7 w7 J => vs ?_
    refine ⟨kept_base (Sep.start w4) J, ?_⟩
    refine x_callf J (implRootOf_ok w7 v5 (l.take (first l.length)) (J.rd hv5) (hfew.take _)) fun r8 f8 w8 J => vs ?_
    refine ⟨kept_base (Sep.start w4) J, ?_⟩
    refine x_callf J (implRootOf_ok w8 v6 (l.drop (first l.length)) (J.rd hv6) (hfew.drop _)) fun r9 f9 w9 J => vs ?_
    refine ⟨kept_base (Sep.start w4) J, ?_⟩
    refine x_callf J (implNodeOf_ok w9 r8 _ r9 _ (J.own (.tail _ (.head _))) (J.own (.head _)) (by have := rootOf_len (l.take (first l.length)); have := rootOf_len (l.drop (first l.length)); omega)) fun r10 f10 w10 J => vs ?_
    refine ⟨kept_base (Sep.start w4) J, ?_⟩
    rw [← rootOf_more h2 h40] at J
    refine x_callw (implSame_ok w10 _ _ (rootOf l) (rootOf l) (J.own (.tail _ (.tail _ (.tail _ (.head _))))) (J.own (.head _))) ?_
    refine vs ?_
    refine ⟨kept_base (Sep.start w4) J, ?_⟩
    refine q_ele (Sep.start w4) sl24 rfl 0 (by omega) ha rfl fun ad es hb hr hc => vs ?_
    obtain ⟨u, rfl⟩ := sl_one hr
    refine q_ld1 sc22 hc rfl hb ?_
    refine vs ?_
    refine x_callf J (implLeafOf_ok w10 u _ (J.rd hr) (hfew _ (List.getElem_mem _))) fun r11 f11 w11 J => vs ?_
    refine ⟨kept_base (Sep.start w4) J, ?_⟩
    have e11 : rootOf (l.take 1) = leafOf (l[0]'(by omega)) := by
      rw [rootOf_one (by rw [List.length_take]; omega), getD_takeL (by omega), getD0 (by omega)]
    have h3 := H.own (.head _)
    rw [e11] at h3
    refine x_callw (implSame_ok w11 _ _ (leafOf (l[0]'(by omega))) (leafOf (l[0]'(by omega))) (J.rd h3) (J.own (.head _))) ?_
    refine vs ?_
    refine ⟨kept_base (Sep.start w4) J, ?_⟩
    refine x_callf J (implRootOf_ok w11 _ [] (Kd.own_rd _ (sl_zero w11) (by simp)) (fun a ha => by cases ha)) fun r12 f12 w12 J => vs ?_
    refine ⟨kept_base (Sep.start w4) J, ?_⟩
    refine x_callf J (implHash_ok w12 _ [] (rd_nil w12 _)) fun r13 f13 w13 J => vs ?_
    refine ⟨kept_base (Sep.start w4) J, ?_⟩
    have e13 : rootOf [] = hash [] := by rw [rootOf]; simp
    rw [e13] at J
    refine x_callw (implSame_ok w13 _ _ (hash []) (hash []) (J.own (.tail _ (.head _))) (J.own (.head _))) ?_
    refine vs ?_
    refine ⟨kept_base (Sep.start w4) J, ?_⟩
    exact (H.join J).bel
end Go.Proofs.Ytlkplnioaiahhaa.V
