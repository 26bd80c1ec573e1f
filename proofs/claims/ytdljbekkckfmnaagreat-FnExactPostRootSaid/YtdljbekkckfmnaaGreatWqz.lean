/- What a post answers of its book: both sides. Laid by a program. -/
import Derived.Test.YtdljbekkckfmnaaGreatWqs
import Derived.Test.YtdljbekkckfmnaaGreatZ1
namespace Go.Proofs.YtdljbekkckfmnaaGreat.V
open Go Go.RowKit
set_option maxRecDepth 100000
set_option maxHeartbeats 4000000
set_option linter.unusedSimpArgs false
set_option linter.unusedVariables false
set_option pp.deepTerms false
set_option pp.deepTerms.threshold 3

theorem linesOf_few (b : List UInt8) : Few (linesOf b) := by
  have := linesGo_len 40 b
  exact fun a ha => by have := this.2 a ha; omega
theorem linesOf_40 (b : List UInt8) : (linesOf b).length ≤ 40 := (linesGo_len 40 b).1
noncomputable def postRoot (p : MPost) : List UInt8 := if postOk p = true then rootOf (linesOf p.f_Book) else []
theorem postRoot_bad {p : MPost} (h : postOk p = false) : postRoot p = [] := by unfold postRoot; rw [if_neg (by rw [h]; decide)]
theorem postRoot_ok {p : MPost} (h : postOk p = true) : postRoot p = rootOf (linesOf p.f_Book) := by unfold postRoot; rw [if_pos h]
noncomputable def postProof (p : MPost) (i : Int) : List (List UInt8) × List UInt8 × Bool := if postOk p = true ∧ (0 ≤ i ∧ i ≤ ((linesOf p.f_Book).length : Int) - 1) then (pathOf (linesOf p.f_Book) i, (linesOf p.f_Book).getD i.toNat [], true) else ([], [], false)
theorem postProof_bad {p : MPost} {i : Int} (h : ¬ (postOk p = true ∧ (0 ≤ i ∧ i ≤ ((linesOf p.f_Book).length : Int) - 1))) : postProof p i = ([], [], false) := by unfold postProof; rw [if_neg h]
theorem postProof_ok {p : MPost} {i : Int} (h : postOk p = true) (h2 : 0 ≤ i ∧ i ≤ ((linesOf p.f_Book).length : Int) - 1) : postProof p i = (pathOf (linesOf p.f_Book) i, (linesOf p.f_Book).getD i.toNat [], true) := by unfold postProof; rw [if_pos ⟨h, h2⟩]
theorem implPostRoot_ok (w : World) (cs : List Value) (p : MPost) (h : kPost.rd w w.heap.size cs p) (hs : smPost p) :
    ACalls Tryz.prog 11 #[.agg cs.toArray] w fun r w' => ∃ fp, Sep w.heap.size w w' [Ck.own (bytes 5) fp [r] (postRoot p)] := by
  have hs' := hs
  unfold smPost at hs'
  have h9 := h
  obtain ⟨v0, v2, rfl, h0, h1, h2, h3⟩ := kPost_open h
  obtain ⟨A2, c2, rfl, _⟩ := sl_open h2
  have H := Sep.start w
  refine body_of follows Tryz.func11 rfl rfl _ rfl (by kernel_rfl) (vs ?_)
  refine x_bx H [v0, .int .i64 p.f_Time, .slice A2 p.f_Book.length c2, .int .i64 p.f_Sure] fun g1 w1 H => vs ?_
  refine x_lda H st26 ?_
  refine vs ?_
  refine x_callb H (implPostOk_ok _ _ p (H.rd h9) hs) fun w2 H => ?_
  cases hok : postOk p with
  | false =>
    have et := postRoot_bad hok
    refine vs ?_
    rw [et]
    exact ⟨_, (H.nothing (sl_zero w2)).head⟩
  | true =>
    have et := postRoot_ok hok
    refine vs ?_
    refine x_ld H sc22 ?_
    refine vs ?_
    refine x_callf H (implLinesOf_ok w2 _ p.f_Book (H.rd h2) hs'.2) fun r3 f3 w3 H => vs ?_
    refine x_callf H (implRootOf_ok w3 _ _ (H.own (.head _)) (linesOf_few _)) fun r4 f4 w4 H => vs ?_
    rw [et]
    exact ⟨_, H.head⟩
theorem specPostRoot_ok (w : World) (cs : List Value) (p : MPost) (h : kPost.rd w w.heap.size cs p) (hs : smPost p) :
    ACalls Tryz.prog 13 #[.agg cs.toArray] w fun r w' => ∃ fp, Sep w.heap.size w w' [Ck.own (bytes 5) fp [r] (postRoot p)] := by
  have hs' := hs
  unfold smPost at hs'
  have h9 := h
  obtain ⟨v0, v2, rfl, h0, h1, h2, h3⟩ := kPost_open h
  obtain ⟨A2, c2, rfl, _⟩ := sl_open h2
  have H := Sep.start w
  refine body_of follows Tryz.func13 rfl rfl _ rfl (by kernel_rfl) (vs ?_)
  refine x_bx H [v0, .int .i64 p.f_Time, .slice A2 p.f_Book.length c2, .int .i64 p.f_Sure] fun g1 w1 H => vs ?_
  refine x_lda H st26 ?_
  refine vs ?_
  refine x_callb H (specPostOk_ok _ _ p (H.rd h9) hs) fun w2 H => ?_
  cases hok : postOk p with
  | false =>
    have et := postRoot_bad hok
    refine vs ?_
    refine x_emp H pl_u8 sl22 fun gb wb H => vs ?_
    rw [et]
    exact ⟨_, H.head⟩
  | true =>
    have et := postRoot_ok hok
    refine vs ?_
    refine x_ld H sc22 ?_
    refine vs ?_
    refine x_callf H (specLinesOf_ok w2 _ p.f_Book (H.rd h2) hs'.2) fun r3 f3 w3 H => vs ?_
    refine x_callf H (specRootOf_ok w3 _ _ (H.own (.head _)) (linesOf_few _)) fun r4 f4 w4 H => vs ?_
    rw [et]
    exact ⟨_, H.head⟩
end Go.Proofs.YtdljbekkckfmnaaGreat.V
