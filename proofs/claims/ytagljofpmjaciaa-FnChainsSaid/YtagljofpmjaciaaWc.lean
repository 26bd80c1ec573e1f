/- Chains, both sides. -/
import Derived.Test.YtagljofpmjaciaaWt
namespace Go.Proofs.Ytagljofpmjaciaa.V
open Go Go.RowKit
set_option maxRecDepth 100000
set_option maxHeartbeats 4000000
set_option linter.unusedSimpArgs false
set_option linter.unusedVariables false
set_option pp.deepTerms false
set_option pp.deepTerms.threshold 3

def chainOk (x : MChain) : Bool := decide (x.f_Key.length = 32) && decide (0 ≤ x.f_N ∧ x.f_N ≤ 1000)

theorem specChainOk_ok (w : World) (cs : List Value) (x : MChain) (h : kChain.rd w w.heap.size cs x) :
    ACalls Try.prog 59 #[.agg cs.toArray] w fun r w' => r = .bool (chainOk x) ∧ Below w.heap.size w w' := by
  obtain ⟨v0, rfl, h0, h1⟩ := kChain_open h
  obtain ⟨A, c, rfl, hc1, hc2, ha⟩ := sl_open h0
  have H := Sep.start w
  refine body_of follows Try.func59 rfl rfl _ rfl (by kernel_rfl) (vs ?_)
  refine x_bx H [_, _] fun g1 w1 H => vs ?_
  refine x_ld H sc22 ?_
  refine vs (ways ?_ ?_)
  · refine vh fun hl => ?_
    refine x_ld H sc3 ?_
    refine ve hl ?_
    refine x_callw (l1In_ok w1 _ _ _) ?_
    refine ve hl ?_
    have hl2 : x.f_Key.length = 32 := by omega
    exact ⟨by simp [chainOk, hl2], H.bel⟩
  · refine vh fun hl => ?_
    have hl2 : ¬ x.f_Key.length = 32 := by omega
    exact ⟨by simp [chainOk, hl2], H.bel⟩

theorem implChainOk_ok (w : World) (cs : List Value) (x : MChain) (h : kChain.rd w w.heap.size cs x) :
    ACalls Try.prog 58 #[.agg cs.toArray] w fun r w' => r = .bool (chainOk x) ∧ Below w.heap.size w w' := by
  obtain ⟨v0, rfl, h0, h1⟩ := kChain_open h
  obtain ⟨A, c, rfl, hc1, hc2, ha⟩ := sl_open h0
  have H := Sep.start w
  refine body_of follows Try.func58 rfl rfl _ rfl (by kernel_rfl) (vs ?_)
  refine x_bx H [_, _] fun g1 w1 H => vs ?_
  refine x_ld H sc22 ?_
  refine vs (ways ?_ ?_)
  · refine vh fun hl => ?_
    refine x_ld H sc3 ?_
    refine ve hl ?_
    refine x_callw (in_ok w1 _ _ _) ?_
    refine ve hl ?_
    have hl2 : x.f_Key.length = 32 := by omega
    exact ⟨by simp [chainOk, hl2], H.bel⟩
  · refine vh fun hl => ?_
    have hl2 : ¬ x.f_Key.length = 32 := by omega
    exact ⟨by simp [chainOk, hl2], H.bel⟩
end Go.Proofs.Ytagljofpmjaciaa.V
