/- Lists of bytes looked through. -/
import Derived.Test.YtfhbglaigjekpaaGreatWt
import Derived.Test.YtfhbglaigjekpaaGreatWsa
namespace Go.Proofs.YtfhbglaigjekpaaGreat.V
open Go Go.RowKit
set_option maxRecDepth 100000
set_option maxHeartbeats 4000000
set_option linter.unusedSimpArgs false
set_option linter.unusedVariables false
set_option pp.deepTerms false
set_option pp.deepTerms.threshold 3

/-- The first of a list with a property, told by a closure. -/
theorem indexFuncB_ok (w : World) (v : Value) (l : List (List UInt8)) (p : List UInt8 → Bool) (f : FuncId) (fs cs : Array Value) (h : (Kd.slice 22 (bytes 5)).rd w w.heap.size [v] l) (hf : entersB Tryz.prog f = true)
    (hc : ∀ w' u x, Below w.heap.size w w' → (bytes 5).rd w' w'.heap.size [u] x → ACalls Tryz.prog f (fs ++ #[u] ++ cs) w' fun r w'' => r = .bool (p x) ∧ Below w'.heap.size w' w'') :
    ACalls Tryz.prog 206 #[v, .func (.func f) fs cs] w fun r w' => ((∃ k : Nat, r = .int .i64 k ∧ l.any p = true) ∨ (r = .int .i64 (-1) ∧ l.any p = false)) ∧ Below w.heap.size w w' := by
  have hlm := sl_len h
  obtain ⟨A, c, rfl, hc1, hc2, ha⟩ := sl_open h
  refine body_of follows Tryz.func206 rfl rfl _ rfl (by kernel_rfl) (vs ?_)
  refine loop_at (σ := Nat) (fun k => [(0, .slice A l.length c), (1, .func (.func f) fs cs), (7, .int .i64 (l.length : Int)), (8, .int .i64 (k : Int))])
    (fun k w' => k ≤ l.length ∧ (∀ i (hi : i < l.length), i < k → p l[i] = false) ∧ Sep w.heap.size w w' []) (fun k => l.length - k) 0 (vs trivial) ⟨Nat.zero_le _, fun i hi h => absurd h (Nat.not_lt_zero i), Sep.start w⟩ ?_
  rintro k s w2 ⟨hk, hall, H⟩
  refine vs (ways ?_ ?_)
  · refine vh fun hlt => ?_
    have hk2 : k < l.length := by omega
    refine x_elg sl26 rfl (ha.mono H.bel) (by omega) hlt fun ad es hb hr hc' => vs ?_
    obtain ⟨u, rfl⟩ := sl_one hr
    refine x_ld1 sc22 hc' rfl (vs ?_)
    refine x_callv hf (hc w2 u _ H.bel (Kd.le _ hr H.ns)) fun _ w3 ⟨e3, hb3⟩ => ?_
    subst e3
    have H := H.go hb3
    refine vs (ways ?_ ?_)
    · refine vh fun hp => ?_
      exact ⟨.inl ⟨k, rfl, List.any_eq_true.2 ⟨_, List.getElem_mem _, hp⟩⟩, H.bel⟩
    · refine vh fun hp => ?_
      refine ⟨k + 1, i64_eq (by unfold w64; omega), ⟨hk2, fun i hi h => ?_, H⟩, by omega⟩
      by_cases h2 : i = k
      · subst h2; simpa using hp
      · exact hall i hi (by omega)
  · refine vh fun hlt => ?_
    refine ⟨.inr ?_, H.bel⟩
    rw [List.any_eq_false]
    intro y hy
    obtain ⟨i, hi, rfl⟩ := List.getElem_of_mem hy
    rw [hall i hi (by omega)]; simp
theorem containsFuncB_ok (w : World) (v : Value) (l : List (List UInt8)) (p : List UInt8 → Bool) (f : FuncId) (fs cs : Array Value) (h : (Kd.slice 22 (bytes 5)).rd w w.heap.size [v] l) (hf : entersB Tryz.prog f = true)
    (hc : ∀ w' u x, Below w.heap.size w w' → (bytes 5).rd w' w'.heap.size [u] x → ACalls Tryz.prog f (fs ++ #[u] ++ cs) w' fun r w'' => r = .bool (p x) ∧ Below w'.heap.size w' w'') :
    ACalls Tryz.prog 139 #[v, .func (.func f) fs cs] w fun r w' => r = .bool (l.any p) ∧ Below w.heap.size w w' := by
  refine body_of follows Tryz.func139 rfl rfl _ rfl (by kernel_rfl) (vs ?_)
  refine x_call (indexFuncB_ok w v l p f fs cs h hf hc) fun _ w2 ⟨hr, hb⟩ => ?_
  rcases hr with ⟨k, rfl, e⟩ | ⟨rfl, e⟩
  · refine vs ?_
    rw [e]
    exact ⟨by simp, hb⟩
  · refine vs ?_
    rw [e]
    exact ⟨by simp, hb⟩

end Go.Proofs.YtfhbglaigjekpaaGreat.V
