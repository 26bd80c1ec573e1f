/- Letters that are right, lists of one kind, both sides. -/
import Derived.Test.YtaaommmjpeedcaaWd
import Derived.Test.YtaaommmjpeedcaaVq
namespace Go.Proofs.Ytaaommmjpeedcaa.V
open Go Go.RowKit
set_option maxRecDepth 100000
set_option maxHeartbeats 4000000
set_option linter.unusedSimpArgs false
set_option linter.unusedVariables false
set_option pp.deepTerms false
set_option pp.deepTerms.threshold 3

def letterP (x : MLetter) : Prop := (0 ≤ x.f_Epoch ∧ x.f_Epoch ≤ 65535) ∧ x.f_From.length = 32 ∧ 16 ≤ x.f_Box.length ∧ x.f_Box.length ≤ 1516
instance (x : MLetter) : Decidable (letterP x) := by unfold letterP; infer_instance
def letterOk (x : MLetter) : Bool := decide (letterP x)

theorem specLetterOk_ok (w : World) (cs : List Value) (x : MLetter) (h : kLetter.rd w w.heap.size cs x) :
    ACalls Try.prog 71 #[.agg cs.toArray] w fun r w' => r = .bool (letterOk x) ∧ Below w.heap.size w w' := by
  obtain ⟨v1, v2, rfl, h0, h1, h2⟩ := kLetter_open h
  obtain ⟨A1, c1, rfl, _, _, _⟩ := sl_open h1
  obtain ⟨A2, c2, rfl, _, _, _⟩ := sl_open h2
  have H := Sep.start w
  refine body_of follows Try.func71 rfl rfl _ rfl (by kernel_rfl) (vs ?_)
  refine x_bx H [_, _, _] fun g1 w1 H => vs ?_
  refine x_ld H sc3 ?_
  refine vs ?_
  refine x_callw (l1In_ok w1 _ _ _) ?_
  by_cases hA : 0 ≤ x.f_Epoch ∧ x.f_Epoch ≤ 65535
  · refine ve hA ?_
    refine x_ld H sc24 ?_
    by_cases hB : (x.f_From.length : Int) = 32
    · refine ve hB ?_
      refine x_ld H sc24 ?_
      refine vs ?_
      refine x_callw (l1In_ok w1 _ _ _) ?_
      refine vs ?_
      refine ⟨?_, H.bel⟩
      congr 1
      unfold letterOk
      have hB' : x.f_From.length = 32 := by omega
      refine decide_eq_decide.2 ⟨fun h => ⟨hA, hB', by omega, by omega⟩, fun h => ?_⟩
      have := h.2.2; omega
    · refine ve hB ?_
      refine ⟨?_, H.bel⟩
      have : letterOk x = false := decide_eq_false fun h => hB (by have := h.2.1; omega)
      rw [this]
  · refine ve hA ?_
    refine ⟨?_, H.bel⟩
    have : letterOk x = false := decide_eq_false fun h => hA h.1
    rw [this]
theorem implLetterOk_ok (w : World) (cs : List Value) (x : MLetter) (h : kLetter.rd w w.heap.size cs x) :
    ACalls Try.prog 73 #[.agg cs.toArray] w fun r w' => r = .bool (letterOk x) ∧ Below w.heap.size w w' := by
  obtain ⟨v1, v2, rfl, h0, h1, h2⟩ := kLetter_open h
  obtain ⟨A1, c1, rfl, _, _, _⟩ := sl_open h1
  obtain ⟨A2, c2, rfl, _, _, _⟩ := sl_open h2
  have H := Sep.start w
  refine body_of follows Try.func73 rfl rfl _ rfl (by kernel_rfl) (vs ?_)
  refine x_bx H [_, _, _] fun g1 w1 H => vs ?_
  refine x_ld H sc3 ?_
  refine vs ?_
  refine x_callw (in_ok w1 _ _ _) ?_
  by_cases hA : 0 ≤ x.f_Epoch ∧ x.f_Epoch ≤ 65535
  · refine ve hA ?_
    refine x_ld H sc24 ?_
    by_cases hB : (x.f_From.length : Int) = 32
    · refine ve hB ?_
      refine x_ld H sc24 ?_
      refine vs ?_
      refine x_callw (in_ok w1 _ _ _) ?_
      refine vs ?_
      refine ⟨?_, H.bel⟩
      congr 1
      unfold letterOk
      have hB' : x.f_From.length = 32 := by omega
      refine decide_eq_decide.2 ⟨fun h => ⟨hA, hB', by omega, by omega⟩, fun h => ?_⟩
      have := h.2.2; omega
    · refine ve hB ?_
      refine ⟨?_, H.bel⟩
      have : letterOk x = false := decide_eq_false fun h => hB (by have := h.2.1; omega)
      rw [this]
  · refine ve hA ?_
    refine ⟨?_, H.bel⟩
    have : letterOk x = false := decide_eq_false fun h => hA h.1
    rw [this]

theorem indexFuncL_ok (w : World) (v : Value) (l : List MLetter) (p : MLetter → Bool) (f : FuncId) (fs cs : Array Value) (h : (Kd.slice 88 kLetter).rd w w.heap.size [v] l) (hf : entersB Try.prog f = true)
    (hc : ∀ w' es x, Below w.heap.size w w' → kLetter.rd w' w'.heap.size es x → ACalls Try.prog f (fs ++ #[.agg es.toArray] ++ cs) w' fun r w'' => r = .bool (p x) ∧ Below w'.heap.size w' w'') :
    ACalls Try.prog 96 #[v, .func (.func f) fs cs] w fun r w' => ((∃ k : Nat, r = .int .i64 k ∧ l.any p = true) ∨ (r = .int .i64 (-1) ∧ l.any p = false)) ∧ Below w.heap.size w w' := by
  have hlm := sl_len h
  obtain ⟨A, c, rfl, hc1, hc2, ha⟩ := sl_open h
  refine body_of follows Try.func96 rfl rfl _ rfl (by kernel_rfl) (vs ?_)
  refine loop_at (σ := Nat) (fun k => [(0, .slice A l.length c), (1, .func (.func f) fs cs), (7, .int .i64 (l.length : Int)), (8, .int .i64 (k : Int))])
    (fun k w' => k ≤ l.length ∧ (∀ i (hi : i < l.length), i < k → p l[i] = false) ∧ Sep w.heap.size w w' []) (fun k => l.length - k) 0 (vs trivial) ⟨Nat.zero_le _, fun i hi h => absurd h (Nat.not_lt_zero i), Sep.start w⟩ ?_
  rintro k s w2 ⟨hk, hall, H⟩
  refine vs (ways ?_ ?_)
  · refine vh fun hlt => ?_
    have hk2 : k < l.length := by omega
    refine x_ele H sl53 rfl k hk2 ha rfl fun ad es hb hr hc' => vs ?_
    refine x_lds st88 hc' (Kd.len _ hr) (vs ?_)
    refine x_callv hf (hc w2 es _ H.bel (H.rd hr)) fun _ w3 ⟨e3, hb3⟩ => ?_
    subst e3
    have H := H.go hb3
    refine vs (ways ?_ ?_)
    · refine vh fun hp => ?_
      exact ⟨.inl ⟨k, rfl, List.any_eq_true.2 ⟨_, List.getElem_mem _, hp⟩⟩, H.bel⟩
    · refine vh fun hp => ?_
      refine ⟨k + 1, i64_eq (by unfold w64; omega), ⟨hk2, fun i hi h => ?_, H⟩, by omega⟩
      by_cases h2 : i = k
      · subst h2; simpa using hp
      · exact hall i hi (by omega)
  · refine vh fun hlt => ?_
    refine ⟨.inr ?_, H.bel⟩
    rw [List.any_eq_false]
    intro y hy
    obtain ⟨i, hi, rfl⟩ := List.getElem_of_mem hy
    rw [hall i hi (by omega)]; simp
theorem containsFuncL_ok (w : World) (v : Value) (l : List MLetter) (p : MLetter → Bool) (f : FuncId) (fs cs : Array Value) (h : (Kd.slice 88 kLetter).rd w w.heap.size [v] l) (hf : entersB Try.prog f = true)
    (hc : ∀ w' es x, Below w.heap.size w w' → kLetter.rd w' w'.heap.size es x → ACalls Try.prog f (fs ++ #[.agg es.toArray] ++ cs) w' fun r w'' => r = .bool (p x) ∧ Below w'.heap.size w' w'') :
    ACalls Try.prog 74 #[v, .func (.func f) fs cs] w fun r w' => r = .bool (l.any p) ∧ Below w.heap.size w w' := by
  refine body_of follows Try.func74 rfl rfl _ rfl (by kernel_rfl) (vs ?_)
  refine x_call (indexFuncL_ok w v l p f fs cs h hf hc) fun _ w2 ⟨hr, hb⟩ => ?_
  rcases hr with ⟨k, rfl, e⟩ | ⟨rfl, e⟩
  · refine vs ?_
    rw [e]
    exact ⟨by simp, hb⟩
  · refine vs ?_
    rw [e]
    exact ⟨by simp, hb⟩
end Go.Proofs.Ytaaommmjpeedcaa.V
