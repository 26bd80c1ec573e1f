/- Bytes compared, lists looked through; what a reader has read, both sides. -/
import Derived.Test.YtaaommmjpeedcaaWt
namespace Go.Proofs.Ytaaommmjpeedcaa.V
open Go Go.RowKit
set_option maxRecDepth 100000
set_option maxHeartbeats 4000000
set_option linter.unusedSimpArgs false
set_option linter.unusedVariables false
set_option pp.deepTerms false
set_option pp.deepTerms.threshold 3

theorem specSame_ok (w : World) (v v' : Value) (a b : List UInt8) (h : (bytes 5).rd w w.heap.size [v] a) (h' : (bytes 5).rd w w.heap.size [v'] b) :
    ACalls Try.prog 62 #[v, v'] w fun r w' => r = .bool (decide (a = b)) ∧ w' = w := by
  refine body_of follows Try.func62 rfl rfl _ rfl (by kernel_rfl) (vs ?_)
  refine x_str Try.underlying24 Try.underlying5 Try.underlying9 h (vs ?_)
  refine x_str Try.underlying24 Try.underlying5 Try.underlying9 h' (vs ?_)
  trivial
theorem bytesEqual_ok (w : World) (v v' : Value) (a b : List UInt8) (h : (bytes 5).rd w w.heap.size [v] a) (h' : (bytes 5).rd w w.heap.size [v'] b) :
    ACalls Try.prog 94 #[v, v'] w fun r w' => r = .bool (decide (a = b)) ∧ w' = w := by
  refine body_of follows Try.func94 rfl rfl _ rfl (by kernel_rfl) (vs ?_)
  refine x_str Try.underlying24 Try.underlying5 Try.underlying9 h (vs ?_)
  refine x_str Try.underlying24 Try.underlying5 Try.underlying9 h' (vs ?_)
  trivial
theorem implSame_ok (w : World) (v v' : Value) (a b : List UInt8) (h : (bytes 5).rd w w.heap.size [v] a) (h' : (bytes 5).rd w w.heap.size [v'] b) :
    ACalls Try.prog 66 #[v, v'] w fun r w' => r = .bool (decide (a = b)) ∧ w' = w := by
  refine body_of follows Try.func66 rfl rfl _ rfl (by kernel_rfl) (vs ?_)
  refine x_callw (bytesEqual_ok w v v' a b h h') (vs ?_)
  trivial

/-- The first of a list with a property, told by a closure. -/
theorem indexFuncB_ok (w : World) (v : Value) (l : List (List UInt8)) (p : List UInt8 → Bool) (f : FuncId) (fs cs : Array Value) (h : (Kd.slice 24 (bytes 5)).rd w w.heap.size [v] l) (hf : entersB Try.prog f = true)
    (hc : ∀ w' u x, Below w.heap.size w w' → (bytes 5).rd w' w'.heap.size [u] x → ACalls Try.prog f (fs ++ #[u] ++ cs) w' fun r w'' => r = .bool (p x) ∧ Below w'.heap.size w' w'') :
    ACalls Try.prog 93 #[v, .func (.func f) fs cs] w fun r w' => ((∃ k : Nat, r = .int .i64 k ∧ l.any p = true) ∨ (r = .int .i64 (-1) ∧ l.any p = false)) ∧ Below w.heap.size w w' := by
  have hlm := sl_len h
  obtain ⟨A, c, rfl, hc1, hc2, ha⟩ := sl_open h
  refine body_of follows Try.func93 rfl rfl _ rfl (by kernel_rfl) (vs ?_)
  refine loop_at (σ := Nat) (fun k => [(0, .slice A l.length c), (1, .func (.func f) fs cs), (7, .int .i64 (l.length : Int)), (8, .int .i64 (k : Int))])
    (fun k w' => k ≤ l.length ∧ (∀ i (hi : i < l.length), i < k → p l[i] = false) ∧ Sep w.heap.size w w' []) (fun k => l.length - k) 0 (vs trivial) ⟨Nat.zero_le _, fun i hi h => absurd h (Nat.not_lt_zero i), Sep.start w⟩ ?_
  rintro k s w2 ⟨hk, hall, H⟩
  refine vs (ways ?_ ?_)
  · refine vh fun hlt => ?_
    have hk2 : k < l.length := by omega
    refine x_elg sl37 rfl (ha.mono H.bel) (by omega) hlt fun ad es hb hr hc' => vs ?_
    obtain ⟨u, rfl⟩ := sl_one hr
    refine x_ld1 sc24 hc' rfl (vs ?_)
    refine x_callv hf (hc w2 u _ H.bel (Kd.le _ hr H.ns)) fun _ w3 ⟨e3, hb3⟩ => ?_
    subst e3
    have H := H.go hb3
    refine vs (ways ?_ ?_)
    · refine vh fun hp => ?_
      exact ⟨.inl ⟨k, rfl, List.any_eq_true.2 ⟨_, List.getElem_mem _, hp⟩⟩, H.bel⟩
    · refine vh fun hp => ?_
      refine ⟨k + 1, i64_eq (by unfold w64; omega), ⟨hk2, fun i hi h => ?_, H⟩, by omega⟩
      by_cases h2 : i = k
      · subst h2; simpa using hp
      · exact hall i hi (by omega)
  · refine vh fun hlt => ?_
    refine ⟨.inr ?_, H.bel⟩
    rw [List.any_eq_false]
    intro y hy
    obtain ⟨i, hi, rfl⟩ := List.getElem_of_mem hy
    rw [hall i hi (by omega)]; simp
theorem containsFuncB_ok (w : World) (v : Value) (l : List (List UInt8)) (p : List UInt8 → Bool) (f : FuncId) (fs cs : Array Value) (h : (Kd.slice 24 (bytes 5)).rd w w.heap.size [v] l) (hf : entersB Try.prog f = true)
    (hc : ∀ w' u x, Below w.heap.size w w' → (bytes 5).rd w' w'.heap.size [u] x → ACalls Try.prog f (fs ++ #[u] ++ cs) w' fun r w'' => r = .bool (p x) ∧ Below w'.heap.size w' w'') :
    ACalls Try.prog 64 #[v, .func (.func f) fs cs] w fun r w' => r = .bool (l.any p) ∧ Below w.heap.size w w' := by
  refine body_of follows Try.func64 rfl rfl _ rfl (by kernel_rfl) (vs ?_)
  refine x_call (indexFuncB_ok w v l p f fs cs h hf hc) fun _ w2 ⟨hr, hb⟩ => ?_
  rcases hr with ⟨k, rfl, e⟩ | ⟨rfl, e⟩
  · refine vs ?_
    rw [e]
    exact ⟨by simp, hb⟩
  · refine vs ?_
    rw [e]
    exact ⟨by simp, hb⟩

def readIn (x : MReader) (b : List UInt8) : Bool := x.f_Seen.any fun y => decide (y = b)

theorem implRead1_ok (w : World) (u : Value) (g : Nat) (v : Value) (x b : List UInt8) (h : (bytes 5).rd w w.heap.size [u] x) (h' : (bytes 5).rd w w.heap.size [v] b) (hg : w.cell? ⟨g, 0, none⟩ = some v) :
    ACalls Try.prog 65 (#[] ++ #[u] ++ #[.pointer (some ⟨g, 0, none⟩)]) w fun r w' => r = .bool (decide (x = b)) ∧ Below w.heap.size w w' := by
  refine body_of (args := [u, .pointer (some ⟨g, 0, none⟩)]) follows Try.func65 rfl rfl _ rfl (by kernel_rfl) (vs ?_)
  refine x_load sc24 hg (vs ?_)
  refine x_callw (implSame_ok w u v x b h h') (vs ?_)
  exact Below.refl ..

theorem implRead_ok (w : World) (cs : List Value) (x : MReader) (v : Value) (b : List UInt8) (h : kReader.rd w w.heap.size cs x) (h' : (bytes 5).rd w w.heap.size [v] b) :
    ACalls Try.prog 29 #[.agg cs.toArray, v] w fun r w' => r = .bool (readIn x b) ∧ Below w.heap.size w w' := by
  obtain ⟨v0, v2, v3, rfl, h0, h1, h2, h3⟩ := kReader_open h
  have hone := Kd.one _ h' v (by simp)
  have H := Sep.start w
  refine body_of follows Try.func29 rfl rfl _ rfl (by kernel_rfl) (vs ?_)
  refine x_bx H [_, _, _, _] fun g1 w1 H => vs ?_
  refine x_bx H [v] (hc := cells_one hone) fun g2 w2 H => vs ?_
  refine x_ld H sc37 ?_
  refine vs ?_
  have hcell := H.cell (g := g2) (cs := [v]) (t := 24) (.head _) 0
  have hlt := H.lt (g := g2) (cs := [v]) (t := 24) (.head _)
  refine x_callb H (containsFuncB_ok w2 v2 x.f_Seen (fun y => decide (y = b)) 65 #[] #[.pointer (some ⟨g2, 0, none⟩)] (H.rd h2) en65 fun w' u y hb hy => implRead1_ok w' u g2 v y b hy (Kd.le _ (Kd.mono _ (H.rd h') hb) hb.size) ((hb.cell hlt).trans hcell)) fun w3 H => vs ?_
  exact ⟨rfl, H.bel⟩

theorem specRead_ok (w : World) (cs : List Value) (x : MReader) (v : Value) (b : List UInt8) (h : kReader.rd w w.heap.size cs x) (h' : (bytes 5).rd w w.heap.size [v] b) :
    ACalls Try.prog 27 #[.agg cs.toArray, v] w fun r w' => r = .bool (readIn x b) ∧ Below w.heap.size w w' := by
  obtain ⟨v0, v2, v3, rfl, h0, h1, h2, h3⟩ := kReader_open h
  have hlm := sl_len h2
  obtain ⟨A, c, rfl, hc1, hc2, ha⟩ := sl_open h2
  have H := Sep.start w
  refine body_of follows Try.func27 rfl rfl _ rfl (by kernel_rfl) (vs ?_)
  refine x_bx H [_, _, _, _] fun g1 w1 H => vs ?_
  refine loop_at (σ := Nat) (fun k => [(1, v), (2, .pointer (some ⟨g1, 0, none⟩)), (5, .int .i64 (k : Int))])
    (fun k w' => k ≤ x.f_Seen.length ∧ (∀ i (hi : i < x.f_Seen.length), i < k → ¬ x.f_Seen[i] = b) ∧ Sep w.heap.size w w' [Ck.box g1 [v0, .int .i64 x.f_Epoch, .slice A x.f_Seen.length c, v3] 42]) (fun k => x.f_Seen.length - k) 0 (vs trivial) ⟨Nat.zero_le _, fun i hi h => absurd h (Nat.not_lt_zero i), H⟩ ?_
  rintro k s w2 ⟨hk, hall, H⟩
  refine vs ?_
  refine x_ld H sc37 ?_
  refine vs (ways ?_ ?_)
  · refine vh fun hlt => ?_
    have hk2 : k < x.f_Seen.length := by omega
    refine x_ld H sc37 ?_
    refine vs ?_
    refine x_elg sl37 rfl (ha.mono H.bel) (by omega) hlt fun ad es hb hr hc' => vs ?_
    obtain ⟨u, rfl⟩ := sl_one hr
    refine x_ld1 sc24 hc' rfl (vs ?_)
    refine x_callw (specSame_ok w2 u v _ b (Kd.le _ hr H.ns) (H.rd h')) (vs (ways ?_ ?_))
    · refine vh fun hp => ?_
      refine ⟨?_, H.bel⟩
      have : readIn x b = true := List.any_eq_true.2 ⟨_, List.getElem_mem hk2, by simpa using hp⟩
      rw [this]
    · refine vh fun hp => ?_
      refine ⟨k + 1, i64_eq (by unfold w64; omega), ⟨hk2, fun i hi h => ?_, H⟩, by omega⟩
      by_cases h2 : i = k
      · subst h2; simpa using hp
      · exact hall i hi (by omega)
  · refine vh fun hlt => ?_
    refine ⟨?_, H.bel⟩
    have : readIn x b = false := by
      unfold readIn
      rw [List.any_eq_false]
      intro y hy
      obtain ⟨i, hi, rfl⟩ := List.getElem_of_mem hy
      have := hall i hi (by omega)
      simpa using this
    rw [this]
end Go.Proofs.Ytaaommmjpeedcaa.V
