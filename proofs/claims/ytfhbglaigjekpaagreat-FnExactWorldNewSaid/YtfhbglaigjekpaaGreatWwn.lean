/- Wires and what was sent, looked for by a function that is handed over. Laid by a program. Wires, what was sent, worlds that are right: both sides. Laid by a program. Wires, what was sent, worlds that are right: both sides. Laid by a program. Wires, what was sent, worlds that are right: both sides. Laid by a program. Wires, what was sent, worlds that are right: both sides. Laid by a program. Wires, what was sent, worlds that are right: both sides. Laid by a program. -/
import Derived.Test.YtfhbglaigjekpaaGreatWqn
import Derived.Test.YtfhbglaigjekpaaGreatPw
import Derived.Test.YtfhbglaigjekpaaGreatWqr
namespace Go.Proofs.YtfhbglaigjekpaaGreat.V
open Go Go.RowKit
set_option maxRecDepth 100000
set_option maxHeartbeats 4000000
set_option linter.unusedSimpArgs false
set_option linter.unusedVariables false
set_option pp.deepTerms false
set_option pp.deepTerms.threshold 3

abbrev wires : Kd (List MWire) := Kd.slice 88 kWire
abbrev sents : Kd (List MSent) := Kd.slice 78 kSent
/-- The first of a list with a property, told by a closure. -/
theorem indexFuncW_ok (w : World) (v : Value) (l : List MWire) (p : MWire → Bool) (f : FuncId) (fs cs : Array Value) (h : wires.rd w w.heap.size [v] l) (hf : entersB Tryz.prog f = true)
    (hc : ∀ w' es x, Below w.heap.size w w' → x ∈ l → kWire.rd w' w'.heap.size es x → ACalls Tryz.prog f (fs ++ #[.agg es.toArray] ++ cs) w' fun r w'' => r = .bool (p x) ∧ Below w'.heap.size w' w'') :
    ACalls Tryz.prog 141 #[v, .func (.func f) fs cs] w fun r w' => ((∃ k : Nat, ∃ hk : k < l.length, r = .int .i64 k ∧ p l[k] = true ∧ ∀ i (hi : i < l.length), i < k → p l[i] = false) ∨ (r = .int .i64 (-1) ∧ ∀ i (hi : i < l.length), p l[i] = false)) ∧ Below w.heap.size w w' := by
  have hlm := sl_len h
  obtain ⟨A, c, rfl, hc1, hc2, ha⟩ := sl_open h
  refine body_of follows Tryz.func141 rfl rfl _ rfl (by kernel_rfl) (vs ?_)
  refine loop_at (σ := Nat) (fun k => [(0, .slice A l.length c), (1, .func (.func f) fs cs), (7, .int .i64 (l.length : Int)), (8, .int .i64 (k : Int))])
    (fun k w' => k ≤ l.length ∧ (∀ i (hi : i < l.length), i < k → p l[i] = false) ∧ Sep w.heap.size w w' []) (fun k => l.length - k) 0 (vs trivial) ⟨Nat.zero_le _, fun i hi h => absurd h (Nat.not_lt_zero i), Sep.start w⟩ ?_
  rintro k s w2 ⟨hk, hall, H⟩
  refine vs (ways ?_ ?_)
  · refine vh fun hlt => ?_
    have hk2 : k < l.length := by omega
    refine x_elg sl39 rfl (ha.mono H.bel) (by omega) hlt fun ad es hb hr hc' => vs ?_
    have hr : kWire.rd w2 w.heap.size es l[k] := hr
    refine x_lds st88 hc' (Kd.len _ hr) (vs ?_)
    refine x_callv hf (hc w2 es _ H.bel (List.getElem_mem hk2) (Kd.le _ hr H.ns)) fun _ w3 ⟨e3, hb3⟩ => ?_
    subst e3
    have H := H.go hb3
    refine vs (ways ?_ ?_)
    · refine vh fun hp => ?_
      exact ⟨.inl ⟨k, hk2, rfl, hp, hall⟩, H.bel⟩
    · refine vh fun hp => ?_
      refine ⟨k + 1, i64_eq (by unfold w64; omega), ⟨hk2, fun i hi h => ?_, H⟩, by omega⟩
      by_cases h2 : i = k
      · subst h2; simpa using hp
      · exact hall i hi (by omega)
  · refine vh fun hlt => ?_
    exact ⟨.inr fun i hi => hall i hi (by omega), H.bel⟩
theorem containsFuncW_ok (w : World) (v : Value) (l : List MWire) (p : MWire → Bool) (f : FuncId) (fs cs : Array Value) (h : wires.rd w w.heap.size [v] l) (hf : entersB Tryz.prog f = true)
    (hc : ∀ w' es x, Below w.heap.size w w' → x ∈ l → kWire.rd w' w'.heap.size es x → ACalls Tryz.prog f (fs ++ #[.agg es.toArray] ++ cs) w' fun r w'' => r = .bool (p x) ∧ Below w'.heap.size w' w'') :
    ACalls Tryz.prog 67 #[v, .func (.func f) fs cs] w fun r w' => r = .bool (l.any p) ∧ Below w.heap.size w w' := by
  refine body_of follows Tryz.func67 rfl rfl _ rfl (by kernel_rfl) (vs ?_)
  refine x_call (indexFuncW_ok w v l p f fs cs h hf hc) fun _ w2 ⟨hr, hb⟩ => ?_
  rcases hr with ⟨k, hk, rfl, hp, _⟩ | ⟨rfl, hno⟩
  · refine vs ?_
    have e : l.any p = true := List.any_eq_true.2 ⟨l[k], List.getElem_mem hk, hp⟩
    rw [e]
    exact ⟨by simp, hb⟩
  · refine vs ?_
    have e : l.any p = false := by
      rw [Bool.eq_false_iff]
      intro ha
      obtain ⟨y, hy, hp⟩ := List.any_eq_true.1 ha
      obtain ⟨i, hi, rfl⟩ := List.getElem_of_mem hy
      rw [hno i hi] at hp; cases hp
    rw [e]
    exact ⟨by simp, hb⟩

/-- The first of a list with a property, told by a closure. -/
theorem indexFuncS_ok (w : World) (v : Value) (l : List MSent) (p : MSent → Bool) (f : FuncId) (fs cs : Array Value) (h : sents.rd w w.heap.size [v] l) (hf : entersB Tryz.prog f = true)
    (hc : ∀ w' es x, Below w.heap.size w w' → x ∈ l → kSent.rd w' w'.heap.size es x → ACalls Tryz.prog f (fs ++ #[.agg es.toArray] ++ cs) w' fun r w'' => r = .bool (p x) ∧ Below w'.heap.size w' w'') :
    ACalls Tryz.prog 144 #[v, .func (.func f) fs cs] w fun r w' => ((∃ k : Nat, ∃ hk : k < l.length, r = .int .i64 k ∧ p l[k] = true ∧ ∀ i (hi : i < l.length), i < k → p l[i] = false) ∨ (r = .int .i64 (-1) ∧ ∀ i (hi : i < l.length), p l[i] = false)) ∧ Below w.heap.size w w' := by
  have hlm := sl_len h
  obtain ⟨A, c, rfl, hc1, hc2, ha⟩ := sl_open h
  refine body_of follows Tryz.func144 rfl rfl _ rfl (by kernel_rfl) (vs ?_)
  refine loop_at (σ := Nat) (fun k => [(0, .slice A l.length c), (1, .func (.func f) fs cs), (7, .int .i64 (l.length : Int)), (8, .int .i64 (k : Int))])
    (fun k w' => k ≤ l.length ∧ (∀ i (hi : i < l.length), i < k → p l[i] = false) ∧ Sep w.heap.size w w' []) (fun k => l.length - k) 0 (vs trivial) ⟨Nat.zero_le _, fun i hi h => absurd h (Nat.not_lt_zero i), Sep.start w⟩ ?_
  rintro k s w2 ⟨hk, hall, H⟩
  refine vs (ways ?_ ?_)
  · refine vh fun hlt => ?_
    have hk2 : k < l.length := by omega
    refine x_elg sl40 rfl (ha.mono H.bel) (by omega) hlt fun ad es hb hr hc' => vs ?_
    have hr : kSent.rd w2 w.heap.size es l[k] := hr
    refine x_lds st78 hc' (Kd.len _ hr) (vs ?_)
    refine x_callv hf (hc w2 es _ H.bel (List.getElem_mem hk2) (Kd.le _ hr H.ns)) fun _ w3 ⟨e3, hb3⟩ => ?_
    subst e3
    have H := H.go hb3
    refine vs (ways ?_ ?_)
    · refine vh fun hp => ?_
      exact ⟨.inl ⟨k, hk2, rfl, hp, hall⟩, H.bel⟩
    · refine vh fun hp => ?_
      refine ⟨k + 1, i64_eq (by unfold w64; omega), ⟨hk2, fun i hi h => ?_, H⟩, by omega⟩
      by_cases h2 : i = k
      · subst h2; simpa using hp
      · exact hall i hi (by omega)
  · refine vh fun hlt => ?_
    exact ⟨.inr fun i hi => hall i hi (by omega), H.bel⟩
theorem containsFuncS_ok (w : World) (v : Value) (l : List MSent) (p : MSent → Bool) (f : FuncId) (fs cs : Array Value) (h : sents.rd w w.heap.size [v] l) (hf : entersB Tryz.prog f = true)
    (hc : ∀ w' es x, Below w.heap.size w w' → x ∈ l → kSent.rd w' w'.heap.size es x → ACalls Tryz.prog f (fs ++ #[.agg es.toArray] ++ cs) w' fun r w'' => r = .bool (p x) ∧ Below w'.heap.size w' w'') :
    ACalls Tryz.prog 70 #[v, .func (.func f) fs cs] w fun r w' => r = .bool (l.any p) ∧ Below w.heap.size w w' := by
  refine body_of follows Tryz.func70 rfl rfl _ rfl (by kernel_rfl) (vs ?_)
  refine x_call (indexFuncS_ok w v l p f fs cs h hf hc) fun _ w2 ⟨hr, hb⟩ => ?_
  rcases hr with ⟨k, hk, rfl, hp, _⟩ | ⟨rfl, hno⟩
  · refine vs ?_
    have e : l.any p = true := List.any_eq_true.2 ⟨l[k], List.getElem_mem hk, hp⟩
    rw [e]
    exact ⟨by simp, hb⟩
  · refine vs ?_
    have e : l.any p = false := by
      rw [Bool.eq_false_iff]
      intro ha
      obtain ⟨y, hy, hp⟩ := List.any_eq_true.1 ha
      obtain ⟨i, hi, rfl⟩ := List.getElem_of_mem hy
      rw [hno i hi] at hp; cases hp
    rw [e]
    exact ⟨by simp, hb⟩


theorem arr1 (a : Value) : (#[] ++ #[a] ++ #[] : Array Value) = #[a] := by simp
theorem zlen {n : Nat} : ((n : Int) = 0) = (n = 0) := propext ⟨fun h => by omega, fun h => by omega⟩
theorem nilB {l : List UInt8} : ((⟨l.toArray⟩ : ByteArray) = ⟨#[]⟩) = (l = []) := propext ⟨fun h => by
  have := congrArg (fun b : ByteArray => b.data.toList) h
  simpa using this, fun h => by subst h; rfl⟩
theorem implNoItem_ok (w : World) (cs : List Value) (x : MItem) (h : kItem.rd w w.heap.size cs x) :
    ACalls Tryz.prog 143 #[.agg cs.toArray] w fun r w' => r = .bool (noItem x) ∧ Below w.heap.size w w' := by
  obtain ⟨v3, rfl, h0, h1, h2, h3⟩ := kItem_open h
  obtain ⟨A3, c3, rfl, _⟩ := sl_open h3
  have H := Sep.start w
  refine body_of follows Tryz.func143 rfl rfl _ rfl (by kernel_rfl) (vs ?_)
  refine x_bx H [.string ⟨x.f_Route.toArray⟩, .int .i64 x.f_Topic, .int .i64 x.f_Due, .slice A3 x.f_Bytes.length c3] fun g1 w1 H => vs ?_
  refine x_ld H sc9 ?_
  by_cases hR : x.f_Route = []
  rotate_left
  · refine ve hR ?_
    have e : noItem x = false := by unfold noItem; rw [decide_eq_false hR]; rfl
    rw [e]
    first | exact ⟨rfl, H.bel⟩ | exact H.bel
  refine ve hR ?_
  refine x_ld H sc3 ?_
  by_cases hT : x.f_Topic = 0
  rotate_left
  · refine ve (And.intro hR hT) ?_
    have e : noItem x = false := by unfold noItem; rw [decide_eq_false hT]; simp
    rw [e]
    first | exact ⟨rfl, H.bel⟩ | exact H.bel
  refine ve (And.intro hR hT) ?_
  refine x_ld H sc3 ?_
  by_cases hD : x.f_Due = 0
  rotate_left
  · refine ve (And.intro hR (And.intro hT hD)) ?_
    have e : noItem x = false := by unfold noItem; rw [decide_eq_false hD]; simp
    rw [e]
    first | exact ⟨rfl, H.bel⟩ | exact H.bel
  refine ve (And.intro hR (And.intro hT hD)) ?_
  refine x_ld H sc22 ?_
  refine ve (And.intro hR (And.intro hT hD)) ?_
  have e : noItem x = decide ((x.f_Bytes.length : Int) = 0) := by
    unfold noItem; rw [decide_eq_true hR, decide_eq_true hT, decide_eq_true hD, Bool.true_and, Bool.true_and, Bool.true_and]; exact decide_eq_decide.2 (by omega)
  rw [e]
  first | exact ⟨rfl, H.bel⟩ | exact H.bel
theorem implWireOk_ok (w : World) (cs : List Value) (x : MWire) (h : kWire.rd w w.heap.size cs x) (hr : x.f_Item.f_Route.length ≤ 1099511627776) :
    ACalls Tryz.prog 69 #[.agg cs.toArray] w fun r w' => r = .bool (wireOk x) ∧ Below w.heap.size w w' := by
  obtain ⟨v4, v5, rfl, _, hi, h5⟩ := kWire_open h
  obtain ⟨A5, c5, rfl, _⟩ := sl_open h5
  have H := Sep.start w
  refine body_of follows Tryz.func69 rfl rfl _ rfl (by kernel_rfl) (vs ?_)
  refine x_bx H [.bool x.f_ToPost, .string ⟨x.f_Item.f_Route.toArray⟩, .int .i64 x.f_Item.f_Topic, .int .i64 x.f_Item.f_Due, v4, .slice A5 x.f_Bytes.length c5] fun g1 w1 H => vs ?_
  refine x_ld H sc4 ?_
  cases hp : x.f_ToPost with
  | true =>
    rw [hp] at H
    refine ve hp ?_
    refine x_ldp H [.string ⟨x.f_Item.f_Route.toArray⟩, .int .i64 x.f_Item.f_Topic, .int .i64 x.f_Item.f_Due, v4] st81 ?_
    refine vs ?_
    refine x_callb H (implItemOk_ok w1 _ x.f_Item (H.rd hi) hr) fun w2 H => ?_
    cases ho : itemOk x.f_Item with
    | false =>
      refine vs ?_
      have e : wireOk x = false := by rw [wireOk_post hp, ho]; rfl
      rw [e]
      first | exact ⟨rfl, H.bel⟩ | exact H.bel
    | true =>
      refine vs ?_
      refine x_ld H sc22 ?_
      refine vs ?_
      have e : wireOk x = decide ((x.f_Bytes.length : Int) = 0) := by rw [wireOk_post hp, ho, Bool.true_and]; exact decide_eq_decide.2 (by omega)
      rw [e]
      first | exact ⟨rfl, H.bel⟩ | exact H.bel
  | false =>
    rw [hp] at H
    refine ve hp ?_
    refine x_ldp H [.string ⟨x.f_Item.f_Route.toArray⟩, .int .i64 x.f_Item.f_Topic, .int .i64 x.f_Item.f_Due, v4] st81 ?_
    refine vs ?_
    refine x_callb H (implNoItem_ok w1 _ x.f_Item (H.rd hi)) fun w2 H => ?_
    cases ho : noItem x.f_Item with
    | false =>
      refine vs ?_
      have e : wireOk x = false := by rw [wireOk_read hp, ho]; rfl
      rw [e]
      first | exact ⟨rfl, H.bel⟩ | exact H.bel
    | true =>
      refine vs ?_
      refine x_ld H sc22 ?_
      refine vs ?_
      have e : wireOk x = decide ((x.f_Bytes.length : Int) ≤ 1560) := by rw [wireOk_read hp, ho, Bool.true_and]; exact decide_eq_decide.2 (by omega)
      rw [e]
      first | exact ⟨rfl, H.bel⟩ | exact H.bel
theorem implSentOk_ok (w : World) (cs : List Value) (x : MSent) (h : kSent.rd w w.heap.size cs x) (hr : x.f_Route.length ≤ 1099511627776) :
    ACalls Tryz.prog 72 #[.agg cs.toArray] w fun r w' => r = .bool (sentOk x) ∧ Below w.heap.size w w' := by
  obtain ⟨v2, v3, rfl, h0, h1, h2, h3⟩ := kSent_open h
  obtain ⟨A2, c2, rfl, _⟩ := sl_open h2
  obtain ⟨A3, c3, rfl, _⟩ := sl_open h3
  have H := Sep.start w
  refine body_of follows Tryz.func72 rfl rfl _ rfl (by kernel_rfl) (vs ?_)
  refine x_bx H [.string ⟨x.f_Route.toArray⟩, .int .i64 x.f_Epoch, .slice A2 x.f_Note.length c2, .slice A3 x.f_Bytes.length c3] fun g1 w1 H => vs ?_
  refine x_ld H sc22 ?_
  by_cases hN : (x.f_Note.length : Int) ≤ 200
  rotate_left
  · refine ve hN ?_
    rw [sentOk_no fun hh => hN (by have := hh.1; omega)]
    first | exact ⟨rfl, H.bel⟩ | exact H.bel
  refine ve hN ?_
  refine x_ld H sc9 ?_
  refine ve hN ?_
  refine x_callb H (implIsRoute_ok w1 _ hr) fun w2 H => ?_
  cases hR : isRoute x.f_Route with
  | false =>
    refine ve hN ?_
    rw [sentOk_no fun hh => by have := hh.2.1; rw [hR] at this; cases this]
    first | exact ⟨rfl, H.bel⟩ | exact H.bel
  | true =>
    refine ve hN ?_
    refine x_ld H sc22 ?_
    by_cases hB : (x.f_Bytes.length : Int) ≤ 1560
    rotate_left
    · refine ve (And.intro hN hB) ?_
      rw [sentOk_no fun hh => hB (by have := hh.2.2.1; omega)]
      first | exact ⟨rfl, H.bel⟩ | exact H.bel
    refine ve (And.intro hN hB) ?_
    refine x_ld H sc3 ?_
    refine ve (And.intro hN hB) ?_
    refine x_callw (in_ok w2 _ _ _) ?_
    refine ve (And.intro hN hB) ?_
    have e : sentOk x = decide (0 ≤ x.f_Epoch ∧ x.f_Epoch ≤ 40) := by
      unfold sentOk; rw [hR, decide_eq_true (show x.f_Note.length ≤ 200 by omega), decide_eq_true (show x.f_Bytes.length ≤ 1560 by omega)]; rfl
    rw [e]
    first | exact ⟨rfl, H.bel⟩ | exact H.bel
theorem wokW_ok (w : World) (cs : List Value) (x : MWire) (h : kWire.rd w w.heap.size cs x) (hr : x.f_Item.f_Route.length ≤ 1099511627776) :
    ACalls Tryz.prog 68 #[.agg cs.toArray] w fun r w' => r = .bool (!wireOk x) ∧ Below w.heap.size w w' := by
  have hh := h
  obtain ⟨v4, v5, rfl, _, hi, h5⟩ := kWire_open h
  have H := Sep.start w
  refine body_of follows Tryz.func68 rfl rfl _ rfl (by kernel_rfl) (vs ?_)
  refine x_bx H [.bool x.f_ToPost, .string ⟨x.f_Item.f_Route.toArray⟩, .int .i64 x.f_Item.f_Topic, .int .i64 x.f_Item.f_Due, v4, v5] fun g1 w1 H => vs ?_
  refine x_lda H st88 ?_
  refine vs ?_
  refine x_callb H (implWireOk_ok w1 _ x (H.rd hh) hr) fun w2 H => vs ?_
  first | exact ⟨rfl, H.bel⟩ | exact H.bel
theorem wokS_ok (w : World) (cs : List Value) (x : MSent) (h : kSent.rd w w.heap.size cs x) (hr : x.f_Route.length ≤ 1099511627776) :
    ACalls Tryz.prog 71 #[.agg cs.toArray] w fun r w' => r = .bool (!sentOk x) ∧ Below w.heap.size w w' := by
  have hh := h
  obtain ⟨v2, v3, rfl, h0, h1, h2, h3⟩ := kSent_open h
  have H := Sep.start w
  refine body_of follows Tryz.func71 rfl rfl _ rfl (by kernel_rfl) (vs ?_)
  refine x_bx H [.string ⟨x.f_Route.toArray⟩, .int .i64 x.f_Epoch, v2, v3] fun g1 w1 H => vs ?_
  refine x_lda H st78 ?_
  refine vs ?_
  refine x_callb H (implSentOk_ok w1 _ x (H.rd hh) hr) fun w2 H => vs ?_
  first | exact ⟨rfl, H.bel⟩ | exact H.bel

theorem implWorldOk_ok (w : World) (cs : List Value) (x : MWorld) (h : kWorld.rd w w.heap.size cs x) (hs : smWorld x) :
    ACalls Tryz.prog 14 #[.agg cs.toArray] w fun r w' => r = .bool (worldOk x) ∧ Below w.heap.size w w' := by
  unfold smWorld at hs
  obtain ⟨v0, v3, v5, v7, v9, v10, v11, v12, rfl, h0, hC, hK, hP, hR, hN, hS⟩ := kWorld_open h
  have hN0 := hN
  have hS0 := hS
  have hlN := sl_len hN
  have hlS := sl_len hS
  obtain ⟨A0, c0, rfl, _⟩ := sl_open h0
  obtain ⟨A11, c11, rfl, _, _, haN⟩ := sl_open hN
  obtain ⟨A12, c12, rfl, _, _, haS⟩ := sl_open hS
  have H := Sep.start w
  refine body_of follows Tryz.func14 rfl rfl _ rfl (by kernel_rfl) (vs ?_)
  refine x_bx H [.slice A0 x.f_Seed.length c0, .int .i64 x.f_Count, .int .i64 x.f_Known, v3, .int .i64 x.f_Post.f_Time, v5, .int .i64 x.f_Post.f_Sure, v7, .int .i64 x.f_Reader.f_Epoch, v9, v10, .slice A11 x.f_Net.length c11, .slice A12 x.f_Sent.length c12] fun g1 w1 H => vs ?_
  refine x_ld H sc22 ?_
  by_cases hA : (x.f_Seed.length : Int) = 32
  rotate_left
  · refine ve (hA) ?_
    rw [worldOk_no fun hh => hA (by have := hh.1; omega)]
    first | exact ⟨rfl, H.bel⟩ | exact H.bel
  have eA : ((x.f_Seed.length : Int) = 32) = True := eq_true hA
  refine ve (eA) ?_
  refine x_ld H sc3 ?_
  refine ve (eA) ?_
  refine x_callw (in_ok w1 _ _ _) ?_
  by_cases hc : 0 ≤ x.f_Count ∧ x.f_Count ≤ 12
  rotate_left
  · refine ve (And.intro hc (eA)) ?_
    rw [worldOk_no fun hh => hc hh.2.1]
    first | exact ⟨rfl, H.bel⟩ | exact H.bel
  refine ve (And.intro eA (hc)) ?_
  refine x_ld H sc3 ?_
  refine ve (And.intro eA (hc)) ?_
  refine x_callw (in_ok w1 _ _ _) ?_
  by_cases hk : 0 ≤ x.f_Known ∧ x.f_Known ≤ 40
  rotate_left
  · refine ve (And.intro hk (And.intro eA (hc))) ?_
    rw [worldOk_no fun hh => hk hh.2.2.1]
    first | exact ⟨rfl, H.bel⟩ | exact H.bel
  refine ve (And.intro eA (And.intro hc (hk))) ?_
  refine x_ldp H [v3, .int .i64 x.f_Post.f_Time, v5, .int .i64 x.f_Post.f_Sure] st37 ?_
  refine ve (And.intro eA (And.intro hc (hk))) ?_
  refine x_callb H (implPostOk_ok w1 _ x.f_Post (H.rd hP) hs.2.1) fun w2 H => ?_
  cases hp : postOk x.f_Post with
  | false =>
    refine ve (And.intro eA (And.intro hc (hk))) ?_
    rw [worldOk_no fun hh => by have := hh.2.2.2.1; rw [hp] at this; cases this]
    first | exact ⟨rfl, H.bel⟩ | exact H.bel
  | true =>
    refine ve (And.intro eA (And.intro hc (hk))) ?_
    refine x_ldp H [v7, .int .i64 x.f_Reader.f_Epoch, v9, v10] st38 ?_
    refine ve (And.intro eA (And.intro hc (hk))) ?_
    refine x_callb H (implReaderOk_ok w2 _ x.f_Reader (H.rd hR)) fun w3 H => ?_
    cases hq : readerOk x.f_Reader with
    | false =>
      refine ve (And.intro eA (And.intro hc (hk))) ?_
      rw [worldOk_no fun hh => by have := hh.2.2.2.2.1; rw [hq] at this; cases this]
      first | exact ⟨rfl, H.bel⟩ | exact H.bel
    | true =>
      refine ve (And.intro eA (And.intro hc (hk))) ?_
      refine x_ld H sc39 ?_
      by_cases hn : (12 : Int) < (x.f_Net.length : Int)
      · refine ve (And.intro hn (And.intro eA (And.intro hc (hk)))) ?_
        rw [worldOk_no fun hh => by have := hh.2.2.2.2.2.1; omega]
        first | exact ⟨rfl, H.bel⟩ | exact H.bel
      refine ve (And.intro eA (And.intro hc (And.intro hk (hn)))) ?_
      refine x_ld H sc40 ?_
      refine ve (And.intro eA (And.intro hc (And.intro hk (hn)))) ?_
      refine x_ld H sc3 ?_
      by_cases hl : (x.f_Sent.length : Int) = x.f_Count
      rotate_left
      · refine ve (And.intro hl (And.intro eA (And.intro hc (And.intro hk (hn))))) ?_
        rw [worldOk_no fun hh => hl hh.2.2.2.2.2.2.1]
        first | exact ⟨rfl, H.bel⟩ | exact H.bel
      have el : ((x.f_Sent.length : Int) = x.f_Count) = True := eq_true hl
      refine ve (And.intro eA (And.intro hc (And.intro hk (And.intro hn (el))))) ?_
      refine x_ld H sc39 ?_
      refine vs ?_
      refine x_callb H (containsFuncW_ok w3 _ x.f_Net (fun y => !wireOk y) 68 #[] #[] (H.rd hN0) en68 fun w' es y hb hy hr => by rw [arr1]; exact wokW_ok w' es y hr (by have := (hs.2.2.2.1.2 y hy).1.1; omega)) fun w4 H => ?_
      rw [any_not]
      cases hw : x.f_Net.all wireOk with
      | false =>
        refine vs ?_
        rw [worldOk_no fun hh => by have := hh.2.2.2.2.2.2.2.1; rw [hw] at this; cases this]
        first | exact ⟨rfl, H.bel⟩ | exact H.bel
      | true =>
        refine vs ?_
        refine x_ld H sc40 ?_
        refine vs ?_
        refine x_callb H (containsFuncS_ok w4 _ x.f_Sent (fun y => !sentOk y) 71 #[] #[] (H.rd hS0) en71 fun w' es y hb hy hr => by rw [arr1]; exact wokS_ok w' es y hr (by have := (hs.2.2.2.2.2 y hy).1; omega)) fun w5 H => ?_
        rw [any_not]
        refine vs ?_
        have e : worldOk x = x.f_Sent.all sentOk := by
          unfold worldOk
          rw [decide_eq_true (show x.f_Seed.length = 32 by omega), decide_eq_true hc, decide_eq_true hk, hp, hq, decide_eq_true (show x.f_Net.length ≤ 12 by omega), decide_eq_true hl, hw]; rfl
        rw [e]
        cases x.f_Sent.all sentOk <;> first | exact ⟨rfl, H.bel⟩ | exact H.bel

theorem kItem_of0 {w : World} {n : Nat} {v : Value} {r b : List UInt8} (h1 : r.length ≤ 9223372036854775807) (h : (bytes 5).rd w n [v] b) : kItem.rd w n [.string ⟨r.toArray⟩, .int .i64 0, .int .i64 0, v] ⟨r, 0, 0, b⟩ :=
  ⟨[_], _, rfl, ⟨rfl, h1⟩, [_], _, rfl, ⟨rfl, by show (-9223372036854775808 : Int) ≤ 0 ∧ (0 : Int) < 9223372036854775808; decide⟩, [_], _, rfl, ⟨rfl, by show (-9223372036854775808 : Int) ≤ 0 ∧ (0 : Int) < 9223372036854775808; decide⟩, h⟩
theorem wireOk_p {x : MWire} (hp : x.f_ToPost = true) (h : ¬ (itemOk x.f_Item = true ∧ x.f_Bytes.length = 0)) : wireOk x = false := by
  rw [wireOk_post hp, Bool.eq_false_iff]; intro hh; simp only [Bool.and_eq_true, decide_eq_true_eq] at hh; exact h hh
theorem wireOk_r {x : MWire} (hp : x.f_ToPost = false) (h : ¬ (noItem x.f_Item = true ∧ x.f_Bytes.length ≤ 1560)) : wireOk x = false := by
  rw [wireOk_read hp, Bool.eq_false_iff]; intro hh; simp only [Bool.and_eq_true, decide_eq_true_eq] at hh; exact h hh
theorem all_bad {α : Type} {l : List α} {p : α → Bool} {i : Nat} (hi : i < l.length) (h : p l[i] = false) : l.all p = false := by
  rw [Bool.eq_false_iff]; intro ha
  rw [List.all_eq_true.1 ha _ (List.getElem_mem hi)] at h; cases h
theorem l17Net_ok (w : World) (v : Value) (l : List MWire) (h : wires.rd w w.heap.size [v] l) (hs : smWireS l) :
    ACalls Tryz.prog 58 #[v] w fun r w' => r = .bool (l.all wireOk && decide (l.length ≤ 12)) ∧ Below w.heap.size w w' := by
  have hlm := sl_len h
  obtain ⟨A, c, rfl, hc1, hc2, ha⟩ := sl_open h
  refine body_of follows Tryz.func58 rfl rfl _ rfl (by kernel_rfl) (vs ?_)
  refine loop_at (σ := Nat) (fun k => [(0, .slice A l.length c), (3, .int .i64 (k : Int))])
    (fun k w' => k ≤ l.length ∧ (∀ i (hi : i < l.length), i < k → wireOk l[i] = true) ∧ Sep w.heap.size w w' []) (fun k => l.length - k) 0 (vs trivial) ⟨Nat.zero_le _, fun i hi h => absurd h (Nat.not_lt_zero i), Sep.start w⟩ ?_
  rintro k s w2 ⟨hk, hall, H⟩
  refine vs (ways ?_ ?_)
  rotate_left
  · refine vh fun hlt => ?_
    have e : l.all wireOk = true := List.all_eq_true.2 fun y hy => by
      obtain ⟨i, hi, rfl⟩ := List.getElem_of_mem hy
      exact hall i hi (by omega)
    have e2 : decide ((l.length : Int) ≤ 12) = decide (l.length ≤ 12) := decide_eq_decide.2 (by omega)
    rw [e, Bool.true_and]
    first | exact ⟨congrArg Value.bool e2, H.bel⟩ | (rw [← e2]; exact ⟨rfl, H.bel⟩) | (rw [← e2]; exact H.bel)
  refine vh fun hlt => ?_
  have hk2 : k < l.length := by omega
  have hk3 : w64 ((k : Int) + 1) = ((k + 1 : Nat) : Int) := by have := hs.1; unfold w64; omega
  have no : wireOk l[k] = false → (l.all wireOk && decide (l.length ≤ 12)) = false := fun h => by rw [all_bad hk2 h]; rfl
  have go : wireOk l[k] = true → ∀ i (hi : i < l.length), i < k + 1 → wireOk l[i] = true := fun h i hi h3 => by
    by_cases h2 : i = k
    · subst h2; exact h
    · exact hall i hi (by omega)
  refine x_ele H sl39 rfl k hk2 ha rfl fun ad es hb1 hr hc' => vs ?_
  have hr : kWire.rd w w.heap.size es l[k] := hr
  have hr2 := hr
  obtain ⟨u4, u5, rfl, _, ri, r5⟩ := kWire_open hr2
  obtain ⟨u4', e4, _, _, _, r4⟩ := kItem_open ri
  simp only [List.cons.injEq, and_true, true_and] at e4
  subst e4
  obtain ⟨B4, d4, rfl, _⟩ := sl_open r4
  obtain ⟨B5, d5, rfl, _⟩ := sl_open r5
  refine x_lds st88 hc' (Kd.len _ hr) (vs ?_)
  refine x_al H st88 fun g5 w6 H => vs ?_
  refine x_sta H st88 (vs := [.bool l[k].f_ToPost, .string ⟨l[k].f_Item.f_Route.toArray⟩, .int .i64 l[k].f_Item.f_Topic, .int .i64 l[k].f_Item.f_Due, .slice B4 l[k].f_Item.f_Bytes.length d4, .slice B5 l[k].f_Bytes.length d5]) (h1 := Kd.one _ hr) fun w7 H => vs ?_
  have hrt : l[k].f_Item.f_Route.length ≤ 1099511627776 := by have := (hs.2 _ (List.getElem_mem hk2)).1.1; omega
  refine x_ld H sc9 ?_
  by_cases n1 : l[k].f_Item.f_Route = []
  rotate_left
  · have hno : noItem l[k].f_Item = false := by unfold noItem; rw [decide_eq_false n1]; rfl
    refine ve (n1) ?_
    refine x_ld H sc4 ?_
    cases hp : l[k].f_ToPost with
    | true =>
      rw [hp] at H
      refine ve (And.intro hp (n1)) ?_
      refine x_ldp H [.string ⟨l[k].f_Item.f_Route.toArray⟩, .int .i64 l[k].f_Item.f_Topic, .int .i64 l[k].f_Item.f_Due, .slice B4 l[k].f_Item.f_Bytes.length d4] st81 ?_
      refine ve (And.intro hp (n1)) ?_
      refine x_callb H (specItemOk_ok w7 _ l[k].f_Item (H.rd ri) hrt) fun w8 H => ?_
      cases ho : itemOk l[k].f_Item with
      | false =>
        refine ve (And.intro hp (n1)) ?_
        rw [no (wireOk_p hp fun hh => by rw [hh.1] at ho; cases ho)]
        first | exact ⟨rfl, H.bel⟩ | exact H.bel
      | true =>
        refine ve (And.intro hp (n1)) ?_
        refine x_ld H sc22 ?_
        by_cases hb : (0 : Int) < (l[k].f_Bytes.length : Int)
        · refine ve (And.intro hb (And.intro hp (n1))) ?_
          rw [no (wireOk_p hp fun hh => by omega)]
          first | exact ⟨rfl, H.bel⟩ | exact H.bel
        refine ve (And.intro hb (And.intro hp (n1))) ?_
        refine x_ld H sc4 ?_
        refine ve (And.intro hb (And.intro hp (n1))) ?_
        exact ⟨k + 1, i64_eq hk3, ⟨hk2, go (by rw [wireOk_post hp, ho, decide_eq_true (show l[k].f_Bytes.length = 0 by omega)]; rfl), H.tail⟩, by omega⟩
    | false =>
      rw [hp] at H
      refine ve (And.intro hp (n1)) ?_
      refine x_ld H sc4 ?_
      refine ve (And.intro hp (n1)) ?_
      rw [no (wireOk_r hp fun hh => by rw [hno] at hh; exact absurd hh.1 (by decide))]
      first | exact ⟨rfl, H.bel⟩ | exact H.bel
  have fqn1 : (l[k].f_Item.f_Route = []) = True := eq_true n1
  refine ve (fqn1) ?_
  refine x_ld H sc3 ?_
  by_cases n2 : l[k].f_Item.f_Topic = 0
  rotate_left
  · have hno : noItem l[k].f_Item = false := by unfold noItem; rw [decide_eq_false n2]; simp
    refine ve (And.intro n2 (fqn1)) ?_
    refine x_ld H sc4 ?_
    cases hp : l[k].f_ToPost with
    | true =>
      rw [hp] at H
      refine ve (And.intro hp (And.intro n2 (fqn1))) ?_
      refine x_ldp H [.string ⟨l[k].f_Item.f_Route.toArray⟩, .int .i64 l[k].f_Item.f_Topic, .int .i64 l[k].f_Item.f_Due, .slice B4 l[k].f_Item.f_Bytes.length d4] st81 ?_
      refine ve (And.intro hp (And.intro n2 (fqn1))) ?_
      refine x_callb H (specItemOk_ok w7 _ l[k].f_Item (H.rd ri) hrt) fun w8 H => ?_
      cases ho : itemOk l[k].f_Item with
      | false =>
        refine ve (And.intro hp (And.intro n2 (fqn1))) ?_
        rw [no (wireOk_p hp fun hh => by rw [hh.1] at ho; cases ho)]
        first | exact ⟨rfl, H.bel⟩ | exact H.bel
      | true =>
        refine ve (And.intro hp (And.intro n2 (fqn1))) ?_
        refine x_ld H sc22 ?_
        by_cases hb : (0 : Int) < (l[k].f_Bytes.length : Int)
        · refine ve (And.intro hb (And.intro hp (And.intro n2 (fqn1)))) ?_
          rw [no (wireOk_p hp fun hh => by omega)]
          first | exact ⟨rfl, H.bel⟩ | exact H.bel
        refine ve (And.intro hb (And.intro hp (And.intro n2 (fqn1)))) ?_
        refine x_ld H sc4 ?_
        refine ve (And.intro hb (And.intro hp (And.intro n2 (fqn1)))) ?_
        exact ⟨k + 1, i64_eq hk3, ⟨hk2, go (by rw [wireOk_post hp, ho, decide_eq_true (show l[k].f_Bytes.length = 0 by omega)]; rfl), H.tail⟩, by omega⟩
    | false =>
      rw [hp] at H
      refine ve (And.intro hp (And.intro n2 (fqn1))) ?_
      refine x_ld H sc4 ?_
      refine ve (And.intro hp (And.intro n2 (fqn1))) ?_
      rw [no (wireOk_r hp fun hh => by rw [hno] at hh; exact absurd hh.1 (by decide))]
      first | exact ⟨rfl, H.bel⟩ | exact H.bel
  have fqn2 : (l[k].f_Item.f_Topic = 0) = True := eq_true n2
  refine ve (And.intro fqn2 (fqn1)) ?_
  refine x_ld H sc3 ?_
  by_cases n3 : l[k].f_Item.f_Due = 0
  rotate_left
  · have hno : noItem l[k].f_Item = false := by unfold noItem; rw [decide_eq_false n3]; simp
    refine ve (And.intro n3 (And.intro fqn2 (fqn1))) ?_
    refine x_ld H sc4 ?_
    cases hp : l[k].f_ToPost with
    | true =>
      rw [hp] at H
      refine ve (And.intro hp (And.intro n3 (And.intro fqn2 (fqn1)))) ?_
      refine x_ldp H [.string ⟨l[k].f_Item.f_Route.toArray⟩, .int .i64 l[k].f_Item.f_Topic, .int .i64 l[k].f_Item.f_Due, .slice B4 l[k].f_Item.f_Bytes.length d4] st81 ?_
      refine ve (And.intro hp (And.intro n3 (And.intro fqn2 (fqn1)))) ?_
      refine x_callb H (specItemOk_ok w7 _ l[k].f_Item (H.rd ri) hrt) fun w8 H => ?_
      cases ho : itemOk l[k].f_Item with
      | false =>
        refine ve (And.intro hp (And.intro n3 (And.intro fqn2 (fqn1)))) ?_
        rw [no (wireOk_p hp fun hh => by rw [hh.1] at ho; cases ho)]
        first | exact ⟨rfl, H.bel⟩ | exact H.bel
      | true =>
        refine ve (And.intro hp (And.intro n3 (And.intro fqn2 (fqn1)))) ?_
        refine x_ld H sc22 ?_
        by_cases hb : (0 : Int) < (l[k].f_Bytes.length : Int)
        · refine ve (And.intro hb (And.intro hp (And.intro n3 (And.intro fqn2 (fqn1))))) ?_
          rw [no (wireOk_p hp fun hh => by omega)]
          first | exact ⟨rfl, H.bel⟩ | exact H.bel
        refine ve (And.intro hb (And.intro hp (And.intro n3 (And.intro fqn2 (fqn1))))) ?_
        refine x_ld H sc4 ?_
        refine ve (And.intro hb (And.intro hp (And.intro n3 (And.intro fqn2 (fqn1))))) ?_
        exact ⟨k + 1, i64_eq hk3, ⟨hk2, go (by rw [wireOk_post hp, ho, decide_eq_true (show l[k].f_Bytes.length = 0 by omega)]; rfl), H.tail⟩, by omega⟩
    | false =>
      rw [hp] at H
      refine ve (And.intro hp (And.intro n3 (And.intro fqn2 (fqn1)))) ?_
      refine x_ld H sc4 ?_
      refine ve (And.intro hp (And.intro n3 (And.intro fqn2 (fqn1)))) ?_
      rw [no (wireOk_r hp fun hh => by rw [hno] at hh; exact absurd hh.1 (by decide))]
      first | exact ⟨rfl, H.bel⟩ | exact H.bel
  have fqn3 : (l[k].f_Item.f_Due = 0) = True := eq_true n3
  refine ve (And.intro fqn3 (And.intro fqn2 (fqn1))) ?_
  refine x_ld H sc22 ?_
  by_cases n4 : (l[k].f_Item.f_Bytes.length : Int) = 0
  rotate_left
  · have hno : noItem l[k].f_Item = false := by unfold noItem; rw [decide_eq_false (show ¬ l[k].f_Item.f_Bytes.length = 0 by omega)]; simp
    refine ve (And.intro n4 (And.intro fqn3 (And.intro fqn2 (fqn1)))) ?_
    refine x_ld H sc4 ?_
    cases hp : l[k].f_ToPost with
    | true =>
      rw [hp] at H
      refine ve (And.intro hp (And.intro n4 (And.intro fqn3 (And.intro fqn2 (fqn1))))) ?_
      refine x_ldp H [.string ⟨l[k].f_Item.f_Route.toArray⟩, .int .i64 l[k].f_Item.f_Topic, .int .i64 l[k].f_Item.f_Due, .slice B4 l[k].f_Item.f_Bytes.length d4] st81 ?_
      refine ve (And.intro hp (And.intro n4 (And.intro fqn3 (And.intro fqn2 (fqn1))))) ?_
      refine x_callb H (specItemOk_ok w7 _ l[k].f_Item (H.rd ri) hrt) fun w8 H => ?_
      cases ho : itemOk l[k].f_Item with
      | false =>
        refine ve (And.intro hp (And.intro n4 (And.intro fqn3 (And.intro fqn2 (fqn1))))) ?_
        rw [no (wireOk_p hp fun hh => by rw [hh.1] at ho; cases ho)]
        first | exact ⟨rfl, H.bel⟩ | exact H.bel
      | true =>
        refine ve (And.intro hp (And.intro n4 (And.intro fqn3 (And.intro fqn2 (fqn1))))) ?_
        refine x_ld H sc22 ?_
        by_cases hb : (0 : Int) < (l[k].f_Bytes.length : Int)
        · refine ve (And.intro hb (And.intro hp (And.intro n4 (And.intro fqn3 (And.intro fqn2 (fqn1)))))) ?_
          rw [no (wireOk_p hp fun hh => by omega)]
          first | exact ⟨rfl, H.bel⟩ | exact H.bel
        refine ve (And.intro hb (And.intro hp (And.intro n4 (And.intro fqn3 (And.intro fqn2 (fqn1)))))) ?_
        refine x_ld H sc4 ?_
        refine ve (And.intro hb (And.intro hp (And.intro n4 (And.intro fqn3 (And.intro fqn2 (fqn1)))))) ?_
        exact ⟨k + 1, i64_eq hk3, ⟨hk2, go (by rw [wireOk_post hp, ho, decide_eq_true (show l[k].f_Bytes.length = 0 by omega)]; rfl), H.tail⟩, by omega⟩
    | false =>
      rw [hp] at H
      refine ve (And.intro hp (And.intro n4 (And.intro fqn3 (And.intro fqn2 (fqn1))))) ?_
      refine x_ld H sc4 ?_
      refine ve (And.intro hp (And.intro n4 (And.intro fqn3 (And.intro fqn2 (fqn1))))) ?_
      rw [no (wireOk_r hp fun hh => by rw [hno] at hh; exact absurd hh.1 (by decide))]
      first | exact ⟨rfl, H.bel⟩ | exact H.bel
  have fqn4 : ((l[k].f_Item.f_Bytes.length : Int) = 0) = True := eq_true n4
  have hno : noItem l[k].f_Item = true := by unfold noItem; rw [decide_eq_true n1, decide_eq_true n2, decide_eq_true n3, decide_eq_true (show l[k].f_Item.f_Bytes.length = 0 by omega)]; rfl
  refine ve (And.intro fqn4 (And.intro fqn3 (And.intro fqn2 (fqn1)))) ?_
  refine x_ld H sc4 ?_
  cases hp : l[k].f_ToPost with
  | true =>
    rw [hp] at H
    refine ve (And.intro hp (And.intro fqn4 (And.intro fqn3 (And.intro fqn2 (fqn1))))) ?_
    refine x_ldp H [.string ⟨l[k].f_Item.f_Route.toArray⟩, .int .i64 l[k].f_Item.f_Topic, .int .i64 l[k].f_Item.f_Due, .slice B4 l[k].f_Item.f_Bytes.length d4] st81 ?_
    refine ve (And.intro hp (And.intro fqn4 (And.intro fqn3 (And.intro fqn2 (fqn1))))) ?_
    refine x_callb H (specItemOk_ok w7 _ l[k].f_Item (H.rd ri) hrt) fun w8 H => ?_
    cases ho : itemOk l[k].f_Item with
    | false =>
      refine ve (And.intro hp (And.intro fqn4 (And.intro fqn3 (And.intro fqn2 (fqn1))))) ?_
      rw [no (wireOk_p hp fun hh => by rw [hh.1] at ho; cases ho)]
      first | exact ⟨rfl, H.bel⟩ | exact H.bel
    | true =>
      refine ve (And.intro hp (And.intro fqn4 (And.intro fqn3 (And.intro fqn2 (fqn1))))) ?_
      refine x_ld H sc22 ?_
      by_cases hb : (0 : Int) < (l[k].f_Bytes.length : Int)
      · refine ve (And.intro hb (And.intro hp (And.intro fqn4 (And.intro fqn3 (And.intro fqn2 (fqn1)))))) ?_
        rw [no (wireOk_p hp fun hh => by omega)]
        first | exact ⟨rfl, H.bel⟩ | exact H.bel
      refine ve (And.intro hb (And.intro hp (And.intro fqn4 (And.intro fqn3 (And.intro fqn2 (fqn1)))))) ?_
      refine x_ld H sc4 ?_
      refine ve (And.intro hb (And.intro hp (And.intro fqn4 (And.intro fqn3 (And.intro fqn2 (fqn1)))))) ?_
      exact ⟨k + 1, i64_eq hk3, ⟨hk2, go (by rw [wireOk_post hp, ho, decide_eq_true (show l[k].f_Bytes.length = 0 by omega)]; rfl), H.tail⟩, by omega⟩
  | false =>
    rw [hp] at H
    refine ve (And.intro hp (And.intro fqn4 (And.intro fqn3 (And.intro fqn2 (fqn1))))) ?_
    refine x_ld H sc4 ?_
    refine ve (And.intro hp (And.intro fqn4 (And.intro fqn3 (And.intro fqn2 (fqn1))))) ?_
    refine x_ld H sc22 ?_
    by_cases hb : (1560 : Int) < (l[k].f_Bytes.length : Int)
    · refine ve (And.intro hb (And.intro hp (And.intro fqn4 (And.intro fqn3 (And.intro fqn2 (fqn1)))))) ?_
      rw [no (wireOk_r hp fun hh => by omega)]
      first | exact ⟨rfl, H.bel⟩ | exact H.bel
    refine ve (And.intro hb (And.intro hp (And.intro fqn4 (And.intro fqn3 (And.intro fqn2 (fqn1)))))) ?_
    exact ⟨k + 1, i64_eq hk3, ⟨hk2, go (by rw [wireOk_read hp, hno, decide_eq_true (show l[k].f_Bytes.length ≤ 1560 by omega)]; rfl), H.tail⟩, by omega⟩

theorem specWorldOk_ok (w : World) (cs : List Value) (x : MWorld) (h : kWorld.rd w w.heap.size cs x) (hs : smWorld x) :
    ACalls Tryz.prog 12 #[.agg cs.toArray] w fun r w' => r = .bool (worldOk x) ∧ Below w.heap.size w w' := by
  unfold smWorld at hs
  obtain ⟨v0, v3, v5, v7, v9, v10, v11, v12, rfl, h0, hC, hK, hP, hR, hN, hS⟩ := kWorld_open h
  have hN0 := hN
  have hS0 := hS
  have hlN := sl_len hN
  have hlS := sl_len hS
  obtain ⟨A0, c0, rfl, _⟩ := sl_open h0
  obtain ⟨A11, c11, rfl, _, _, haN⟩ := sl_open hN
  obtain ⟨A12, c12, rfl, _, _, haS⟩ := sl_open hS
  have H := Sep.start w
  refine body_of follows Tryz.func12 rfl rfl _ rfl (by kernel_rfl) (vs ?_)
  refine x_bx H [.slice A0 x.f_Seed.length c0, .int .i64 x.f_Count, .int .i64 x.f_Known, v3, .int .i64 x.f_Post.f_Time, v5, .int .i64 x.f_Post.f_Sure, v7, .int .i64 x.f_Reader.f_Epoch, v9, v10, .slice A11 x.f_Net.length c11, .slice A12 x.f_Sent.length c12] fun g1 w1 H => vs ?_
  refine x_ld H sc22 ?_
  by_cases hA : (x.f_Seed.length : Int) = 32
  rotate_left
  · refine ve (hA) ?_
    rw [worldOk_no fun hh => hA (by have := hh.1; omega)]
    first | exact ⟨rfl, H.bel⟩ | exact H.bel
  have eA : ((x.f_Seed.length : Int) = 32) = True := eq_true hA
  refine ve (eA) ?_
  refine x_ld H sc3 ?_
  refine ve (eA) ?_
  refine x_callw (l1In_ok w1 _ _ _) ?_
  by_cases hc : 0 ≤ x.f_Count ∧ x.f_Count ≤ 12
  rotate_left
  · refine ve (And.intro hc (eA)) ?_
    rw [worldOk_no fun hh => hc hh.2.1]
    first | exact ⟨rfl, H.bel⟩ | exact H.bel
  refine ve (And.intro eA (hc)) ?_
  refine x_ld H sc3 ?_
  refine ve (And.intro eA (hc)) ?_
  refine x_callw (l1In_ok w1 _ _ _) ?_
  by_cases hk : 0 ≤ x.f_Known ∧ x.f_Known ≤ 40
  rotate_left
  · refine ve (And.intro hk (And.intro eA (hc))) ?_
    rw [worldOk_no fun hh => hk hh.2.2.1]
    first | exact ⟨rfl, H.bel⟩ | exact H.bel
  refine ve (And.intro eA (And.intro hc (hk))) ?_
  refine x_ldp H [v3, .int .i64 x.f_Post.f_Time, v5, .int .i64 x.f_Post.f_Sure] st37 ?_
  refine ve (And.intro eA (And.intro hc (hk))) ?_
  refine x_callb H (specPostOk_ok w1 _ x.f_Post (H.rd hP) hs.2.1) fun w2 H => ?_
  cases hp : postOk x.f_Post with
  | false =>
    refine ve (And.intro eA (And.intro hc (hk))) ?_
    rw [worldOk_no fun hh => by have := hh.2.2.2.1; rw [hp] at this; cases this]
    first | exact ⟨rfl, H.bel⟩ | exact H.bel
  | true =>
    refine ve (And.intro eA (And.intro hc (hk))) ?_
    refine x_ldp H [v7, .int .i64 x.f_Reader.f_Epoch, v9, v10] st38 ?_
    refine ve (And.intro eA (And.intro hc (hk))) ?_
    refine x_callb H (specReaderOk_ok w2 _ x.f_Reader (H.rd hR)) fun w3 H => ?_
    cases hq : readerOk x.f_Reader with
    | false =>
      refine ve (And.intro eA (And.intro hc (hk))) ?_
      rw [worldOk_no fun hh => by have := hh.2.2.2.2.1; rw [hq] at this; cases this]
      first | exact ⟨rfl, H.bel⟩ | exact H.bel
    | true =>
      refine ve (And.intro eA (And.intro hc (hk))) ?_
      refine x_ld H sc39 ?_
      refine ve (And.intro eA (And.intro hc (hk))) ?_
      refine x_callb H (l17Net_ok w3 _ x.f_Net (H.rd hN0) hs.2.2.2.1) fun w4 H => ?_
      cases hn : (x.f_Net.all wireOk && decide (x.f_Net.length ≤ 12)) with
      | false =>
        refine ve (And.intro eA (And.intro hc (hk))) ?_
        rw [worldOk_no fun hh => by rw [hh.2.2.2.2.2.2.2.1, decide_eq_true hh.2.2.2.2.2.1] at hn; cases hn]
        first | exact ⟨rfl, H.bel⟩ | exact H.bel
      | true =>
        simp only [Bool.and_eq_true, decide_eq_true_eq] at hn
        refine ve (And.intro eA (And.intro hc (hk))) ?_
        refine x_ld H sc40 ?_
        refine ve (And.intro eA (And.intro hc (hk))) ?_
        refine x_ld H sc3 ?_
        by_cases hl : (x.f_Sent.length : Int) = x.f_Count
        rotate_left
        · refine ve (And.intro hl (And.intro eA (And.intro hc (hk)))) ?_
          rw [worldOk_no fun hh => hl hh.2.2.2.2.2.2.1]
          first | exact ⟨rfl, H.bel⟩ | exact H.bel
        have el : ((x.f_Sent.length : Int) = x.f_Count) = True := eq_true hl
        refine ve (And.intro eA (And.intro hc (And.intro hk (el)))) ?_
        refine loop_at (σ := Nat) (fun k => [(1, .pointer (some ⟨g1, 0, none⟩)), (3, .int .i64 (k : Int))])
          (fun k w' => k ≤ x.f_Sent.length ∧ (∀ i (hi : i < x.f_Sent.length), i < k → sentOk x.f_Sent[i] = true) ∧ Sep w.heap.size w w' [Ck.box g1 [.slice A0 x.f_Seed.length c0, .int .i64 x.f_Count, .int .i64 x.f_Known, v3, .int .i64 x.f_Post.f_Time, v5, .int .i64 x.f_Post.f_Sure, v7, .int .i64 x.f_Reader.f_Epoch, v9, v10, .slice A11 x.f_Net.length c11, .slice A12 x.f_Sent.length c12] 42]) (fun k => x.f_Sent.length - k) 0 (vs trivial) ⟨Nat.zero_le _, fun i hi h => absurd h (Nat.not_lt_zero i), H⟩ ?_
        rintro k s w5 ⟨hkl, hall, H⟩
        refine vs ?_
        refine x_ld H sc40 ?_
        refine vs (ways ?_ ?_)
        · refine vh fun hlt => ?_
          have hk2 : k < x.f_Sent.length := by omega
          refine x_ld H sc40 ?_
          refine vs ?_
          refine x_ele H sl40 rfl k hk2 haS rfl fun ad es hb1 hr hc' => vs ?_
          have hr : kSent.rd w w.heap.size es x.f_Sent[k] := hr
          have hr2 := hr
          obtain ⟨u2, u3, rfl, r0, r1, r2, r3⟩ := kSent_open hr2
          have r3' := r3
          obtain ⟨B2, d2, rfl, _⟩ := sl_open r2
          obtain ⟨B3, d3, rfl, _⟩ := sl_open r3
          refine x_lds st78 hc' (Kd.len _ hr) (vs ?_)
          refine x_al H st78 fun g5 w6 H => vs ?_
          refine x_sta H st78 (vs := [.string ⟨x.f_Sent[k].f_Route.toArray⟩, .int .i64 x.f_Sent[k].f_Epoch, .slice B2 x.f_Sent[k].f_Note.length d2, .slice B3 x.f_Sent[k].f_Bytes.length d3]) (h1 := Kd.one _ hr) fun w7 H => vs ?_
          refine x_ld H sc9 ?_
          refine vs ?_
          refine x_ld H sc22 ?_
          refine vs ?_
          refine x_build bl81 [.string ⟨x.f_Sent[k].f_Route.toArray⟩, .int .i64 0, .int .i64 0, .slice B3 x.f_Sent[k].f_Bytes.length d3] ?_
          refine vs ?_
          refine x_callb H (specItemOk_ok w7 _ ⟨x.f_Sent[k].f_Route, 0, 0, x.f_Sent[k].f_Bytes⟩ (kItem_of0 r0 (H.rd r3')) (by have := (hs.2.2.2.2.2 _ (List.getElem_mem hk2)).1; dsimp only; omega)) fun w8 H => ?_
          have eI : itemOk ⟨x.f_Sent[k].f_Route, 0, 0, x.f_Sent[k].f_Bytes⟩ = (isRoute x.f_Sent[k].f_Route && decide (x.f_Sent[k].f_Bytes.length ≤ 1560)) := by
            unfold itemOk; simp
          cases hi : itemOk ⟨x.f_Sent[k].f_Route, 0, 0, x.f_Sent[k].f_Bytes⟩ with
          | false =>
            rw [hi] at eI
            refine vs ?_
            rw [worldOk_no fun hh => by
              have := sentOk_iff.1 (List.all_eq_true.1 hh.2.2.2.2.2.2.2.2 _ (List.getElem_mem hk2))
              rw [this.2.1, decide_eq_true this.2.2.1] at eI
              cases eI]
            first | exact ⟨rfl, H.bel⟩ | exact H.bel
          | true =>
            rw [hi] at eI
            have eI2 := eI.symm
            simp only [Bool.and_eq_true, decide_eq_true_eq] at eI2
            refine vs ?_
            refine x_ld H sc22 ?_
            by_cases hn2 : (200 : Int) < (x.f_Sent[k].f_Note.length : Int)
            · refine ve hn2 ?_
              rw [worldOk_no fun hh => by
                have := sentOk_iff.1 (List.all_eq_true.1 hh.2.2.2.2.2.2.2.2 _ (List.getElem_mem hk2))
                omega]
              first | exact ⟨rfl, H.bel⟩ | exact H.bel
            refine ve hn2 ?_
            refine x_ld H sc3 ?_
            refine ve hn2 ?_
            refine x_callw (l1In_ok w8 _ _ _) ?_
            by_cases he : 0 ≤ x.f_Sent[k].f_Epoch ∧ x.f_Sent[k].f_Epoch ≤ 40
            rotate_left
            · refine ve (And.intro he hn2) ?_
              rw [worldOk_no fun hh => by
                have := sentOk_iff.1 (List.all_eq_true.1 hh.2.2.2.2.2.2.2.2 _ (List.getElem_mem hk2))
                exact he this.2.2.2]
              first | exact ⟨rfl, H.bel⟩ | exact H.bel
            refine ve (And.intro he hn2) ?_
            refine ⟨k + 1, i64_eq (by have := hs.2.2.2.2.1; unfold w64; omega), ⟨hk2, fun i hi h => ?_, H.tail⟩, by omega⟩
            by_cases h2 : i = k
            · subst h2; exact sentOk_iff.2 ⟨by omega, eI2.1, eI2.2, he⟩
            · exact hall i hi (by omega)
        · refine vh fun hlt => ?_
          have e : worldOk x = true := worldOk_iff.2 ⟨by omega, hc, hk, hp, hq, hn.2, hl, hn.1, List.all_eq_true.2 fun y hy => by
            obtain ⟨i, hi, rfl⟩ := List.getElem_of_mem hy
            exact hall i hi (by omega)⟩
          rw [e]
          first | exact ⟨rfl, H.bel⟩ | exact H.bel

end Go.Proofs.YtfhbglaigjekpaaGreat.V
