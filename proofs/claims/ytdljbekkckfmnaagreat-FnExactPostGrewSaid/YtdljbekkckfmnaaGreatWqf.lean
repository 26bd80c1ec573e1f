/- Items looked for, sifted and held against each other by a function that is handed over. -/
import Derived.Test.YtdljbekkckfmnaaGreatWqi
namespace Go.Proofs.YtdljbekkckfmnaaGreat.V
open Go Go.RowKit
set_option maxRecDepth 100000
set_option maxHeartbeats 4000000
set_option linter.unusedSimpArgs false
set_option linter.unusedVariables false
set_option pp.deepTerms false
set_option pp.deepTerms.threshold 3

/-- The first of a list with a property, told by a closure. -/
theorem indexFuncI_ok (w : World) (v : Value) (l : List MItem) (p : MItem → Bool) (f : FuncId) (fs cs : Array Value) (h : items.rd w w.heap.size [v] l) (hf : entersB Tryz.prog f = true)
    (hc : ∀ w' es x, Below w.heap.size w w' → kItem.rd w' w'.heap.size es x → ACalls Tryz.prog f (fs ++ #[.agg es.toArray] ++ cs) w' fun r w'' => r = .bool (p x) ∧ Below w'.heap.size w' w'') :
    ACalls Tryz.prog 114 #[v, .func (.func f) fs cs] w fun r w' => ((∃ k : Nat, ∃ hk : k < l.length, r = .int .i64 k ∧ p l[k] = true ∧ ∀ i (hi : i < l.length), i < k → p l[i] = false) ∨ (r = .int .i64 (-1) ∧ ∀ i (hi : i < l.length), p l[i] = false)) ∧ Below w.heap.size w w' := by
  have hlm := sl_len h
  obtain ⟨A, c, rfl, hc1, hc2, ha⟩ := sl_open h
  refine body_of follows Tryz.func114 rfl rfl _ rfl (by kernel_rfl) (vs ?_)
  refine loop_at (σ := Nat) (fun k => [(0, .slice A l.length c), (1, .func (.func f) fs cs), (7, .int .i64 (l.length : Int)), (8, .int .i64 (k : Int))])
    (fun k w' => k ≤ l.length ∧ (∀ i (hi : i < l.length), i < k → p l[i] = false) ∧ Sep w.heap.size w w' []) (fun k => l.length - k) 0 (vs trivial) ⟨Nat.zero_le _, fun i hi h => absurd h (Nat.not_lt_zero i), Sep.start w⟩ ?_
  rintro k s w2 ⟨hk, hall, H⟩
  refine vs (ways ?_ ?_)
  · refine vh fun hlt => ?_
    have hk2 : k < l.length := by omega
    refine x_elg sl24 rfl (ha.mono H.bel) (by omega) hlt fun ad es hb hr hc' => vs ?_
    have hr : kItem.rd w2 w.heap.size es l[k] := hr
    refine x_lds st32 hc' (Kd.len _ hr) (vs ?_)
    refine x_callv hf (hc w2 es _ H.bel (Kd.le _ hr H.ns)) fun _ w3 ⟨e3, hb3⟩ => ?_
    subst e3
    have H := H.go hb3
    refine vs (ways ?_ ?_)
    · refine vh fun hp => ?_
      exact ⟨.inl ⟨k, hk2, rfl, hp, hall⟩, H.bel⟩
    · refine vh fun hp => ?_
      refine ⟨k + 1, i64_eq (by unfold w64; omega), ⟨hk2, fun i hi h => ?_, H⟩, by omega⟩
      by_cases h2 : i = k
      · subst h2; simpa using hp
      · exact hall i hi (by omega)
  · refine vh fun hlt => ?_
    exact ⟨.inr fun i hi => hall i hi (by omega), H.bel⟩
theorem containsFuncI_ok (w : World) (v : Value) (l : List MItem) (p : MItem → Bool) (f : FuncId) (fs cs : Array Value) (h : items.rd w w.heap.size [v] l) (hf : entersB Tryz.prog f = true)
    (hc : ∀ w' es x, Below w.heap.size w w' → kItem.rd w' w'.heap.size es x → ACalls Tryz.prog f (fs ++ #[.agg es.toArray] ++ cs) w' fun r w'' => r = .bool (p x) ∧ Below w'.heap.size w' w'') :
    ACalls Tryz.prog 125 #[v, .func (.func f) fs cs] w fun r w' => r = .bool (l.any p) ∧ Below w.heap.size w w' := by
  refine body_of follows Tryz.func125 rfl rfl _ rfl (by kernel_rfl) (vs ?_)
  refine x_call (indexFuncI_ok w v l p f fs cs h hf hc) fun _ w2 ⟨hr, hb⟩ => ?_
  rcases hr with ⟨k, hk, rfl, hp, _⟩ | ⟨rfl, hno⟩
  · refine vs ?_
    have e : l.any p = true := List.any_eq_true.2 ⟨l[k], List.getElem_mem hk, hp⟩
    rw [e]
    exact ⟨by simp, hb⟩
  · refine vs ?_
    have e : l.any p = false := by
      rw [Bool.eq_false_iff]
      intro ha
      obtain ⟨y, hy, hp⟩ := List.any_eq_true.1 ha
      obtain ⟨i, hi, rfl⟩ := List.getElem_of_mem hy
      rw [hno i hi] at hp; cases hp
    rw [e]
    exact ⟨by simp, hb⟩

theorem filter_take_all {α : Type} {l : List α} {q : α → Bool} {k : Nat} (h : ∀ i (hi : i < l.length), i < k → q l[i] = true) : (l.take k).filter q = l.take k := by
  rw [List.filter_eq_self]
  intro y hy
  obtain ⟨i, hi, rfl⟩ := List.getElem_of_mem hy
  rw [List.length_take] at hi
  rw [List.getElem_take]
  exact h i (by omega) (by omega)
theorem own_atI {n : Nat} {w0 w : World} {L : List Ck} {α : Type} {d : Kd α} {e : TypeId} {fp : List Nat} {A : Option Addr} {m c : Nat} {l : List α} (H : Sep n w0 w (Ck.own (Kd.slice e d) fp [.slice A m c] l :: L)) (hl : 0 < l.length) : ∃ g, A = some ⟨g, 0, none⟩ := by
  obtain ⟨v', rows, fs, hv, hr⟩ := (show (Kd.slice e d).ow w fp [.slice A m c] l from H.ok _ (.head _))
  simp only [List.cons.injEq, and_true] at hv
  subst hv
  rcases hr.row.2 with ⟨h1, h2⟩ | ⟨g', cap, cur, h1, _⟩
  · omega
  · cases h1; exact ⟨g', rfl⟩
section
variable {P : Program} {w : World} {K : Value → World → Prop} {tg : Tg K} {t e sz by_ : Nat} {z : Value}
theorem sliced_hiI {A : Option Addr} {hi c sz : Nat} : sliced A 0 hi c sz = .slice A hi c := by
  unfold sliced
  rw [Nat.zero_mul]
  cases A with
  | none => simp
  | some a => simp [Addr.add]
theorem x_hiR (HS : SlT P t e sz by_ z) {A : Option Addr} {m c hi : Nat} {k : IntKind} (hm : hi ≤ c) (h : K (.slice A hi c) w) : VS P K tg (Instr.sliceAt t (.slice A m c) none (some (.int k (hi : Int))) none) w :=
  vS_run (by have := (run_sub (w := w) HS (A := A) (n := m) (k := .i64) (k' := k) (lo := 0)).2.1 hm; rw [sliced_hiI] at this; exact this) h
theorem x_loR (HS : SlT P t e sz by_ z) {g m c lo : Nat} {k : IntKind} (hm : lo ≤ m) (hc : lo < c) (h : K (.slice (some ⟨g, lo * sz, none⟩) (m - lo) (c - lo)) w) : VS P K tg (Instr.sliceAt t (.slice (some ⟨g, 0, none⟩) m c) (some (.int k (lo : Int))) none none) w := by
  refine vS_run ((run_sub HS (k' := .i64) (hi := 0)).2.2 hm) ?_
  have e : sliced (some ⟨g, 0, none⟩) lo m c sz = .slice (some ⟨g, lo * sz, none⟩) (m - lo) (c - lo) := by
    unfold sliced
    rw [if_neg (by omega), Option.map_some, Kd.add_plain]
  rw [e]; exact h
/-- The address of an element, whatever lies there. -/
theorem x_ixR (HS : SlT P t e sz by_ z) {g m c i : Nat} {k : IntKind} (hi : i < m) (h : K (.pointer (some ⟨g, i * sz, none⟩)) w) : VS P K tg (Instr.indexAt t (.slice (some ⟨g, 0, none⟩) m c) (.int k (i : Int))) w := by
  refine x_index HS rfl (Int.natCast_nonneg _) (by omega) ?_
  rw [Int.toNat_natCast, adA_some, Kd.add_plain]
  exact h
end
theorem take_filter {α : Type} {l : List α} {q : α → Bool} {j : Nat} (hj : j < l.length) : (l.take (j + 1)).filter q = (l.take j).filter q ++ (if q l[j] = true then [l[j]] else []) := by
  rw [List.take_succ_eq_append_getElem hj, List.filter_append]
  congr 1
  by_cases h : q l[j] = true
  · simp [h]
  · simp [h]
end Go.Proofs.YtdljbekkckfmnaaGreat.V
