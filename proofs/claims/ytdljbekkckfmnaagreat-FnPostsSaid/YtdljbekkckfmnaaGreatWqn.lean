/- Items looked for, sifted and held against each other by a function that is handed over. Items sifted by a function that is handed over. An item taken out; the functions that are handed over. Queues judged, put to, taken from, cleared of what is over: both sides. Queues cleared of what is over, taken from, held against each other: both sides. -/
import Derived.Test.YtdljbekkckfmnaaGreatWqi
import Derived.Test.YtdljbekkckfmnaaGreatWsa
namespace Go.Proofs.YtdljbekkckfmnaaGreat.V
open Go Go.RowKit
set_option maxRecDepth 100000
set_option maxHeartbeats 4000000
set_option linter.unusedSimpArgs false
set_option linter.unusedVariables false
set_option pp.deepTerms false
set_option pp.deepTerms.threshold 3

/-- The first of a list with a property, told by a closure. -/
theorem indexFuncI_ok (w : World) (v : Value) (l : List MItem) (p : MItem → Bool) (f : FuncId) (fs cs : Array Value) (h : items.rd w w.heap.size [v] l) (hf : entersB Tryz.prog f = true)
    (hc : ∀ w' es x, Below w.heap.size w w' → kItem.rd w' w'.heap.size es x → ACalls Tryz.prog f (fs ++ #[.agg es.toArray] ++ cs) w' fun r w'' => r = .bool (p x) ∧ Below w'.heap.size w' w'') :
    ACalls Tryz.prog 114 #[v, .func (.func f) fs cs] w fun r w' => ((∃ k : Nat, ∃ hk : k < l.length, r = .int .i64 k ∧ p l[k] = true ∧ ∀ i (hi : i < l.length), i < k → p l[i] = false) ∨ (r = .int .i64 (-1) ∧ ∀ i (hi : i < l.length), p l[i] = false)) ∧ Below w.heap.size w w' := by
  have hlm := sl_len h
  obtain ⟨A, c, rfl, hc1, hc2, ha⟩ := sl_open h
  refine body_of follows Tryz.func114 rfl rfl _ rfl (by kernel_rfl) (vs ?_)
  refine loop_at (σ := Nat) (fun k => [(0, .slice A l.length c), (1, .func (.func f) fs cs), (7, .int .i64 (l.length : Int)), (8, .int .i64 (k : Int))])
    (fun k w' => k ≤ l.length ∧ (∀ i (hi : i < l.length), i < k → p l[i] = false) ∧ Sep w.heap.size w w' []) (fun k => l.length - k) 0 (vs trivial) ⟨Nat.zero_le _, fun i hi h => absurd h (Nat.not_lt_zero i), Sep.start w⟩ ?_
  rintro k s w2 ⟨hk, hall, H⟩
  refine vs (ways ?_ ?_)
  · refine vh fun hlt => ?_
    have hk2 : k < l.length := by omega
    refine x_elg sl24 rfl (ha.mono H.bel) (by omega) hlt fun ad es hb hr hc' => vs ?_
    have hr : kItem.rd w2 w.heap.size es l[k] := hr
    refine x_lds st32 hc' (Kd.len _ hr) (vs ?_)
    refine x_callv hf (hc w2 es _ H.bel (Kd.le _ hr H.ns)) fun _ w3 ⟨e3, hb3⟩ => ?_
    subst e3
    have H := H.go hb3
    refine vs (ways ?_ ?_)
    · refine vh fun hp => ?_
      exact ⟨.inl ⟨k, hk2, rfl, hp, hall⟩, H.bel⟩
    · refine vh fun hp => ?_
      refine ⟨k + 1, i64_eq (by unfold w64; omega), ⟨hk2, fun i hi h => ?_, H⟩, by omega⟩
      by_cases h2 : i = k
      · subst h2; simpa using hp
      · exact hall i hi (by omega)
  · refine vh fun hlt => ?_
    exact ⟨.inr fun i hi => hall i hi (by omega), H.bel⟩
theorem containsFuncI_ok (w : World) (v : Value) (l : List MItem) (p : MItem → Bool) (f : FuncId) (fs cs : Array Value) (h : items.rd w w.heap.size [v] l) (hf : entersB Tryz.prog f = true)
    (hc : ∀ w' es x, Below w.heap.size w w' → kItem.rd w' w'.heap.size es x → ACalls Tryz.prog f (fs ++ #[.agg es.toArray] ++ cs) w' fun r w'' => r = .bool (p x) ∧ Below w'.heap.size w' w'') :
    ACalls Tryz.prog 125 #[v, .func (.func f) fs cs] w fun r w' => r = .bool (l.any p) ∧ Below w.heap.size w w' := by
  refine body_of follows Tryz.func125 rfl rfl _ rfl (by kernel_rfl) (vs ?_)
  refine x_call (indexFuncI_ok w v l p f fs cs h hf hc) fun _ w2 ⟨hr, hb⟩ => ?_
  rcases hr with ⟨k, hk, rfl, hp, _⟩ | ⟨rfl, hno⟩
  · refine vs ?_
    have e : l.any p = true := List.any_eq_true.2 ⟨l[k], List.getElem_mem hk, hp⟩
    rw [e]
    exact ⟨by simp, hb⟩
  · refine vs ?_
    have e : l.any p = false := by
      rw [Bool.eq_false_iff]
      intro ha
      obtain ⟨y, hy, hp⟩ := List.any_eq_true.1 ha
      obtain ⟨i, hi, rfl⟩ := List.getElem_of_mem hy
      rw [hno i hi] at hp; cases hp
    rw [e]
    exact ⟨by simp, hb⟩

theorem filter_take_all {α : Type} {l : List α} {q : α → Bool} {k : Nat} (h : ∀ i (hi : i < l.length), i < k → q l[i] = true) : (l.take k).filter q = l.take k := by
  rw [List.filter_eq_self]
  intro y hy
  obtain ⟨i, hi, rfl⟩ := List.getElem_of_mem hy
  rw [List.length_take] at hi
  rw [List.getElem_take]
  exact h i (by omega) (by omega)
theorem own_atI {n : Nat} {w0 w : World} {L : List Ck} {α : Type} {d : Kd α} {e : TypeId} {fp : List Nat} {A : Option Addr} {m c : Nat} {l : List α} (H : Sep n w0 w (Ck.own (Kd.slice e d) fp [.slice A m c] l :: L)) (hl : 0 < l.length) : ∃ g, A = some ⟨g, 0, none⟩ := by
  obtain ⟨v', rows, fs, hv, hr⟩ := (show (Kd.slice e d).ow w fp [.slice A m c] l from H.ok _ (.head _))
  simp only [List.cons.injEq, and_true] at hv
  subst hv
  rcases hr.row.2 with ⟨h1, h2⟩ | ⟨g', cap, cur, h1, _⟩
  · omega
  · cases h1; exact ⟨g', rfl⟩
section
variable {P : Program} {w : World} {K : Value → World → Prop} {tg : Tg K} {t e sz by_ : Nat} {z : Value}
theorem sliced_hiI {A : Option Addr} {hi c sz : Nat} : sliced A 0 hi c sz = .slice A hi c := by
  unfold sliced
  rw [Nat.zero_mul]
  cases A with
  | none => simp
  | some a => simp [Addr.add]
theorem x_hiR (HS : SlT P t e sz by_ z) {A : Option Addr} {m c hi : Nat} {k : IntKind} (hm : hi ≤ c) (h : K (.slice A hi c) w) : VS P K tg (Instr.sliceAt t (.slice A m c) none (some (.int k (hi : Int))) none) w :=
  vS_run (by have := (run_sub (w := w) HS (A := A) (n := m) (k := .i64) (k' := k) (lo := 0)).2.1 hm; rw [sliced_hiI] at this; exact this) h
theorem x_loR (HS : SlT P t e sz by_ z) {g m c lo : Nat} {k : IntKind} (hm : lo ≤ m) (hc : lo < c) (h : K (.slice (some ⟨g, lo * sz, none⟩) (m - lo) (c - lo)) w) : VS P K tg (Instr.sliceAt t (.slice (some ⟨g, 0, none⟩) m c) (some (.int k (lo : Int))) none none) w := by
  refine vS_run ((run_sub HS (k' := .i64) (hi := 0)).2.2 hm) ?_
  have e : sliced (some ⟨g, 0, none⟩) lo m c sz = .slice (some ⟨g, lo * sz, none⟩) (m - lo) (c - lo) := by
    unfold sliced
    rw [if_neg (by omega), Option.map_some, Kd.add_plain]
  rw [e]; exact h
/-- The address of an element, whatever lies there. -/
theorem x_ixR (HS : SlT P t e sz by_ z) {g m c i : Nat} {k : IntKind} (hi : i < m) (h : K (.pointer (some ⟨g, i * sz, none⟩)) w) : VS P K tg (Instr.indexAt t (.slice (some ⟨g, 0, none⟩) m c) (.int k (i : Int))) w := by
  refine x_index HS rfl (Int.natCast_nonneg _) (by omega) ?_
  rw [Int.toNat_natCast, adA_some, Kd.add_plain]
  exact h
end
theorem take_filter {α : Type} {l : List α} {q : α → Bool} {j : Nat} (hj : j < l.length) : (l.take (j + 1)).filter q = (l.take j).filter q ++ (if q l[j] = true then [l[j]] else []) := by
  rw [List.take_succ_eq_append_getElem hj, List.filter_append]
  congr 1
  by_cases h : q l[j] = true
  · simp [h]
  · simp [h]

/-- Elements with a property taken out of an owned list, in place. -/
theorem deleteFuncI_ok {n : Nat} {w0 w : World} {L : List Ck} {fp : List Nat} {v : Value} {l : List MItem} (p : MItem → Bool) (f : FuncId) (fs cs : Array Value) (H : Sep n w0 w (Ck.own items fp [v] l :: L)) (hl : l.length ≤ 1048576) (hf : entersB Tryz.prog f = true)
    (hc : ∀ w' es x, Sep n w0 w' L → kItem.rd w' w'.heap.size es x → ACalls Tryz.prog f (fs ++ #[.agg es.toArray] ++ cs) w' fun r w'' => r = .bool (p x) ∧ Below w'.heap.size w' w'') :
    ACalls Tryz.prog 110 #[v, .func (.func f) fs cs] w fun r w' => ∃ fp', Sep n w0 w' (Ck.own items fp' [r] (l.filter fun x => !p x) :: L) := by
  have hrd := H.own (.head _)
  obtain ⟨A, c, rfl, hc1, hc2, ha⟩ := sl_open hrd
  refine body_of follows Tryz.func110 rfl rfl _ rfl (by kernel_rfl) (vs ?_)
  refine x_call (indexFuncI_ok w _ l p f fs cs hrd hf fun w' es x hb hr => hc w' es x (H.tail.go hb) hr) fun _ w2 ⟨hr, hb⟩ => ?_
  have H := H.go hb
  rcases hr with ⟨i0, hi0, rfl, hp0, hn0⟩ | ⟨rfl, hno⟩
  · refine ve (show ¬ ((i0 : Int) = -1) by omega) ?_
    obtain ⟨g, rfl⟩ := own_atI H (by omega)
    obtain ⟨rs, hrs, _, H⟩ := H.siftStart i0 (i0 + 1) (by omega) (by omega)
    have hrl : rs.length = l.length := by rw [← hrs, List.length_map]
    have hget : ∀ i (h1 : i < rs.length) (h2 : i < l.length), rs[i].2.2 = l[i] := fun i h1 h2 => by subst hrs; simp
    have hk0 : rs.take i0 = (rs.take (i0 + 1)).filter fun r => !p r.2.2 := by
      rw [take_filter (by omega), hget i0 (by omega) hi0, hp0, filter_take_all fun i h1 h2 => by rw [hget i h1 (by omega), hn0 i (by omega) h2]; rfl]
      simp
    rw [hk0] at H
    have ei : (i0 : Int) = (((rs.take (i0 + 1)).filter fun r => !p r.2.2).length : Int) := by rw [← hk0, List.length_take]; omega
    refine ve (show w64 ((i0 : Int) + 1) = ((i0 + 1 : Nat) : Int) by unfold w64; omega) ?_
    refine loop_at (σ := Nat) (fun j => [(0, .slice (some ⟨g, 0, none⟩) l.length c), (1, .func (.func f) fs cs), (5, .int .i64 (((rs.take j).filter fun r => !p r.2.2).length : Int)), (6, .int .i64 (j : Int))])
      (fun j w' => i0 + 1 ≤ j ∧ j ≤ l.length ∧ ((rs.take j).filter fun r => !p r.2.2).length < j ∧ Sep n w0 w' (Ck.sift 32 kItem g c rs ((rs.take j).filter fun r => !p r.2.2) j :: L)) (fun j => l.length - j) (i0 + 1) (vs ?_) ⟨Nat.le_refl _, hi0, by rw [← hk0, List.length_take]; omega, H⟩ ?_
    · exact i64_eq ei
    rintro j s w3 ⟨hj0, hj, hjl, H⟩
    refine vs (ways ?_ ?_)
    · refine vh fun hlt => ?_
      have hj2 : j < rs.length := by omega
      have hel := H.siftEl (List.getElem_mem hj2)
      have hcell := fun q (hq : q < kItem.sz) => H.siftCell hj2 q hq
      refine x_ixR sl24 (by omega) ?_
      refine vs ?_
      obtain ⟨u, eu, q0, q1, q2, q3⟩ := kItem_open hel
      have hone := Kd.one _ hel
      refine x_lds st32 (es := [.string ⟨(rs[j].2.2.f_Route).toArray⟩, .int .i64 rs[j].2.2.f_Topic, .int .i64 rs[j].2.2.f_Due, u]) (fun q hq => by rw [Kd.add_at, ← eu]; exact hcell q hq) rfl (vs ?_)
      refine x_al H st32 fun g5 w4 H => vs ?_
      refine x_sta H st32 (vs := [.string ⟨(rs[j].2.2.f_Route).toArray⟩, .int .i64 rs[j].2.2.f_Topic, .int .i64 rs[j].2.2.f_Due, u]) (h1 := by rw [← eu]; exact hone) fun w5 H => vs ?_
      have H : Sep n w0 w5 (Ck.box g5 [.string ⟨(rs[j].2.2.f_Route).toArray⟩, .int .i64 rs[j].2.2.f_Topic, .int .i64 rs[j].2.2.f_Due, u] 32 :: _) := H
      refine x_lda H st32 ?_
      refine vs ?_
      have hel5 := H.tail.siftEl (List.getElem_mem hj2)
      rw [eu] at hel5
      refine x_callv hf (hc w5 _ _ H.tail.tail hel5) fun _ w6 ⟨e6, hb6⟩ => ?_
      subst e6
      have H := H.go hb6
      have htf := take_filter (q := fun r : List Value × List Nat × MItem => !p r.2.2) hj2
      refine vs (ways ?_ ?_)
      · refine vh fun hp => ?_
        rw [if_pos (by rw [hp]; rfl)] at htf
        refine x_lda H st32 ?_
        refine vs ?_
        refine x_ixR sl24 (by omega) ?_
        refine vs ?_
        rw [← eu]
        refine x_siftPut st32 rfl H.tail hj2 (by omega) fun w7 H => vs ?_
        refine ⟨j + 1, ⟨i64_eq ?_, i64_eq (by unfold w64; omega)⟩, ⟨by omega, by omega, ?_, ?_⟩, by omega⟩
        · rw [htf, List.length_append, List.length_cons, List.length_nil]; unfold w64; omega
        · rw [htf, List.length_append, List.length_cons, List.length_nil]; omega
        · rw [htf]; exact H
      · refine vh fun hp => ?_
        rw [if_neg (by simp only [Bool.not_eq_true'] at hp ⊢; exact hp), List.append_nil] at htf
        refine ⟨j + 1, ⟨by rw [htf], i64_eq (by unfold w64; omega)⟩, ⟨by omega, by omega, by rw [htf]; omega, by rw [htf]; exact H.tail.siftSkip hj2⟩, by omega⟩
    · refine vh fun hlt => ?_
      have hsub : ((rs.take j).filter fun r => !p r.2.2).Sublist rs := List.filter_sublist.trans (List.take_sublist ..)
      have hmf : ((rs.take j).filter fun r => !p r.2.2).map (·.2.2) = l.filter fun x => !p x := by
        rw [List.take_of_length_le (by omega), ← hrs, List.filter_map]; rfl
      obtain ⟨fp', H⟩ := H.siftEnd hsub
      rw [hmf] at H
      generalize ((rs.take j).filter fun r => !p r.2.2).length = i at *
      refine x_loR sl24 (lo := i) (by omega) (by omega) ?_
      refine vs ?_
      refine x_clrB sl24 rfl (by decide) H (by omega) (by omega) fun fp7 w7 H => vs ?_
      refine x_hiR sl24 (hi := i) (by omega) ?_
      refine vs ?_
      exact ⟨_, H⟩
  · refine vs ?_
    have e : (l.filter fun x => !p x) = l := by
      rw [List.filter_eq_self]
      intro y hy
      obtain ⟨i, hi, rfl⟩ := List.getElem_of_mem hy
      rw [hno i hi]; rfl
    rw [e]
    exact ⟨_, H⟩


theorem x_lhmI {P : Program} {w : World} {K : Value → World → Prop} {tg : Tg K} {t e sz by_ : Nat} {z : Value} (HS : SlT P t e sz by_ z) {A : Option Addr} {m c : Nat} {k k' k'' : IntKind} {lo hi mx : Nat} (h1 : lo ≤ hi) (h2 : hi ≤ mx) (h3 : mx ≤ c) (h : ∀ v, K v w) :
    VS P K tg (Instr.sliceAt t (.slice A m c) (some (.int k (lo : Int))) (some (.int k' (hi : Int))) (some (.int k'' (mx : Int)))) w := by
  obtain ⟨i, hi', hs, _⟩ := HS.inf
  have he := elem_of HS.un
  have hu : P.underlying t = some (.slice (P.elem t)) := by rw [he]; exact HS.un
  have hsz : (sizeOf (P.elem t)).run P w = .ok sz w := by rw [he]; exact run_sizeOf' hi' hs
  refine vS_run (v := sliced A lo hi mx sz) ?_ (h _)
  rw [run_sliceAt_slice w t _ _ _ _ hu, run_slice_lhm w t A m c hu k k' k'' lo hi mx (by omega) (by omega) (by omega) (by omega), hsz]; rfl
section
variable {P : Program} {w : World} {K : Value → World → Prop} {KQ : Value → Prop} {tg : Tg K} {t e sz by_ : Nat} {z : Value}
theorem q_hiI {mm : Nat} {G : List (Nat × Nat)} {tq : Tg (mm, G, w, KQ)} (HS : SlT P t e sz by_ z) {A : Option Addr} {m c hi : Nat} {k : IntKind} (hm : hi ≤ c) (h : KQ (.slice A hi c)) : QS P mm G w KQ tq (Instr.sliceAt t (.slice A m c) none (some (.int k (hi : Int))) none) :=
  QS_of (v := .slice A hi c) (fun w _ => by have := (run_sub (w := w) HS (A := A) (n := m) (k := .i64) (k' := k) (lo := 0)).2.1 hm; rw [sliced_hiI] at this; exact this) h
theorem q_loI {mm : Nat} {G : List (Nat × Nat)} {tq : Tg (mm, G, w, KQ)} (HS : SlT P t e sz by_ z) {A : Option Addr} {m c lo : Nat} {k : IntKind} (hm : lo ≤ m) (h : KQ (sliced A lo m c sz)) : QS P mm G w KQ tq (Instr.sliceAt t (.slice A m c) (some (.int k (lo : Int))) none none) :=
  QS_of (fun w _ => (run_sub HS (k' := .i64) (hi := 0)).2.2 hm) h
theorem x_midI (HS : SlT P t e sz by_ z) {g m c lo hi : Nat} {k k' : IntKind} (h1 : lo ≤ hi) (h2 : hi ≤ c) (h3 : lo < c) (h : K (.slice (some ⟨g, lo * sz, none⟩) (hi - lo) (c - lo)) w) : VS P K tg (Instr.sliceAt t (.slice (some ⟨g, 0, none⟩) m c) (some (.int k (lo : Int))) (some (.int k' (hi : Int))) none) w := by
  refine vS_run ((run_sub HS).1 h1 h2) ?_
  have e : sliced (some ⟨g, 0, none⟩) lo hi c sz = .slice (some ⟨g, lo * sz, none⟩) (hi - lo) (c - lo) := by
    unfold sliced
    rw [if_neg (by omega), Option.map_some, Kd.add_plain]
  rw [e]; exact h
end
theorem deleteI_ok {n : Nat} {w0 w : World} {L : List Ck} {fp : List Nat} {v : Value} {l : List MItem} (i : Nat) (H : Sep n w0 w (Ck.own items fp [v] l :: L)) (hi : i < l.length) (hl : l.length ≤ 1048576) :
    ACalls Tryz.prog 116 #[v, .int .i64 (i : Int), .int .i64 ((i + 1 : Nat) : Int)] w fun r w' => ∃ fp', Sep n w0 w' (Ck.own items fp' [r] (l.eraseIdx i) :: L) := by
  obtain ⟨A, c, rfl, hc1, hc2, ha⟩ := sl_open (H.own (.head _))
  obtain ⟨g, rfl⟩ := own_atI H (by omega)
  refine body_of follows Tryz.func116 rfl rfl _ rfl (by kernel_rfl) (vs ?_)
  refine x_lhmI sl24 (lo := i) (hi := i + 1) (mx := l.length) (by omega) (by omega) (by omega) fun v => vs ?_
  refine ve (show ¬ ((i : Int) = ((i + 1 : Nat) : Int)) by omega) ?_
  refine draw_of [(0, true), (1, true), (2, true), (3, true), (4, true), (5, true), (6, false), (7, true)] n [] fun w5 hh hb5 => vs ?_
  have H := H.go (hb5 _)
  have H5 := H
  refine q_hiI sl24 (by omega) ?_
  refine vs ?_
  refine q_loI sl24 (lo := i + 1) (by omega) ?_
  refine vs ?_
  refine x_delA sl24 rfl i H hi fun fp6 w6 H => vs ?_
  refine ⟨kept_base H5 H, ?_⟩
  have hel : (l.eraseIdx i).length = l.length - 1 := by rw [List.length_eraseIdx, if_pos hi]
  refine x_midI sl24 (lo := l.length - 1) (hi := l.length) (by omega) (by omega) (by omega) ?_
  refine vs ?_
  refine x_clrB sl24 rfl (by decide) H (by omega) (by omega) fun fp7 w7 H => vs ?_
  exact ⟨_, H⟩

/-! ### closures -/
theorem cell_ltI {w : World} {p : Addr} {v : Value} (h : w.cell? p = some v) : p.block < w.heap.size := by
  unfold World.cell? at h
  cases e : w.heap[p.block]? with
  | none => rw [e] at h; simp at h
  | some _ => exact (Array.getElem?_eq_some_iff.1 e).1
theorem implPut1_ok (w : World) (es : List Value) (g : Nat) (y x : MItem) (h : kItem.rd w w.heap.size es y) (hg0 : w.cell? ⟨g, 0, none⟩ = some (.string ⟨x.f_Route.toArray⟩)) (hg1 : w.cell? ⟨g, 1, none⟩ = some (.int .i64 x.f_Topic)) :
    ACalls Tryz.prog 111 (#[] ++ #[.agg es.toArray] ++ #[.pointer (some ⟨g, 0, none⟩)]) w fun r w' => r = .bool (twin x y) ∧ Below w.heap.size w w' := by
  obtain ⟨u, rfl, q0, q1, q2, q3⟩ := kItem_open h
  have H := Sep.start w
  refine body_of (args := [.agg #[.string ⟨(y.f_Route).toArray⟩, .int .i64 y.f_Topic, .int .i64 y.f_Due, u], .pointer (some ⟨g, 0, none⟩)]) follows Tryz.func111 rfl rfl _ rfl (by kernel_rfl) (vs ?_)
  refine x_bx H [.string ⟨(y.f_Route).toArray⟩, .int .i64 y.f_Topic, .int .i64 y.f_Due, u] fun g1 w1 H => vs ?_
  refine x_ld H sc9 ?_
  refine vs ?_
  refine x_load sc9 ((H.bel.cell (cell_ltI hg0)).trans hg0) (vs ?_)
  by_cases hr : y.f_Route = x.f_Route
  · refine ve (show (y.f_Route = x.f_Route) = True from eq_true hr) ?_
    refine x_ld H sc3 ?_
    refine ve (show (y.f_Route = x.f_Route) = True from eq_true hr) ?_
    refine x_load sc3 ((H.bel.cell (cell_ltI hg1)).trans hg1) ?_
    refine ve (show (y.f_Route = x.f_Route) = True from eq_true hr) ?_
    have : twin x y = decide (y.f_Topic = x.f_Topic) := by unfold twin; rw [decide_eq_true hr, Bool.true_and]
    rw [this]
    exact ⟨rfl, H.bel⟩
  · refine ve hr ?_
    have : twin x y = false := by unfold twin; rw [decide_eq_false hr]; rfl
    rw [this]
    exact ⟨rfl, H.bel⟩
theorem implQueueOk1_ok (w : World) (es : List Value) (g : Nat) (y x : MItem) (h : kItem.rd w w.heap.size es y) (hg0 : w.cell? ⟨g, 0, none⟩ = some (.string ⟨x.f_Route.toArray⟩)) (hg1 : w.cell? ⟨g, 1, none⟩ = some (.int .i64 x.f_Topic)) :
    ACalls Tryz.prog 126 (#[] ++ #[.agg es.toArray] ++ #[.pointer (some ⟨g, 0, none⟩)]) w fun r w' => r = .bool (twin x y) ∧ Below w.heap.size w w' := by
  obtain ⟨u, rfl, q0, q1, q2, q3⟩ := kItem_open h
  have H := Sep.start w
  refine body_of (args := [.agg #[.string ⟨(y.f_Route).toArray⟩, .int .i64 y.f_Topic, .int .i64 y.f_Due, u], .pointer (some ⟨g, 0, none⟩)]) follows Tryz.func126 rfl rfl _ rfl (by kernel_rfl) (vs ?_)
  refine x_bx H [.string ⟨(y.f_Route).toArray⟩, .int .i64 y.f_Topic, .int .i64 y.f_Due, u] fun g1 w1 H => vs ?_
  refine x_ld H sc9 ?_
  refine vs ?_
  refine x_load sc9 ((H.bel.cell (cell_ltI hg0)).trans hg0) (vs ?_)
  by_cases hr : y.f_Route = x.f_Route
  · refine ve (show (y.f_Route = x.f_Route) = True from eq_true hr) ?_
    refine x_ld H sc3 ?_
    refine ve (show (y.f_Route = x.f_Route) = True from eq_true hr) ?_
    refine x_load sc3 ((H.bel.cell (cell_ltI hg1)).trans hg1) ?_
    refine ve (show (y.f_Route = x.f_Route) = True from eq_true hr) ?_
    have : twin x y = decide (y.f_Topic = x.f_Topic) := by unfold twin; rw [decide_eq_true hr, Bool.true_and]
    rw [this]
    exact ⟨rfl, H.bel⟩
  · refine ve hr ?_
    have : twin x y = false := by unfold twin; rw [decide_eq_false hr]; rfl
    rw [this]
    exact ⟨rfl, H.bel⟩
theorem implDue1_ok (w : World) (es : List Value) (g : Nat) (y : MItem) (now : Int) (h : kItem.rd w w.heap.size es y) (hg0 : w.cell? ⟨g, 0, none⟩ = some (.int .i64 now)) :
    ACalls Tryz.prog 117 (#[] ++ #[.agg es.toArray] ++ #[.pointer (some ⟨g, 0, none⟩)]) w fun r w' => r = .bool (decide (y.f_Due < now)) ∧ Below w.heap.size w w' := by
  obtain ⟨u, rfl, q0, q1, q2, q3⟩ := kItem_open h
  have H := Sep.start w
  refine body_of (args := [.agg #[.string ⟨(y.f_Route).toArray⟩, .int .i64 y.f_Topic, .int .i64 y.f_Due, u], .pointer (some ⟨g, 0, none⟩)]) follows Tryz.func117 rfl rfl _ rfl (by kernel_rfl) (vs ?_)
  refine x_bx H [.string ⟨(y.f_Route).toArray⟩, .int .i64 y.f_Topic, .int .i64 y.f_Due, u] fun g1 w1 H => vs ?_
  refine x_ld H sc3 ?_
  refine vs ?_
  refine x_load sc3 ((H.bel.cell (cell_ltI hg0)).trans hg0) (vs ?_)
  exact H.bel
theorem implTake1_ok (w : World) (es : List Value) (g : Nat) (y : MItem) (r : List UInt8) (h : kItem.rd w w.heap.size es y) (hg0 : w.cell? ⟨g, 0, none⟩ = some (.string ⟨r.toArray⟩)) :
    ACalls Tryz.prog 115 (#[] ++ #[.agg es.toArray] ++ #[.pointer (some ⟨g, 0, none⟩)]) w fun q w' => q = .bool (hasR r y) ∧ Below w.heap.size w w' := by
  obtain ⟨u, rfl, q0, q1, q2, q3⟩ := kItem_open h
  have H := Sep.start w
  refine body_of (args := [.agg #[.string ⟨(y.f_Route).toArray⟩, .int .i64 y.f_Topic, .int .i64 y.f_Due, u], .pointer (some ⟨g, 0, none⟩)]) follows Tryz.func115 rfl rfl _ rfl (by kernel_rfl) (vs ?_)
  refine x_bx H [.string ⟨(y.f_Route).toArray⟩, .int .i64 y.f_Topic, .int .i64 y.f_Due, u] fun g1 w1 H => vs ?_
  refine x_ld H sc9 ?_
  refine vs ?_
  refine x_load sc9 ((H.bel.cell (cell_ltI hg0)).trans hg0) (vs ?_)
  exact ⟨rfl, H.bel⟩

theorem implQueueOk_ok (w : World) (v : Value) (l : List MItem) (h : items.rd w w.heap.size [v] l) (hs : smItemS l) :
    ACalls Tryz.prog 67 #[v] w fun q w' => q = .bool (queueOk l) ∧ Below w.heap.size w w' := by
  have hlm := sl_len h
  have h9 := h
  obtain ⟨A, c, rfl, hc1, hc2, ha⟩ := sl_open h
  refine body_of follows Tryz.func67 rfl rfl _ rfl (by kernel_rfl) (vs (ways ?_ ?_))
  · refine vh fun hgt => ?_
    rw [queueOk_long (by omega)]
    exact ⟨rfl, Below.refl ..⟩
  refine vh fun hle => ?_
  refine loop_at (σ := Nat) (fun k => [(0, .slice A l.length c), (8, .slice A l.length c), (9, .int .i64 (l.length : Int)), (10, .int .i64 (k : Int))])
    (fun k w' => k ≤ l.length ∧ (∀ i, i < k → qAt l i = true) ∧ Sep w.heap.size w w' []) (fun k => l.length - k) 0 (vs trivial) ⟨Nat.zero_le _, fun i h => absurd h (Nat.not_lt_zero i), Sep.start w⟩ ?_
  rintro k s w2 ⟨hk, hall, H⟩
  refine vs (ways ?_ ?_)
  · refine vh fun hlt => ?_
    have hk2 : k < l.length := by omega
    have hsm := hs.2 l[k] (List.getElem_mem hk2)
    unfold smItem at hsm
    have eit := itAt_eq hk2
    refine x_ele H sl24 rfl k hk2 ha rfl fun ad es hb hr hc => vs ?_
    obtain ⟨u, rfl, q0, q1, q2, q3⟩ := kItem_open hr
    refine x_lds st32 hc rfl (vs ?_)
    refine x_al H st32 fun g5 w3 H => vs ?_
    refine x_sta (vs := [.string ⟨(l[k].f_Route).toArray⟩, .int .i64 l[k].f_Topic, .int .i64 l[k].f_Due, u]) H st32 (h1 := Kd.one _ hr) fun w4 H => vs ?_
    refine x_lda H st32 ?_
    refine vs ?_
    refine x_callb H (implItemOk_ok w4 _ l[k] (H.rd hr) (by omega)) fun w5 H => ?_
    cases hok : itemOk l[k] with
    | false =>
      refine vs ?_
      rw [queueOk_bad hk2 (by unfold qAt; rw [eit, hok]; rfl)]
      exact ⟨rfl, H.bel⟩
    | true =>
      refine vs ?_
      refine x_ld H sc9 ?_
      refine vs ?_
      refine x_callb H (implOf_ok w5 _ l l[k].f_Route (H.rd h9)) fun w6 H => ?_
      by_cases h4 : (4 : Int) < (ofN l l[k].f_Route : Int)
      · refine ve h4 ?_
        rw [queueOk_bad hk2 (by unfold qAt; rw [eit, decide_eq_false (show ¬ ofN l l[k].f_Route ≤ 4 by omega)]; simp)]
        exact ⟨rfl, H.bel⟩
      · refine ve h4 ?_
        refine x_ld H sc3 ?_
        by_cases h0 : 0 < l[k].f_Topic
        · refine ve h0 ?_
          refine x_to sl24 rfl (H.rd h9) (hi := k) (by omega) fun v' hv' => ?_
          refine ve h0 ?_
          have hg := H.lt (.head _)
          have c0 := H.cell (.head _) 0
          have c1 := H.cell (.head _) 1
          refine x_callb H (containsFuncI_ok w6 v' (l.take k) (twin l[k]) 126 #[] #[.pointer (some ⟨g5, 0, none⟩)] hv' en126 (fun w' es y hb hr' => implQueueOk1_ok w' es g5 y l[k] hr' ((hb.cell (p := ⟨g5, 0, none⟩) hg).trans c0) ((hb.cell (p := ⟨g5, 1, none⟩) hg).trans c1))) fun w7 H => ?_
          cases ht : (l.take k).any (twin l[k]) with
          | true =>
            refine ve h0 ?_
            rw [queueOk_bad hk2 (by unfold qAt; rw [eit, ht, decide_eq_true h0]; simp)]
            exact ⟨rfl, H.bel⟩
          | false =>
            refine ve h0 ?_
            refine ⟨k + 1, i64_eq (by unfold w64; omega), ⟨hk2, fun i hi => ?_, H.none⟩, by omega⟩
            by_cases h2 : i = k
            · subst h2; unfold qAt; rw [eit, hok, ht, decide_eq_true (show ofN l l[i].f_Route ≤ 4 by omega)]; simp
            · exact hall i (by omega)
        · refine ve h0 ?_
          refine ⟨k + 1, i64_eq (by unfold w64; omega), ⟨hk2, fun i hi => ?_, H.none⟩, by omega⟩
          by_cases h2 : i = k
          · subst h2; unfold qAt; rw [eit, hok, decide_eq_false h0, decide_eq_true (show ofN l l[i].f_Route ≤ 4 by omega)]; simp
          · exact hall i (by omega)
  · refine vh fun hlt => ?_
    obtain rfl : k = l.length := by omega
    rw [queueOk_iff.2 ⟨by omega, hall⟩]
    exact ⟨rfl, H.bel⟩

theorem qAt_twin {l : List MItem} {k : Nat} (hk : k < l.length) (h0 : 0 < l[k].f_Topic) {j : Nat} (hj : j < k) (ht : twin l[k] (l[j]'(by omega)) = true) : qAt l k = false := by
  have e : (l.take k).any (twin l[k]) = true := List.any_eq_true.2 ⟨l[j]'(by omega), List.mem_take_iff_getElem.2 ⟨j, by omega, rfl⟩, ht⟩
  unfold qAt
  rw [itAt_eq hk, decide_eq_true h0, e]
  simp
theorem qAt_fine {l : List MItem} {k : Nat} (hk : k < l.length) (hok : itemOk l[k] = true) (h4 : ofN l l[k].f_Route ≤ 4) (ht : ∀ j (hj : j < k), ¬ (twin l[k] (l[j]'(by omega)) = true ∧ 0 < l[k].f_Topic)) : qAt l k = true := by
  unfold qAt
  rw [itAt_eq hk, hok, decide_eq_true h4]
  by_cases h0 : 0 < l[k].f_Topic
  · have e : (l.take k).any (twin l[k]) = false := by
      rw [Bool.eq_false_iff]
      intro ha
      obtain ⟨y, hy, hp⟩ := List.any_eq_true.1 ha
      obtain ⟨j, hj, rfl⟩ := List.mem_take_iff_getElem.1 hy
      exact ht j (by omega) ⟨hp, h0⟩
    rw [e]; simp
  · rw [decide_eq_false h0]; simp
theorem specQueueOk_ok (w : World) (v : Value) (l : List MItem) (h : items.rd w w.heap.size [v] l) (hs : smItemS l) :
    ACalls Tryz.prog 85 #[v] w fun q w' => q = .bool (queueOk l) ∧ Below w.heap.size w w' := by
  have hlm := sl_len h
  have h9 := h
  obtain ⟨A, c, rfl, hc1, hc2, ha⟩ := sl_open h
  refine body_of follows Tryz.func85 rfl rfl _ rfl (by kernel_rfl) (vs ?_)
  refine loop_at (σ := Nat) (fun k => [(0, .slice A l.length c), (3, .int .i64 (k : Int))])
    (fun k w' => k ≤ l.length ∧ (∀ i, i < k → qAt l i = true) ∧ Sep w.heap.size w w' []) (fun k => l.length - k) 0 (vs trivial) ⟨Nat.zero_le _, fun i h => absurd h (Nat.not_lt_zero i), Sep.start w⟩ ?_
  rintro k s w2 ⟨hk, hall, H⟩
  refine vs (ways ?_ ?_)
  · refine vh fun hlt => ?_
    have hk2 : k < l.length := by omega
    have hsm := hs.2 l[k] (List.getElem_mem hk2)
    unfold smItem at hsm
    have eit := itAt_eq hk2
    refine x_ele H sl24 rfl k hk2 ha rfl fun ad es hb hr hc => vs ?_
    refine x_lds st32 hc (Kd.len _ hr) (vs ?_)
    refine x_callb H (specItemOk_ok w2 _ l[k] (H.rd hr) (by omega)) fun w3 H => ?_
    cases hok : itemOk l[k] with
    | false =>
      refine vs ?_
      rw [queueOk_bad hk2 (by unfold qAt; rw [eit, hok]; rfl)]
      exact ⟨rfl, H.bel⟩
    | true =>
      refine vs ?_
      refine x_ele H sl24 rfl k hk2 ha rfl fun ad2 es2 hb2 hr2 hc2 => vs ?_
      obtain ⟨u2, rfl, _, _, _, _⟩ := kItem_open hr2
      refine x_lf0 sc9 hc2 (by decide) rfl ?_
      refine vs ?_
      refine x_callb H (specOf_ok w3 _ l l[k].f_Route (H.rd h9)) fun w4 H => ?_
      by_cases h4 : (4 : Int) < (ofN l l[k].f_Route : Int)
      · refine ve h4 ?_
        rw [queueOk_bad hk2 (by unfold qAt; rw [eit, decide_eq_false (show ¬ ofN l l[k].f_Route ≤ 4 by omega)]; simp)]
        exact ⟨rfl, H.bel⟩
      · refine ve h4 ?_
        refine loop_at (σ := Nat) (fun j => [(0, .slice A l.length c), (3, .int .i64 (k : Int)), (4, .int .i64 (j : Int))])
          (fun j w' => j ≤ k ∧ (∀ i (hi : i < k), i < j → ¬ (twin l[k] (l[i]'(by omega)) = true ∧ 0 < l[k].f_Topic)) ∧ Sep w.heap.size w w' []) (fun j => k - j) 0 (vs trivial) ⟨Nat.zero_le _, fun i hi h => absurd h (Nat.not_lt_zero i), H⟩ ?_
        rintro j s w5 ⟨hj, hno, H⟩
        refine vs (ways ?_ ?_)
        · refine vh fun hlt2 => ?_
          have hj2 : j < k := by omega
          have hj3 : j < l.length := by omega
          have goon : ¬ (twin l[k] l[j] = true ∧ 0 < l[k].f_Topic) → ∀ i (hi : i < k), i < j + 1 → ¬ (twin l[k] (l[i]'(by omega)) = true ∧ 0 < l[k].f_Topic) := fun h i hi h2 => by
            by_cases h3 : i = j
            · subst h3; exact h
            · exact hno i hi (by omega)
          refine draw_of [(0, true), (1, true), (2, true), (3, true), (4, true), (5, true), (6, true), (7, true), (8, true), (9, true), (10, true), (11, true), (12, true), (13, true), (14, true), (15, true), (16, true), (17, true), (18, true), (19, true), (20, true), (21, true), (22, true), (23, true), (24, true), (25, true), (26, true), (27, true), (28, true), (29, true), (30, true), (31, true)] w.heap.size [] fun w6 hh hb6 => vs ?_
          have H := H.go (hb6 _)
          refine q_ele H sl24 rfl j hj3 ha rfl fun ad es hb hr hc => vs ?_
          obtain ⟨u1, rfl, _, _, _, _⟩ := kItem_open hr
          refine q_lf0 sc9 hc (by decide) hb rfl ?_
          refine vs ?_
          refine q_ele H sl24 rfl k hk2 ha rfl fun ad es hb hr hc => vs ?_
          obtain ⟨u2, rfl, _, _, _, _⟩ := kItem_open hr
          refine q_lf0 sc9 hc (by decide) hb rfl ?_
          by_cases hR : l[j].f_Route = l[k].f_Route
          · have eR : (l[j].f_Route = l[k].f_Route) = True := eq_true hR
            refine ve eR ?_
            refine q_ele H sl24 rfl j hj3 ha rfl fun ad es hb hr hc => ve eR ?_
            obtain ⟨u1, rfl, _, _, _, _⟩ := kItem_open hr
            refine q_lfj (j := 1) sc3 hc (by decide) hb rfl ?_
            refine ve eR ?_
            refine q_ele H sl24 rfl k hk2 ha rfl fun ad es hb hr hc => ve eR ?_
            obtain ⟨u2, rfl, _, _, _, _⟩ := kItem_open hr
            refine q_lfj (j := 1) sc3 hc (by decide) hb rfl ?_
            by_cases hT : l[j].f_Topic = l[k].f_Topic
            · have eT : (l[j].f_Topic = l[k].f_Topic) = True := eq_true hT
              have htw : twin l[k] l[j] = true := by unfold twin; rw [decide_eq_true hR, decide_eq_true hT]; rfl
              refine ve (And.intro eR eT) ?_
              refine q_ele H sl24 rfl k hk2 ha rfl fun ad es hb hr hc => ve (And.intro eR eT) ?_
              obtain ⟨u2, rfl, _, _, _, _⟩ := kItem_open hr
              refine q_lfj (j := 1) sc3 hc (by decide) hb rfl ?_
              by_cases h0 : 0 < l[k].f_Topic
              · refine ve (And.intro (And.intro eR eT) h0) ?_
                rw [queueOk_bad hk2 (qAt_twin hk2 h0 hj2 htw)]
                exact ⟨rfl, H.bel⟩
              · refine ve (And.intro (And.intro eR eT) h0) ?_
                exact ⟨j + 1, i64_eq (by unfold w64; omega), ⟨hj2, by first | exact goon fun h => h0 h.2 | exact fun _ _ _ => trivial, H⟩, by omega⟩
            · refine ve (And.intro eR hT) ?_
              exact ⟨j + 1, i64_eq (by unfold w64; omega), ⟨hj2, goon fun h => hT (by have := h.1; unfold twin at this; simp only [Bool.and_eq_true, decide_eq_true_eq] at this; exact this.2), H⟩, by omega⟩
          · refine ve hR ?_
            exact ⟨j + 1, i64_eq (by unfold w64; omega), ⟨hj2, goon fun h => hR (by have := h.1; unfold twin at this; simp only [Bool.and_eq_true, decide_eq_true_eq] at this; exact this.1), H⟩, by omega⟩
        · refine vh fun hlt2 => ?_
          refine ⟨k + 1, i64_eq (by unfold w64; omega), ⟨hk2, fun i hi => ?_, H⟩, by omega⟩
          by_cases h2 : i = k
          · subst h2; exact qAt_fine hk2 hok (by omega) fun q hq => hno q hq (by omega)
          · exact hall i (by omega)
  · refine vh fun hlt => ?_
    obtain rfl : k = l.length := by omega
    refine ⟨?_, H.bel⟩
    have : queueOk l = decide ((l.length : Int) ≤ 10) := by
      by_cases hl : l.length ≤ 10
      · rw [queueOk_iff.2 ⟨hl, hall⟩]; exact (decide_eq_true (by omega)).symm
      · rw [queueOk_long hl]; exact (decide_eq_false (by omega)).symm
    rw [this]

/-! ### put -/
theorem sm_filter {q : List MItem} {p : MItem → Bool} (hs : smItemS q) : smItemS (q.filter p) :=
  ⟨Nat.le_trans (List.length_filter_le ..) hs.1, fun y hy => hs.2 y (List.mem_filter.1 hy).1⟩
theorem sm_put {q : List MItem} {x : MItem} (hs : smItemS q) (hx : smItem x) (hl : q.length ≤ 1000000) : smItemS (putL q x) := by
  refine ⟨by have := putL_len q x; omega, fun y hy => ?_⟩
  unfold putL at hy
  rcases List.mem_append.1 hy with hy | hy
  · exact hs.2 y (List.mem_filter.1 hy).1
  · rw [List.mem_singleton] at hy; subst hy; exact hx
theorem putL_low {q : List MItem} {x : MItem} (h : ¬ 0 < x.f_Topic) : putL q x = q ++ [x] := by
  unfold putL
  rw [List.filter_eq_self.2 fun y hy => by unfold keepP; rw [decide_eq_false h]; rfl]
theorem putL_high {q : List MItem} {x : MItem} (h : 0 < x.f_Topic) : putL q x = (q.filter fun y => !twin x y) ++ [x] := by
  unfold putL
  congr 1
  refine congrArg (fun f => List.filter f q) (funext fun y => ?_)
  unfold keepP
  rw [decide_eq_true h, Bool.true_and]
theorem put_yes {q : List MItem} {x : MItem} (h : queueOk (putL q x) = true) : put q x = (putL q x, true) := by unfold put; rw [if_pos h]
theorem put_no {q : List MItem} {x : MItem} (h : queueOk (putL q x) = false) : put q x = (q, false) := by unfold put; rw [if_neg (by rw [h]; decide)]
theorem implPut_ok (w : World) (v : Value) (q : List MItem) (cs : List Value) (x : MItem) (h : items.rd w w.heap.size [v] q) (hx : kItem.rd w w.heap.size cs x) (hs : smItemS q) (hsx : smItem x) (hl : q.length ≤ 1000000) :
    ACalls Tryz.prog 57 #[v, .agg cs.toArray] w fun r w' => ∃ v' fp, r = .tuple #[v', .bool (put q x).2] ∧ Sep w.heap.size w w' [Ck.own items fp [v'] (put q x).1] := by
  have hsp := sm_put hs hsx hl
  obtain ⟨u, rfl, q0, q1, q2, q3⟩ := kItem_open hx
  have H := Sep.start w
  refine body_of follows Tryz.func57 rfl rfl _ rfl (by kernel_rfl) (vs ?_)
  refine x_bx H [.string ⟨(x.f_Route).toArray⟩, .int .i64 x.f_Topic, .int .i64 x.f_Due, u] fun g1 w1 H => vs ?_
  refine x_callf H (cloneItems_ok w1 v q (H.rd h) hs) fun r2 f2 w2 H => vs ?_
  refine x_ld H sc3 ?_
  refine vs (ways ?_ ?_)
  · refine vh fun h0 => ?_
    have hp := putL_high (q := q) h0
    refine x_call (deleteFuncI_ok (twin x) 111 #[] #[.pointer (some ⟨g1, 0, none⟩)] H (by have := hs.1; omega) en111 (fun w' es y S hr => implPut1_ok w' es g1 y x hr (S.cell (.head _) 0) (S.cell (.head _) 1))) fun r3 w3 ⟨f3, H⟩ => ?_
    have hfl : (q.filter fun y => !twin x y).length ≤ 1000000 := Nat.le_trans (List.length_filter_le ..) hl
    refine vs ?_
    refine x_lda H st32 ?_
    refine vs ?_
    refine x_call (cloneItem_ok w3 _ x (H.rd hx) hsx) fun _ w5 ⟨cs5, f5, e, S⟩ => ?_
    subst e
    have H := H.join S
    simp only [List.cons_append, List.nil_append] at H
    refine vs ?_
    refine x_lst1 sl24 H rfl rfl fun f6 v6 w6 H => vs ?_
    refine x_appO sl24 H rfl ?_ ?_ fun f7 v7 w7 H => vs ?_
    · simp only [List.length_cons, List.length_nil]; omega
    · simp only [List.length_cons, List.length_nil]; omega
    rw [← hp] at H
    refine x_callb H (implQueueOk_ok w7 v7 _ (H.own (.head _)) hsp) fun w8 H => ?_
    cases hq : queueOk (putL q x) with
    | true =>
      refine vs ?_
      rw [put_yes hq]
      exact ⟨_, _, rfl, H.head⟩
    | false =>
      refine vs ?_
      refine x_callf H (cloneItems_ok w8 v q (H.rd h) hs) fun r9 f9 w9 H => vs ?_
      rw [put_no hq]
      exact ⟨_, _, rfl, H.head⟩
  · refine vh fun h0 => ?_
    have hp := putL_low (q := q) h0
    refine x_lda H st32 ?_
    refine vs ?_
    refine x_call (cloneItem_ok w2 _ x (H.rd hx) hsx) fun _ w5 ⟨cs5, f5, e, S⟩ => ?_
    subst e
    have H := H.join S
    simp only [List.cons_append, List.nil_append] at H
    refine vs ?_
    refine x_lst1 sl24 H rfl rfl fun f6 v6 w6 H => vs ?_
    refine x_appO sl24 H rfl ?_ ?_ fun f7 v7 w7 H => vs ?_
    · simp only [List.length_cons, List.length_nil]; omega
    · simp only [List.length_cons, List.length_nil]; omega
    rw [← hp] at H
    refine x_callb H (implQueueOk_ok w7 v7 _ (H.own (.head _)) hsp) fun w8 H => ?_
    cases hq : queueOk (putL q x) with
    | true =>
      refine vs ?_
      rw [put_yes hq]
      exact ⟨_, _, rfl, H.head⟩
    | false =>
      refine vs ?_
      refine x_callf H (cloneItems_ok w8 v q (H.rd h) hs) fun r9 f9 w9 H => vs ?_
      rw [put_no hq]
      exact ⟨_, _, rfl, H.head⟩
theorem filt_take {α : Type} {l : List α} {p : α → Bool} {j : Nat} (hj : j < l.length) (h : p l[j] = true) : (l.take (j + 1)).filter p = (l.take j).filter p ++ [l[j]] := by rw [take_filter hj, if_pos h]
theorem filt_skip {α : Type} {l : List α} {p : α → Bool} {j : Nat} (hj : j < l.length) (h : p l[j] = false) : (l.take (j + 1)).filter p = (l.take j).filter p := by rw [take_filter hj, if_neg (by rw [h]; decide), List.append_nil]
theorem filt_len {α : Type} (l : List α) (p : α → Bool) (j : Nat) : ((l.take j).filter p).length ≤ l.length := Nat.le_trans (List.length_filter_le ..) (by rw [List.length_take]; omega)
theorem specPut_ok (w : World) (v : Value) (q : List MItem) (cs : List Value) (x : MItem) (h : items.rd w w.heap.size [v] q) (hx : kItem.rd w w.heap.size cs x) (hs : smItemS q) (hsx : smItem x) (hl : q.length ≤ 1000000) :
    ACalls Tryz.prog 75 #[v, .agg cs.toArray] w fun r w' => ∃ v' fp, r = .tuple #[v', .bool (put q x).2] ∧ Sep w.heap.size w w' [Ck.own items fp [v'] (put q x).1] := by
  have hsp := sm_put hs hsx hl
  have h9 := h
  obtain ⟨u, rfl, q0, q1, q2, q3⟩ := kItem_open hx
  obtain ⟨A, c, rfl, hc1, hc2, ha⟩ := sl_open h
  have H := Sep.start w
  refine body_of follows Tryz.func75 rfl rfl _ rfl (by kernel_rfl) (vs ?_)
  refine x_bx H [.string ⟨(x.f_Route).toArray⟩, .int .i64 x.f_Topic, .int .i64 x.f_Due, u] fun g1 w1 H => vs ?_
  refine x_empO (d := kItem) H sl24 fun g2 w2 H => vs ?_
  refine loop_at (σ := Nat × Value × List Nat) (fun y => [(0, .slice A q.length c), (3, .pointer (some ⟨g1, 0, none⟩)), (6, y.2.1), (7, .int .i64 (y.1 : Int))])
    (fun y w' => y.1 ≤ q.length ∧ Sep w.heap.size w w' [Ck.own items y.2.2 [y.2.1] ((q.take y.1).filter (keepP x)), Ck.box g1 [.string ⟨(x.f_Route).toArray⟩, .int .i64 x.f_Topic, .int .i64 x.f_Due, u] 32]) (fun y => q.length - y.1) (0, _, _) (vs trivial) ⟨Nat.zero_le _, H⟩ ?_
  rintro ⟨k, v', fp⟩ s w3 ⟨hk, H⟩
  dsimp only at hk H
  refine vs (ways ?_ ?_)
  · refine vh fun hlt => ?_
    have hk2 : k < q.length := by omega
    have hsm := hs.2 q[k] (List.getElem_mem hk2)
    have hfl := filt_len q (keepP x) k
    have H3 := H
    refine draw_of [(0, true), (1, true), (2, true), (3, true), (4, true), (5, true), (6, true), (7, true), (8, true), (9, true), (10, true), (11, true), (12, true), (13, true), (14, true), (15, true), (16, true), (17, true), (18, true), (19, true), (20, true), (21, true), (22, true)] w3.heap.size [] fun w4 hh hb4 => vs ?_
    have J := (Sep.start w3).go (hb4 _)
    have H := H3.go (hb4 _)
    refine q_ldB H3 J sc3 ?_
    by_cases h0 : x.f_Topic ≤ 0
    · have kp : keepP x q[k] = true := by unfold keepP; rw [decide_eq_false (show ¬ 0 < x.f_Topic by omega)]; rfl
      refine ve h0 ?_
      refine x_ele H sl24 rfl k hk2 ha rfl fun ad es hb hr hc => vs ?_
      refine x_lds st32 hc (Kd.len _ hr) (vs ?_)
      refine x_call (l13Item_ok w4 _ q[k] (H.rd hr) hsm) fun _ w5 ⟨cs5, f5, e, S⟩ => ?_
      subst e
      have H := H.join S
      simp only [List.cons_append, List.nil_append] at H
      refine vs ?_
      refine x_lst1 sl24 H rfl rfl fun f6 v6 w6 H => vs ?_
      refine x_appO sl24 H rfl ?_ ?_ fun f7 v7 w7 H => vs ?_
      · simp only [List.length_cons, List.length_nil]; omega
      · simp only [List.length_cons, List.length_nil]; omega
      refine ⟨(k + 1, v7, f7), ⟨rfl, i64_eq (by show w64 ((k : Int) + 1) = ((k + 1 : Nat) : Int); unfold w64; omega)⟩, ⟨hk2, ?_⟩, by show q.length - (k + 1) < q.length - k; omega⟩
      show Sep _ _ _ [Ck.own _ f7 [v7] ((q.take (k + 1)).filter (keepP x)), _]
      rw [filt_take hk2 (kp)]
      exact H
    · refine ve h0 ?_
      refine q_ele H sl24 rfl k hk2 ha rfl fun ad es hb hr hc => ve h0 ?_
      obtain ⟨u1, rfl, _, _, _, _⟩ := kItem_open hr
      refine q_lf0 sc9 hc (by decide) (Nat.lt_of_lt_of_le hb H3.ns) rfl ?_
      refine ve h0 ?_
      refine q_ldB H3 J sc9 ?_
      by_cases hR : q[k].f_Route = x.f_Route
      · have eR : (q[k].f_Route = x.f_Route) = True := eq_true hR
        refine ve (And.intro h0 eR) ?_
        refine q_ele H sl24 rfl k hk2 ha rfl fun ad es hb hr hc => ve (And.intro h0 eR) ?_
        obtain ⟨u1, rfl, _, _, _, _⟩ := kItem_open hr
        refine q_lfj (j := 1) sc3 hc (by decide) (Nat.lt_of_lt_of_le hb H3.ns) rfl ?_
        refine ve (And.intro h0 eR) ?_
        refine q_ldB H3 J sc3 ?_
        by_cases hT : q[k].f_Topic = x.f_Topic
        · have eT : (q[k].f_Topic = x.f_Topic) = True := eq_true hT
          have kp : keepP x q[k] = false := by unfold keepP twin; rw [decide_eq_true (show 0 < x.f_Topic by omega), decide_eq_true hR, decide_eq_true hT]; rfl
          refine ve (And.intro h0 (And.intro eR eT)) ?_
          refine ⟨(k + 1, v', fp), ⟨rfl, i64_eq (by show w64 ((k : Int) + 1) = ((k + 1 : Nat) : Int); unfold w64; omega)⟩, ⟨hk2, ?_⟩, by show q.length - (k + 1) < q.length - k; omega⟩
          show Sep _ _ _ [Ck.own _ fp [v'] ((q.take (k + 1)).filter (keepP x)), _]
          rw [filt_skip hk2 kp]
          exact H
        · have kp : keepP x q[k] = true := by unfold keepP twin; rw [decide_eq_false hT]; simp
          refine ve (And.intro h0 (And.intro eR hT)) ?_
          refine x_ele H sl24 rfl k hk2 ha rfl fun ad es hb hr hc => vs ?_
          refine x_lds st32 hc (Kd.len _ hr) (vs ?_)
          refine x_call (l13Item_ok w4 _ q[k] (H.rd hr) hsm) fun _ w5 ⟨cs5, f5, e, S⟩ => ?_
          subst e
          have H := H.join S
          simp only [List.cons_append, List.nil_append] at H
          refine vs ?_
          refine x_lst1 sl24 H rfl rfl fun f6 v6 w6 H => vs ?_
          refine x_appO sl24 H rfl ?_ ?_ fun f7 v7 w7 H => vs ?_
          · simp only [List.length_cons, List.length_nil]; omega
          · simp only [List.length_cons, List.length_nil]; omega
          refine ⟨(k + 1, v7, f7), ⟨rfl, i64_eq (by show w64 ((k : Int) + 1) = ((k + 1 : Nat) : Int); unfold w64; omega)⟩, ⟨hk2, ?_⟩, by show q.length - (k + 1) < q.length - k; omega⟩
          show Sep _ _ _ [Ck.own _ f7 [v7] ((q.take (k + 1)).filter (keepP x)), _]
          rw [filt_take hk2 (kp)]
          exact H
      · have kp : keepP x q[k] = true := by unfold keepP twin; rw [decide_eq_false hR]; simp
        refine ve (And.intro h0 hR) ?_
        refine x_ele H sl24 rfl k hk2 ha rfl fun ad es hb hr hc => vs ?_
        refine x_lds st32 hc (Kd.len _ hr) (vs ?_)
        refine x_call (l13Item_ok w4 _ q[k] (H.rd hr) hsm) fun _ w5 ⟨cs5, f5, e, S⟩ => ?_
        subst e
        have H := H.join S
        simp only [List.cons_append, List.nil_append] at H
        refine vs ?_
        refine x_lst1 sl24 H rfl rfl fun f6 v6 w6 H => vs ?_
        refine x_appO sl24 H rfl ?_ ?_ fun f7 v7 w7 H => vs ?_
        · simp only [List.length_cons, List.length_nil]; omega
        · simp only [List.length_cons, List.length_nil]; omega
        refine ⟨(k + 1, v7, f7), ⟨rfl, i64_eq (by show w64 ((k : Int) + 1) = ((k + 1 : Nat) : Int); unfold w64; omega)⟩, ⟨hk2, ?_⟩, by show q.length - (k + 1) < q.length - k; omega⟩
        show Sep _ _ _ [Ck.own _ f7 [v7] ((q.take (k + 1)).filter (keepP x)), _]
        rw [filt_take hk2 (kp)]
        exact H
  · refine vh fun hlt => ?_
    obtain rfl : k = q.length := by omega
    rw [List.take_length] at H
    have hfl := List.length_filter_le (keepP x) q
    refine x_lda H st32 ?_
    refine vs ?_
    refine x_call (l13Item_ok w3 _ x (H.rd hx) hsx) fun _ w5 ⟨cs5, f5, e, S⟩ => ?_
    subst e
    have H := H.join S
    simp only [List.cons_append, List.nil_append] at H
    refine vs ?_
    refine x_lst1 sl24 H rfl rfl fun f6 v6 w6 H => vs ?_
    refine x_appO sl24 H rfl ?_ ?_ fun f7 v7 w7 H => vs ?_
    · simp only [List.length_cons, List.length_nil]; omega
    · simp only [List.length_cons, List.length_nil]; omega
    have H : Sep w.heap.size w w7 (Ck.own items f7 [v7] (putL q x) :: _) := H
    refine x_callb H (specQueueOk_ok w7 v7 _ (H.own (.head _)) hsp) fun w8 H => ?_
    cases hq : queueOk (putL q x) with
    | true =>
      refine vs ?_
      rw [put_yes hq]
      exact ⟨_, _, rfl, H.head⟩
    | false =>
      refine vs ?_
      refine x_callf H (l13Queue_ok w8 _ q (H.rd h9) hs) fun r9 f9 w9 H => vs ?_
      rw [put_no hq]
      exact ⟨_, _, rfl, H.head⟩

theorem due_eq (q : List MItem) (now : Int) : (q.filter fun x => !decide (x.f_Due < now)) = due q now := by
  unfold due
  refine congrArg (fun f => List.filter f q) (funext fun x => ?_)
  unfold dueP
  by_cases h : x.f_Due < now
  · rw [decide_eq_true h, decide_eq_false (by omega)]; rfl
  · rw [decide_eq_false h, decide_eq_true (by omega)]; rfl
theorem implDue_ok (w : World) (v : Value) (q : List MItem) (now : Int) (h : items.rd w w.heap.size [v] q) (hs : smItemS q) :
    ACalls Tryz.prog 62 #[v, .int .i64 now] w fun r w' => ∃ fp, Sep w.heap.size w w' [Ck.own items fp [r] (due q now)] := by
  have H := Sep.start w
  refine body_of follows Tryz.func62 rfl rfl _ rfl (by kernel_rfl) (vs ?_)
  refine x_bx H [.int .i64 now] fun g1 w1 H => vs ?_
  refine x_callf H (cloneItems_ok w1 v q (H.rd h) hs) fun r2 f2 w2 H => vs ?_
  refine x_call (deleteFuncI_ok (fun x => decide (x.f_Due < now)) 117 #[] #[.pointer (some ⟨g1, 0, none⟩)] H hs.1 en117 (fun w' es y S hr => implDue1_ok w' es g1 y now hr (S.cell (.head _) 0))) fun r3 w3 ⟨f3, H⟩ => ?_
  refine vs ?_
  rw [due_eq] at H
  exact ⟨_, H.head⟩
theorem specDue_ok (w : World) (v : Value) (l : List MItem) (now : Int) (h : items.rd w w.heap.size [v] l) (hs : smItemS l) :
    ACalls Tryz.prog 83 #[v, .int .i64 now] w fun r w' => ∃ fp, Sep w.heap.size w w' [Ck.own items fp [r] (due l now)] := by
  have hlm := sl_len h
  have hs0 := hs.1
  obtain ⟨A, c, rfl, hc1, hc2, ha⟩ := sl_open h
  refine body_of follows Tryz.func83 rfl rfl _ rfl (by kernel_rfl) (vs ?_)
  refine x_empO (d := kItem) (Sep.start w) sl24 fun g w1 H => vs ?_
  refine loop_at (σ := Nat × Value × List Nat) (fun x => [(0, .slice A l.length c), (1, .int .i64 now), (5, x.2.1), (6, .int .i64 (x.1 : Int))])
    (fun x w' => x.1 ≤ l.length ∧ Sep w.heap.size w w' [Ck.own items x.2.2 [x.2.1] ((l.take x.1).filter (dueP now))]) (fun x => l.length - x.1) (0, _, _) (vs trivial) ⟨Nat.zero_le _, H⟩ ?_
  rintro ⟨k, v', fp⟩ s w2 ⟨hk, H⟩
  dsimp only at hk H
  refine vs (ways ?_ ?_)
  · refine vh fun hlt => ?_
    have hk2 : k < l.length := by omega
    have hsm := hs.2 l[k] (List.getElem_mem hk2)
    have hfl := filt_len l (dueP now) k
    refine x_ele H sl24 rfl k hk2 ha rfl fun ad es hb hr hc => vs ?_
    obtain ⟨u, rfl, _, _, _, _⟩ := kItem_open hr
    refine x_lfj (j := 2) sc3 hc (by decide) rfl ?_
    refine vs (ways ?_ ?_)
    · refine vh fun hge => ?_
      refine x_ele H sl24 rfl k hk2 ha rfl fun ad es hb hr hc => vs ?_
      refine x_lds st32 hc (Kd.len _ hr) (vs ?_)
      refine x_call (l13Item_ok w2 _ l[k] (H.rd hr) hsm) fun _ w5 ⟨cs5, f5, e, S⟩ => ?_
      subst e
      have H := H.join S
      simp only [List.cons_append, List.nil_append] at H
      refine vs ?_
      refine x_lst1 sl24 H rfl rfl fun f6 v6 w6 H => vs ?_
      refine x_appO sl24 H rfl ?_ ?_ fun f7 v7 w7 H => vs ?_
      · simp only [List.length_cons, List.length_nil]; omega
      · simp only [List.length_cons, List.length_nil]; omega
      refine ⟨(k + 1, v7, f7), ⟨rfl, i64_eq (by show w64 ((k : Int) + 1) = ((k + 1 : Nat) : Int); unfold w64; omega)⟩, ⟨hk2, ?_⟩, by show l.length - (k + 1) < l.length - k; omega⟩
      show Sep _ _ _ [Ck.own _ f7 [v7] ((l.take (k + 1)).filter (dueP now))]
      rw [filt_take hk2 (by unfold dueP; exact decide_eq_true hge)]
      exact H
    · refine vh fun hge => ?_
      refine ⟨(k + 1, v', fp), ⟨rfl, i64_eq (by show w64 ((k : Int) + 1) = ((k + 1 : Nat) : Int); unfold w64; omega)⟩, ⟨hk2, ?_⟩, by show l.length - (k + 1) < l.length - k; omega⟩
      show Sep _ _ _ [Ck.own _ fp [v'] ((l.take (k + 1)).filter (dueP now))]
      rw [filt_skip hk2 (by unfold dueP; exact decide_eq_false hge)]
      exact H
  · refine vh fun hlt => ?_
    obtain rfl : k = l.length := by omega
    rw [List.take_length] at H
    exact ⟨_, H⟩

/-! ### take -/
theorem sm_erase {q : List MItem} (hs : smItemS q) (i : Nat) : smItemS (q.eraseIdx i) :=
  ⟨Nat.le_trans (List.length_eraseIdx_le ..) hs.1, fun y hy => hs.2 y (List.mem_of_mem_eraseIdx hy)⟩
theorem implTake_ok (w : World) (v : Value) (q : List MItem) (r : List UInt8) (h : items.rd w w.heap.size [v] q) (hs : smItemS q) :
    ACalls Tryz.prog 60 #[v, .string ⟨r.toArray⟩] w fun z w' => ∃ cs f1 v' f2, z = .tuple #[.agg cs.toArray, v', .bool (takeQ q r).2.2] ∧ Sep w.heap.size w w' [Ck.own items f2 [v'] (takeQ q r).2.1, Ck.own kItem f1 cs (takeQ q r).1] := by
  have hlm := sl_len h
  have hs0 := hs.1
  have h9 := h
  have H := Sep.start w
  refine body_of follows Tryz.func60 rfl rfl _ rfl (by kernel_rfl) (vs ?_)
  refine x_bx H [.string ⟨r.toArray⟩] fun g1 w1 H => vs ?_
  refine x_al H st32 fun g2 w2 H => vs ?_
  refine x_callf H (cloneItems_ok w2 v q (H.rd h) hs) fun r3 f3 w3 H => vs ?_
  have hg := H.lt (.tail _ (.tail _ (.head _)))
  have c0 := H.cell (.tail _ (.tail _ (.head _))) 0
  refine x_call (indexFuncI_ok w3 v q (hasR r) 115 #[] #[.pointer (some ⟨g1, 0, none⟩)] (H.rd h9) en115 (fun w' es y hb hr => implTake1_ok w' es g1 y r hr ((hb.cell (p := ⟨g1, 0, none⟩) hg).trans c0))) fun _ w4 ⟨hr, hb⟩ => ?_
  have H := H.go hb
  rcases hr with ⟨k, hk, rfl, hp, hno⟩ | ⟨rfl, hno⟩
  · have et := takeQ_some hk (takeAt_some hk hp hno)
    rw [et]
    refine ve (show ¬ (k : Int) < 0 by omega) ?_
    obtain ⟨A, c, rfl, hc1, hc2, ha⟩ := sl_open h
    refine x_ele H sl24 rfl k hk ha rfl fun ad es hb hr hc => vs ?_
    refine x_lds st32 hc (Kd.len _ hr) (vs ?_)
    refine x_call (cloneItem_ok w4 _ q[k] (H.rd hr) (hs.2 _ (List.getElem_mem hk))) fun _ w5 ⟨cs5, f5, e, S⟩ => ?_
    subst e
    have H := H.join S
    simp only [List.cons_append, List.nil_append] at H
    have hone := Kd.one _ (H.own (.head _))
    refine ve (show w64 ((k : Int) + 1) = ((k + 1 : Nat) : Int) by unfold w64; omega) ?_
    have H := H.front (c := Ck.own items f3 [r3] q)
    refine x_call (deleteI_ok k H hk hs.1) fun r6 w6 ⟨f6, H⟩ => ?_
    refine vs ?_
    obtain ⟨u5, e5, _⟩ := kItem_open (H.own (.tail _ (.head _)))
    subst e5
    refine x_sta H st32 (h1 := hone) fun w7 H => vs ?_
    exact ⟨_, _, rfl, res_cell H st32, _, _, _, _, rfl, H.two .here .here⟩
  · have et := takeQ_none (takeAt_none hno)
    rw [et]
    refine ve (show (-1 : Int) < 0 by decide) ?_
    refine x_build bl32 [.string ⟨#[]⟩, .int .i64 0, .int .i64 0, .slice none 0 0] ?_
    refine vs ?_
    have H := H.nothing (kItem_zero w4)
    refine x_sta H st32 (h1 := Kd.one _ (H.own (.head _))) fun w7 H => vs ?_
    exact ⟨_, _, rfl, res_cell H st32, _, _, _, _, rfl, H.two (.there .here) .here⟩
theorem specTake_ok (w : World) (v : Value) (q : List MItem) (r : List UInt8) (h : items.rd w w.heap.size [v] q) (hs : smItemS q) :
    ACalls Tryz.prog 80 #[v, .string ⟨r.toArray⟩] w fun z w' => ∃ cs f1 v' f2, z = .tuple #[.agg cs.toArray, v', .bool (takeQ q r).2.2] ∧ Sep w.heap.size w w' [Ck.own items f2 [v'] (takeQ q r).2.1, Ck.own kItem f1 cs (takeQ q r).1] := by
  have hlm := sl_len h
  have hs0 := hs.1
  have h9 := h
  obtain ⟨A, c, rfl, hc1, hc2, ha⟩ := sl_open h
  have H := Sep.start w
  refine body_of follows Tryz.func80 rfl rfl _ rfl (by kernel_rfl) (vs ?_)
  refine x_al H st32 fun g2 w2 H => vs ?_
  refine loop_at (σ := Nat) (fun k => [(0, .slice A q.length c), (1, .string ⟨r.toArray⟩), (4, .pointer (some ⟨g2, 0, none⟩)), (7, .int .i64 (k : Int))])
    (fun k w' => k ≤ q.length ∧ (∀ i (hi : i < q.length), i < k → hasR r q[i] = false) ∧ Sep w.heap.size w w' [Ck.box g2 [.string ⟨#[]⟩, .int .i64 0, .int .i64 0, .slice none 0 0] 32]) (fun k => q.length - k) 0 (vs trivial) ⟨Nat.zero_le _, fun i hi h => absurd h (Nat.not_lt_zero i), H⟩ ?_
  rintro k s w3 ⟨hk, hno, H⟩
  refine vs (ways ?_ ?_)
  · refine vh fun hlt => ?_
    have hk2 : k < q.length := by omega
    refine x_ele H sl24 rfl k hk2 ha rfl fun ad es hb hr hc => vs ?_
    obtain ⟨u, rfl, _, _, _, _⟩ := kItem_open hr
    refine x_lf0 sc9 hc (by decide) rfl ?_
    refine vs (ways ?_ ?_)
    · refine vh fun he => ?_
      have et := takeQ_some hk2 (takeAt_some hk2 (by unfold hasR; exact decide_eq_true he) hno)
      rw [et]
      have hs1 : smItemS (q.take k) := ⟨by rw [List.length_take]; omega, fun y hy => hs.2 y (List.mem_of_mem_take hy)⟩
      have hs2 : smItemS (q.drop (k + 1)) := ⟨by rw [List.length_drop]; omega, fun y hy => hs.2 y (List.mem_of_mem_drop hy)⟩
      refine draw_of [(0, true), (1, true), (2, true), (4, true), (5, true), (6, true), (7, true), (3, false), (8, false), (9, false), (10, true)] w.heap.size [] fun w4 hh hb4 => vs ?_
      have H := H.go (hb4 _)
      have H3 := H
      refine q_to sl24 rfl h9 (hi := k) (by omega) fun v5 hv5 => vs ?_
      refine ve (show w64 ((k : Int) + 1) = ((k + 1 : Nat) : Int) by unfold w64; omega) ?_
      refine q_from sl24 rfl h9 (lo := k + 1) (by omega) fun v6 hv6 => vs ?_
      refine x_callf H (l13Queue_ok w4 v5 _ (H.rd hv5) hs1) fun r5 f5 w5 H => vs ?_
      refine ⟨kept_base H3 H, ?_⟩
      refine x_callf H (l13Queue_ok w5 v6 _ (H.rd hv6) hs2) fun r6 f6 w6 H => vs ?_
      refine ⟨kept_base H3 H, ?_⟩
      refine x_appO sl24 H rfl ?_ ?_ fun f7 v7 w7 H => vs ?_
      · simp only [List.length_take, List.length_drop]; omega
      · simp only [List.length_take, List.length_drop]; omega
      refine ⟨kept_base H3 H, ?_⟩
      refine x_ele H sl24 rfl k hk2 ha rfl fun ad es hb hr hc => vs ?_
      refine x_lds st32 hc (Kd.len _ hr) (vs ?_)
      refine x_call (l13Item_ok w7 _ q[k] (H.rd hr) (hs.2 _ (List.getElem_mem hk2))) fun _ w8 ⟨cs5, f5, e, S⟩ => ?_
      subst e
      have H := H.join S
      simp only [List.cons_append, List.nil_append] at H
      have hone := Kd.one _ (H.own (.head _))
      obtain ⟨u5, e5, _⟩ := kItem_open (H.own (.head _))
      subst e5
      refine vs ?_
      refine x_sta H st32 (h1 := hone) fun w9 H => vs ?_
      rw [← List.eraseIdx_eq_take_drop_succ] at H
      exact ⟨_, _, rfl, res_cell H st32, _, _, _, _, rfl, H.two (.there .here) .here⟩
    · refine vh fun he => ?_
      refine ⟨k + 1, i64_eq (by unfold w64; omega), ⟨hk2, fun i hi h => ?_, H⟩, by omega⟩
      by_cases h2 : i = k
      · subst h2; unfold hasR; exact decide_eq_false he
      · exact hno i hi (by omega)
  · refine vh fun hlt => ?_
    have et := takeQ_none (takeAt_none (r := r) fun j hj => hno j hj (by omega))
    rw [et]
    refine x_build bl32 [.string ⟨#[]⟩, .int .i64 0, .int .i64 0, .slice none 0 0] ?_
    refine vs ?_
    refine x_callf H (l13Queue_ok w3 _ q (H.rd h9) hs) fun r5 f5 w5 H => vs ?_
    have H := H.nothing (kItem_zero w5)
    refine x_sta H st32 (h1 := Kd.one _ (H.own (.head _))) fun w7 H => vs ?_
    exact ⟨_, _, rfl, res_cell H st32, _, _, _, _, rfl, H.two (.there .here) .here⟩

/-! ### alike -/
theorem implSameItems1_ok (w : World) (cs ds : List Value) (x y : MItem) (h : kItem.rd w w.heap.size cs x) (h' : kItem.rd w w.heap.size ds y) :
    ACalls Tryz.prog 129 #[.agg cs.toArray, .agg ds.toArray] w fun r w' => r = .bool (sameI x y) ∧ Below w.heap.size w w' := by
  obtain ⟨u, rfl, _, _, _, hb1⟩ := kItem_open h
  obtain ⟨u', rfl, _, _, _, hb2⟩ := kItem_open h'
  have H := Sep.start w
  refine body_of follows Tryz.func129 rfl rfl _ rfl (by kernel_rfl) (vs ?_)
  refine x_bx H [.string ⟨(x.f_Route).toArray⟩, .int .i64 x.f_Topic, .int .i64 x.f_Due, u] fun g1 w1 H => vs ?_
  refine x_bx H [.string ⟨(y.f_Route).toArray⟩, .int .i64 y.f_Topic, .int .i64 y.f_Due, u'] fun g2 w2 H => vs ?_
  refine x_ld H sc9 ?_
  refine vs ?_
  refine x_ld H sc9 ?_
  by_cases hR : x.f_Route = y.f_Route
  · have eR : (x.f_Route = y.f_Route) = True := eq_true hR
    refine ve eR ?_
    refine x_ld H sc3 ?_
    refine ve eR ?_
    refine x_ld H sc3 ?_
    by_cases hT : x.f_Topic = y.f_Topic
    · have eT : (x.f_Topic = y.f_Topic) = True := eq_true hT
      refine ve (And.intro eR eT) ?_
      refine x_ld H sc3 ?_
      refine ve (And.intro eR eT) ?_
      refine x_ld H sc3 ?_
      by_cases hD : x.f_Due = y.f_Due
      · have eD : (x.f_Due = y.f_Due) = True := eq_true hD
        refine ve (And.intro eR (And.intro eT eD)) ?_
        refine x_ld H sc22 ?_
        refine ve (And.intro eR (And.intro eT eD)) ?_
        refine x_ld H sc22 ?_
        refine ve (And.intro eR (And.intro eT eD)) ?_
        refine x_callw (implSame_ok w2 _ _ _ _ (H.rd hb1) (H.rd hb2)) ?_
        refine ve (And.intro eR (And.intro eT eD)) ?_
        have : sameI x y = decide (x.f_Bytes = y.f_Bytes) := by unfold sameI; rw [decide_eq_true hR, decide_eq_true hT, decide_eq_true hD]; rfl
        rw [this]
        exact ⟨rfl, H.bel⟩
      · refine ve (And.intro eR (And.intro eT hD)) ?_
        have : sameI x y = false := by unfold sameI; rw [decide_eq_false hD]; simp
        rw [this]
        exact ⟨rfl, H.bel⟩
    · refine ve (And.intro eR hT) ?_
      have : sameI x y = false := by unfold sameI; rw [decide_eq_false hT]; simp
      rw [this]
      exact ⟨rfl, H.bel⟩
  · refine ve hR ?_
    have : sameI x y = false := by unfold sameI; rw [decide_eq_false hR]; rfl
    rw [this]
    exact ⟨rfl, H.bel⟩
theorem implSameItems_ok (w : World) (v v' : Value) (a b : List MItem) (h : items.rd w w.heap.size [v] a) (h' : items.rd w w.heap.size [v'] b) :
    ACalls Tryz.prog 69 #[v, v'] w fun r w' => r = .bool (sameQ a b) ∧ Below w.heap.size w w' := by
  refine body_of follows Tryz.func69 rfl rfl _ rfl (by kernel_rfl) (vs ?_)
  refine x_callb (v := .bool (sameQ a b)) (Sep.start w) ?_ fun w1 H => vs ?_
  rotate_left
  · exact H.bel
  have hla := sl_len h
  have hlb := sl_len h'
  obtain ⟨A, c, rfl, hc1, hc2, ha⟩ := sl_open h
  obtain ⟨B, c', rfl, hc1', hc2', hb⟩ := sl_open h'
  refine body_of follows Tryz.func128 rfl rfl _ rfl (by kernel_rfl) (vs ?_)
  by_cases hl : (a.length : Int) = (b.length : Int)
  · have eL : ((a.length : Int) = (b.length : Int)) = True := eq_true hl
    refine ve eL ?_
    refine loop_at (σ := Nat) (fun k => [(1, .slice B b.length c'), (2, .func (.func 129) #[] #[]), (15, .slice A a.length c), (16, .int .i64 (a.length : Int)), (17, .int .i64 (k : Int))])
      (fun k w' => k ≤ a.length ∧ (∀ i (h1 : i < a.length) (h2 : i < b.length), i < k → sameI a[i] b[i] = true) ∧ Sep w.heap.size w w' []) (fun k => a.length - k) 0 (vs trivial) ⟨Nat.zero_le _, fun i h1 h2 h => absurd h (Nat.not_lt_zero i), Sep.start w⟩ ?_
    rintro k s w2 ⟨hk, hall, H⟩
    refine vs (ways ?_ ?_)
    · refine vh fun hlt => ?_
      have hk2 : k < a.length := by omega
      have hk3 : k < b.length := by omega
      refine x_ele H sl24 rfl k hk2 ha rfl fun ad es hb1 hr hc => vs ?_
      obtain ⟨u, rfl, _, _, _, _⟩ := kItem_open hr
      refine x_lds st32 hc rfl (vs ?_)
      refine x_al H st32 fun g5 w3 H => vs ?_
      refine x_sta H st32 (vs := [.string ⟨(a[k].f_Route).toArray⟩, .int .i64 a[k].f_Topic, .int .i64 a[k].f_Due, u]) (h1 := Kd.one _ hr) fun w4 H => vs ?_
      refine x_ele H sl24 rfl k hk3 hb rfl fun ad es hb1 hr2 hc => vs ?_
      obtain ⟨u2, rfl, _, _, _, _⟩ := kItem_open hr2
      refine x_lds st32 hc rfl (vs ?_)
      refine x_al H st32 fun g6 w5 H => vs ?_
      refine x_sta H st32 (vs := [.string ⟨(b[k].f_Route).toArray⟩, .int .i64 b[k].f_Topic, .int .i64 b[k].f_Due, u2]) (h1 := Kd.one _ hr2) fun w6 H => vs ?_
      refine x_lda H st32 ?_
      refine vs ?_
      refine x_lda H st32 ?_
      refine vs ?_
      refine x_callv en129 (implSameItems1_ok w6 _ _ a[k] b[k] (H.rd hr) (H.rd hr2)) fun _ w7 ⟨e7, hb7⟩ => ?_
      subst e7
      have H := H.go hb7
      cases hsm : sameI a[k] b[k] with
      | true =>
        refine vs ?_
        refine ⟨k + 1, i64_eq (by unfold w64; omega), ⟨hk2, fun i h1 h2 h => ?_, H.none⟩, by omega⟩
        by_cases h3 : i = k
        · subst h3; exact hsm
        · exact hall i h1 h2 (by omega)
      | false =>
        refine vs ?_
        rw [sameQ_bad hk2 hk3 hsm]
        exact ⟨rfl, H.bel⟩
    · refine vh fun hlt => ?_
      rw [sameQ_good (by omega) fun i h1 h2 => hall i h1 h2 (by omega)]
      exact ⟨rfl, H.bel⟩
  · refine ve hl ?_
    rw [sameQ_len (by omega)]
    exact ⟨rfl, Below.refl ..⟩
end Go.Proofs.YtdljbekkckfmnaaGreat.V
