/- An item taken out; the functions that are handed over. -/
import Derived.Test.YtdljbekkckfmnaaGreatWqd
namespace Go.Proofs.YtdljbekkckfmnaaGreat.V
open Go Go.RowKit
set_option maxRecDepth 100000
set_option maxHeartbeats 4000000
set_option linter.unusedSimpArgs false
set_option linter.unusedVariables false
set_option pp.deepTerms false
set_option pp.deepTerms.threshold 3

theorem x_lhmI {P : Program} {w : World} {K : Value → World → Prop} {tg : Tg K} {t e sz by_ : Nat} {z : Value} (HS : SlT P t e sz by_ z) {A : Option Addr} {m c : Nat} {k k' k'' : IntKind} {lo hi mx : Nat} (h1 : lo ≤ hi) (h2 : hi ≤ mx) (h3 : mx ≤ c) (h : ∀ v, K v w) :
    VS P K tg (Instr.sliceAt t (.slice A m c) (some (.int k (lo : Int))) (some (.int k' (hi : Int))) (some (.int k'' (mx : Int)))) w := by
  obtain ⟨i, hi', hs, _⟩ := HS.inf
  have he := elem_of HS.un
  have hu : P.underlying t = some (.slice (P.elem t)) := by rw [he]; exact HS.un
  have hsz : (sizeOf (P.elem t)).run P w = .ok sz w := by rw [he]; exact run_sizeOf' hi' hs
  refine vS_run (v := sliced A lo hi mx sz) ?_ (h _)
  rw [run_sliceAt_slice w t _ _ _ _ hu, run_slice_lhm w t A m c hu k k' k'' lo hi mx (by omega) (by omega) (by omega) (by omega), hsz]; rfl
section
variable {P : Program} {w : World} {K : Value → World → Prop} {KQ : Value → Prop} {tg : Tg K} {t e sz by_ : Nat} {z : Value}
theorem q_hiI {mm : Nat} {G : List (Nat × Nat)} {tq : Tg (mm, G, w, KQ)} (HS : SlT P t e sz by_ z) {A : Option Addr} {m c hi : Nat} {k : IntKind} (hm : hi ≤ c) (h : KQ (.slice A hi c)) : QS P mm G w KQ tq (Instr.sliceAt t (.slice A m c) none (some (.int k (hi : Int))) none) :=
  QS_of (v := .slice A hi c) (fun w _ => by have := (run_sub (w := w) HS (A := A) (n := m) (k := .i64) (k' := k) (lo := 0)).2.1 hm; rw [sliced_hiI] at this; exact this) h
theorem q_loI {mm : Nat} {G : List (Nat × Nat)} {tq : Tg (mm, G, w, KQ)} (HS : SlT P t e sz by_ z) {A : Option Addr} {m c lo : Nat} {k : IntKind} (hm : lo ≤ m) (h : KQ (sliced A lo m c sz)) : QS P mm G w KQ tq (Instr.sliceAt t (.slice A m c) (some (.int k (lo : Int))) none none) :=
  QS_of (fun w _ => (run_sub HS (k' := .i64) (hi := 0)).2.2 hm) h
theorem x_midI (HS : SlT P t e sz by_ z) {g m c lo hi : Nat} {k k' : IntKind} (h1 : lo ≤ hi) (h2 : hi ≤ c) (h3 : lo < c) (h : K (.slice (some ⟨g, lo * sz, none⟩) (hi - lo) (c - lo)) w) : VS P K tg (Instr.sliceAt t (.slice (some ⟨g, 0, none⟩) m c) (some (.int k (lo : Int))) (some (.int k' (hi : Int))) none) w := by
  refine vS_run ((run_sub HS).1 h1 h2) ?_
  have e : sliced (some ⟨g, 0, none⟩) lo hi c sz = .slice (some ⟨g, lo * sz, none⟩) (hi - lo) (c - lo) := by
    unfold sliced
    rw [if_neg (by omega), Option.map_some, Kd.add_plain]
  rw [e]; exact h
end
theorem deleteI_ok {n : Nat} {w0 w : World} {L : List Ck} {fp : List Nat} {v : Value} {l : List MItem} (i : Nat) (H : Sep n w0 w (Ck.own items fp [v] l :: L)) (hi : i < l.length) (hl : l.length ≤ 1048576) :
    ACalls Tryz.prog 116 #[v, .int .i64 (i : Int), .int .i64 ((i + 1 : Nat) : Int)] w fun r w' => ∃ fp', Sep n w0 w' (Ck.own items fp' [r] (l.eraseIdx i) :: L) := by
  obtain ⟨A, c, rfl, hc1, hc2, ha⟩ := sl_open (H.own (.head _))
  obtain ⟨g, rfl⟩ := own_atI H (by omega)
  refine body_of follows Tryz.func116 rfl rfl _ rfl (by kernel_rfl) (vs ?_)
  refine x_lhmI sl24 (lo := i) (hi := i + 1) (mx := l.length) (by omega) (by omega) (by omega) fun v => vs ?_
  refine ve (show ¬ ((i : Int) = ((i + 1 : Nat) : Int)) by omega) ?_
  refine draw_of [(0, true), (1, true), (2, true), (3, true), (4, true), (5, true), (6, false), (7, true)] n [] fun w5 hh hb5 => vs ?_
  have H := H.go (hb5 _)
  have H5 := H
  refine q_hiI sl24 (by omega) ?_
  refine vs ?_
  refine q_loI sl24 (lo := i + 1) (by omega) ?_
  refine vs ?_
  refine x_delA sl24 rfl i H hi fun fp6 w6 H => vs ?_
  refine ⟨kept_base H5 H, ?_⟩
  have hel : (l.eraseIdx i).length = l.length - 1 := by rw [List.length_eraseIdx, if_pos hi]
  refine x_midI sl24 (lo := l.length - 1) (hi := l.length) (by omega) (by omega) (by omega) ?_
  refine vs ?_
  refine x_clrB sl24 rfl (by decide) H (by omega) (by omega) fun fp7 w7 H => vs ?_
  exact ⟨_, H⟩

/-! ### closures -/
theorem cell_ltI {w : World} {p : Addr} {v : Value} (h : w.cell? p = some v) : p.block < w.heap.size := by
  unfold World.cell? at h
  cases e : w.heap[p.block]? with
  | none => rw [e] at h; simp at h
  | some _ => exact (Array.getElem?_eq_some_iff.1 e).1
theorem implPut1_ok (w : World) (es : List Value) (g : Nat) (y x : MItem) (h : kItem.rd w w.heap.size es y) (hg0 : w.cell? ⟨g, 0, none⟩ = some (.string ⟨x.f_Route.toArray⟩)) (hg1 : w.cell? ⟨g, 1, none⟩ = some (.int .i64 x.f_Topic)) :
    ACalls Tryz.prog 111 (#[] ++ #[.agg es.toArray] ++ #[.pointer (some ⟨g, 0, none⟩)]) w fun r w' => r = .bool (twin x y) ∧ Below w.heap.size w w' := by
  obtain ⟨u, rfl, q0, q1, q2, q3⟩ := kItem_open h
  have H := Sep.start w
  refine body_of (args := [.agg #[.string ⟨(y.f_Route).toArray⟩, .int .i64 y.f_Topic, .int .i64 y.f_Due, u], .pointer (some ⟨g, 0, none⟩)]) follows Tryz.func111 rfl rfl _ rfl (by kernel_rfl) (vs ?_)
  refine x_bx H [.string ⟨(y.f_Route).toArray⟩, .int .i64 y.f_Topic, .int .i64 y.f_Due, u] fun g1 w1 H => vs ?_
  refine x_ld H sc9 ?_
  refine vs ?_
  refine x_load sc9 ((H.bel.cell (cell_ltI hg0)).trans hg0) (vs ?_)
  by_cases hr : y.f_Route = x.f_Route
  · refine ve (show (y.f_Route = x.f_Route) = True from eq_true hr) ?_
    refine x_ld H sc3 ?_
    refine ve (show (y.f_Route = x.f_Route) = True from eq_true hr) ?_
    refine x_load sc3 ((H.bel.cell (cell_ltI hg1)).trans hg1) ?_
    refine ve (show (y.f_Route = x.f_Route) = True from eq_true hr) ?_
    have : twin x y = decide (y.f_Topic = x.f_Topic) := by unfold twin; rw [decide_eq_true hr, Bool.true_and]
    rw [this]
    exact ⟨rfl, H.bel⟩
  · refine ve hr ?_
    have : twin x y = false := by unfold twin; rw [decide_eq_false hr]; rfl
    rw [this]
    exact ⟨rfl, H.bel⟩
theorem implQueueOk1_ok (w : World) (es : List Value) (g : Nat) (y x : MItem) (h : kItem.rd w w.heap.size es y) (hg0 : w.cell? ⟨g, 0, none⟩ = some (.string ⟨x.f_Route.toArray⟩)) (hg1 : w.cell? ⟨g, 1, none⟩ = some (.int .i64 x.f_Topic)) :
    ACalls Tryz.prog 126 (#[] ++ #[.agg es.toArray] ++ #[.pointer (some ⟨g, 0, none⟩)]) w fun r w' => r = .bool (twin x y) ∧ Below w.heap.size w w' := by
  obtain ⟨u, rfl, q0, q1, q2, q3⟩ := kItem_open h
  have H := Sep.start w
  refine body_of (args := [.agg #[.string ⟨(y.f_Route).toArray⟩, .int .i64 y.f_Topic, .int .i64 y.f_Due, u], .pointer (some ⟨g, 0, none⟩)]) follows Tryz.func126 rfl rfl _ rfl (by kernel_rfl) (vs ?_)
  refine x_bx H [.string ⟨(y.f_Route).toArray⟩, .int .i64 y.f_Topic, .int .i64 y.f_Due, u] fun g1 w1 H => vs ?_
  refine x_ld H sc9 ?_
  refine vs ?_
  refine x_load sc9 ((H.bel.cell (cell_ltI hg0)).trans hg0) (vs ?_)
  by_cases hr : y.f_Route = x.f_Route
  · refine ve (show (y.f_Route = x.f_Route) = True from eq_true hr) ?_
    refine x_ld H sc3 ?_
    refine ve (show (y.f_Route = x.f_Route) = True from eq_true hr) ?_
    refine x_load sc3 ((H.bel.cell (cell_ltI hg1)).trans hg1) ?_
    refine ve (show (y.f_Route = x.f_Route) = True from eq_true hr) ?_
    have : twin x y = decide (y.f_Topic = x.f_Topic) := by unfold twin; rw [decide_eq_true hr, Bool.true_and]
    rw [this]
    exact ⟨rfl, H.bel⟩
  · refine ve hr ?_
    have : twin x y = false := by unfold twin; rw [decide_eq_false hr]; rfl
    rw [this]
    exact ⟨rfl, H.bel⟩
theorem implDue1_ok (w : World) (es : List Value) (g : Nat) (y : MItem) (now : Int) (h : kItem.rd w w.heap.size es y) (hg0 : w.cell? ⟨g, 0, none⟩ = some (.int .i64 now)) :
    ACalls Tryz.prog 117 (#[] ++ #[.agg es.toArray] ++ #[.pointer (some ⟨g, 0, none⟩)]) w fun r w' => r = .bool (decide (y.f_Due < now)) ∧ Below w.heap.size w w' := by
  obtain ⟨u, rfl, q0, q1, q2, q3⟩ := kItem_open h
  have H := Sep.start w
  refine body_of (args := [.agg #[.string ⟨(y.f_Route).toArray⟩, .int .i64 y.f_Topic, .int .i64 y.f_Due, u], .pointer (some ⟨g, 0, none⟩)]) follows Tryz.func117 rfl rfl _ rfl (by kernel_rfl) (vs ?_)
  refine x_bx H [.string ⟨(y.f_Route).toArray⟩, .int .i64 y.f_Topic, .int .i64 y.f_Due, u] fun g1 w1 H => vs ?_
  refine x_ld H sc3 ?_
  refine vs ?_
  refine x_load sc3 ((H.bel.cell (cell_ltI hg0)).trans hg0) (vs ?_)
  exact H.bel
theorem implTake1_ok (w : World) (es : List Value) (g : Nat) (y : MItem) (r : List UInt8) (h : kItem.rd w w.heap.size es y) (hg0 : w.cell? ⟨g, 0, none⟩ = some (.string ⟨r.toArray⟩)) :
    ACalls Tryz.prog 115 (#[] ++ #[.agg es.toArray] ++ #[.pointer (some ⟨g, 0, none⟩)]) w fun q w' => q = .bool (hasR r y) ∧ Below w.heap.size w w' := by
  obtain ⟨u, rfl, q0, q1, q2, q3⟩ := kItem_open h
  have H := Sep.start w
  refine body_of (args := [.agg #[.string ⟨(y.f_Route).toArray⟩, .int .i64 y.f_Topic, .int .i64 y.f_Due, u], .pointer (some ⟨g, 0, none⟩)]) follows Tryz.func115 rfl rfl _ rfl (by kernel_rfl) (vs ?_)
  refine x_bx H [.string ⟨(y.f_Route).toArray⟩, .int .i64 y.f_Topic, .int .i64 y.f_Due, u] fun g1 w1 H => vs ?_
  refine x_ld H sc9 ?_
  refine vs ?_
  refine x_load sc9 ((H.bel.cell (cell_ltI hg0)).trans hg0) (vs ?_)
  exact ⟨rfl, H.bel⟩
end Go.Proofs.YtdljbekkckfmnaaGreat.V
