/- Lists of letters of one kind, both sides. -/
import Derived.Test.YtaaommmjpeedcaaWg
namespace Go.Proofs.Ytaaommmjpeedcaa.V
open Go Go.RowKit
set_option maxRecDepth 100000
set_option maxHeartbeats 4000000
set_option linter.unusedSimpArgs false
set_option linter.unusedVariables false
set_option pp.deepTerms false
set_option pp.deepTerms.threshold 3

def fanP (l : List MLetter) (i : Nat) : Prop := ∃ (h : i < l.length) (h0 : 0 < l.length), letterP l[i] ∧ l[i].f_Epoch = l[0].f_Epoch ∧ l[i].f_Box.length = l[0].f_Box.length ∧ ∀ k (hk : k < i), ¬ (l[k]'(by omega)).f_From = l[i].f_From
noncomputable def fanSame (l : List MLetter) : Bool := @decide (∀ i, i < l.length → fanP l i) (Classical.propDecidable _)
theorem fanSame_true {l : List MLetter} (h : ∀ i, i < l.length → fanP l i) : fanSame l = true := @decide_eq_true _ (Classical.propDecidable _) h
theorem fanSame_false {l : List MLetter} {i : Nat} (hi : i < l.length) (h : ¬ fanP l i) : fanSame l = false := @decide_eq_false _ (Classical.propDecidable _) fun g => h (g i hi)

theorem specFanSame_ok (w : World) (v : Value) (l : List MLetter) (h : (Kd.slice 88 kLetter).rd w w.heap.size [v] l) :
    ACalls Try.prog 36 #[v] w fun r w' => r = .bool (fanSame l) ∧ Below w.heap.size w w' := by
  have hlm := sl_len h
  obtain ⟨A, c, rfl, hc1, hc2, ha⟩ := sl_open h
  refine body_of follows Try.func36 rfl rfl _ rfl (by kernel_rfl) (vs ?_)
  refine loop_at (σ := Nat) (fun k => [(0, .slice A l.length c), (3, .int .i64 (k : Int))])
    (fun k w' => k ≤ l.length ∧ (∀ i, i < k → fanP l i) ∧ Sep w.heap.size w w' []) (fun k => l.length - k) 0 (vs trivial) ⟨Nat.zero_le _, fun i h => absurd h (Nat.not_lt_zero i), Sep.start w⟩ ?_
  rintro k s w2 ⟨hk, hall, H⟩
  refine vs (ways ?_ ?_)
  · refine vh fun hlt => ?_
    have hk2 : k < l.length := by omega
    have hk0 : 0 < l.length := by omega
    refine draw_at [(0, true), (1, true), (2, true), (3, true), (4, false), (5, true), (6, true), (7, true), (8, true), (9, true), (10, true), (11, true), (12, true), (13, true), (14, true), (15, true), (16, true), (17, true), (18, true), (19, true), (20, true), (21, true), (22, true), (23, true), (24, true), (25, true), (26, true), (27, true), (28, true), (29, true), (30, true), (31, true)] fun w3 hh hb3 => vs ?_
    have H := H.go (hb3 _)
    refine q_ele H sl53 rfl k hk2 ha rfl fun ad es hb hr hc => vs ?_
    have hbn := Nat.lt_of_lt_of_le hb H.ns
    refine q_lds st88 hc (Kd.len _ hr) hbn (vs ?_)
    refine x_call (specLetterOk_ok w3 es _ (H.rd hr)) fun _ w4 ⟨e4, hb4⟩ => ?_
    subst e4
    have HK := kept_of hb4 (Nat.le_refl _)
    have H4 := H.go hb4
    by_cases hA : letterOk l[k] = true
    · refine ve hA ?_
      refine ⟨HK, ?_⟩
      obtain ⟨u1, u2, rfl, hy0, hy1, hy2⟩ := kLetter_open hr
      obtain ⟨B2, b2, rfl, _, _, _⟩ := sl_open hy2
      refine q_ele H sl53 rfl k hk2 ha rfl fun ad1 es1 hb1 hr1 hc1' => vs ?_
      obtain ⟨x1, x2, rfl, _, _, hx2⟩ := kLetter_open hr1
      have hbn1 := Nat.lt_of_lt_of_le hb1 H.ns
      refine q_lf0 sc3 hc1' (by decide) hbn1 rfl ?_
      refine vs ?_
      refine q_ele H sl53 rfl 0 hk0 ha rfl fun ad2 es2 hb2 hr2 hc2' => vs ?_
      obtain ⟨y1, y2, rfl, _, _, hz2⟩ := kLetter_open hr2
      have hbn2 := Nat.lt_of_lt_of_le hb2 H.ns
      refine q_lf0 sc3 hc2' (by decide) hbn2 rfl ?_
      by_cases hB : l[k].f_Epoch = l[0].f_Epoch
      · refine ve hB ?_
        refine q_ele H sl53 rfl k hk2 ha rfl fun ad3 es3 hb3' hr3 hc3' => vs ?_
        obtain ⟨p1, p2, rfl, _, _, hp2⟩ := kLetter_open hr3
        obtain ⟨C2, d2, rfl, _, _, _⟩ := sl_open hp2
        refine q_lfj sc24 hc3' (by decide) (Nat.lt_of_lt_of_le hb3' H.ns) rfl ?_
        refine vs ?_
        refine q_ele H sl53 rfl 0 hk0 ha rfl fun ad4 es4 hb4' hr4 hc4' => vs ?_
        obtain ⟨q1, q2, rfl, _, _, hq2⟩ := kLetter_open hr4
        obtain ⟨D2, f2, rfl, _, _, _⟩ := sl_open hq2
        refine q_lfj sc24 hc4' (by decide) (Nat.lt_of_lt_of_le hb4' H.ns) rfl ?_
        refine vs (ways ?_ ?_)
        · refine vh fun hC => ?_
          refine loop_at (σ := Nat) (fun j => [(0, .slice A l.length c), (3, .int .i64 (k : Int)), (4, .int .i64 (j : Int))])
            (fun j w' => j ≤ k ∧ (∀ i (hi : i < k), i < j → ¬ (l[i]'(by omega)).f_From = l[k].f_From) ∧ Sep w.heap.size w w' []) (fun j => k - j) 0 (vs trivial) ⟨Nat.zero_le _, fun i _ h => absurd h (Nat.not_lt_zero i), H4⟩ ?_
          rintro j s3 w6 ⟨hj, hne, H⟩
          refine vs (ways ?_ ?_)
          · refine vh fun hjk => ?_
            refine draw_at [(0, true), (1, true), (2, true), (3, true), (4, true), (5, true), (6, true), (7, true), (8, true), (9, true), (10, false)] fun w7 hh7 hb7 => vs ?_
            have H := H.go (hb7 _)
            refine q_ele H sl53 rfl j (by omega) ha rfl fun ad5 es5 hb5 hr5 hc5 => vs ?_
            obtain ⟨a1, a2, rfl, _, ha1, _⟩ := kLetter_open hr5
            refine q_lfj sc24 hc5 (by decide) (Nat.lt_of_lt_of_le hb5 H.ns) rfl ?_
            refine vs ?_
            refine q_ele H sl53 rfl k hk2 ha rfl fun ad6 es6 hb6 hr6 hc6 => vs ?_
            obtain ⟨e1, e2, rfl, _, he1, _⟩ := kLetter_open hr6
            refine q_lfj sc24 hc6 (by decide) (Nat.lt_of_lt_of_le hb6 H.ns) rfl ?_
            refine vs ?_
            refine x_callw (specSame_ok w7 a1 e1 _ _ (H.rd ha1) (H.rd he1)) ?_
            refine vs ?_
            refine ⟨Kept.refl .., ?_⟩
            refine ways ?_ ?_
            · refine vh fun hS => ?_
              exact ⟨by rw [fanSame_false hk2 fun ⟨_, _, _, _, _, h⟩ => h j (by omega) hS], H.bel⟩
            · refine vh fun hS => ?_
              refine ⟨j + 1, i64_eq (by unfold w64; omega), ⟨by omega, fun i hi h => ?_, H⟩, by omega⟩
              by_cases h2 : i = j
              · subst h2; exact hS
              · exact hne i hi (by omega)
          · refine vh fun hjk => ?_
            refine ⟨k + 1, i64_eq (by unfold w64; omega), ⟨hk2, fun i h => ?_, H⟩, by omega⟩
            by_cases h2 : i = k
            · subst h2; exact ⟨hk2, hk0, of_decide_eq_true hA, hB, by omega, fun q hq => hne q hq (by omega)⟩
            · exact hall i (by omega)
        · refine vh fun hC => ?_
          exact ⟨by rw [fanSame_false hk2 fun ⟨_, _, _, _, h, _⟩ => by omega], H4.bel⟩
      · refine ve hB ?_
        exact ⟨by rw [fanSame_false hk2 fun ⟨_, _, _, h, _⟩ => hB h], H4.bel⟩
    · have hA' : letterOk l[k] = false := (Bool.not_eq_true _).mp hA
      refine ve hA' ?_
      exact ⟨HK, by rw [fanSame_false hk2 fun ⟨_, _, h, _⟩ => hA (decide_eq_true h)], H4.bel⟩
  · refine vh fun hlt => ?_
    exact ⟨by rw [fanSame_true fun i hi => hall i (by omega)], H.bel⟩

theorem implFanSame1_ok (w : World) (es cs : List Value) (x y : MLetter) (g : Nat) (h : kLetter.rd w w.heap.size es x) (h' : kLetter.rd w w.heap.size cs y) (hg : ∀ j, j < 3 → w.cell? ⟨g, j, none⟩ = cs[j]?) :
    ACalls Try.prog 75 (#[] ++ #[.agg es.toArray] ++ #[.pointer (some ⟨g, 0, none⟩)]) w fun r w' => r = .bool (decide (x.f_From = y.f_From)) ∧ Below w.heap.size w w' := by
  obtain ⟨u1, u2, rfl, hx0, hx1, hx2⟩ := kLetter_open h
  obtain ⟨v1, v2, rfl, hy0, hy1, hy2⟩ := kLetter_open h'
  have hlt : g < w.heap.size := by
    have := hg 0 (by omega)
    unfold World.cell? at this
    rcases Nat.lt_or_ge g w.heap.size with h1 | h1
    · exact h1
    · simp [Array.getElem?_eq_none h1] at this
  have H := Sep.start w
  refine body_of (args := [.agg [_, _, _].toArray, .pointer (some ⟨g, 0, none⟩)]) follows Try.func75 rfl rfl _ rfl (by kernel_rfl) (vs ?_)
  refine x_bx H [_, _, _] fun g1 w1 H => vs ?_
  refine x_ld H sc24 ?_
  refine vs ?_
  refine x_load sc24 ((H.bel.cell (p := ⟨g, 1, none⟩) hlt).trans (hg 1 (by omega))) ?_
  refine vs ?_
  refine x_callw (implSame_ok w1 u1 v1 _ _ (H.rd hx1) (H.rd hy1)) (vs ?_)
  exact H.bel

theorem implFanSame_ok (w : World) (v : Value) (l : List MLetter) (h : (Kd.slice 88 kLetter).rd w w.heap.size [v] l) :
    ACalls Try.prog 38 #[v] w fun r w' => r = .bool (fanSame l) ∧ Below w.heap.size w w' := by
  have hlm := sl_len h
  have h0 := h
  obtain ⟨A, c, rfl, hc1, hc2, ha⟩ := sl_open h
  refine body_of follows Try.func38 rfl rfl _ rfl (by kernel_rfl) (vs ?_)
  refine loop_at (σ := Nat) (fun k => [(0, .slice A l.length c), (5, .slice A l.length c), (6, .int .i64 (l.length : Int)), (7, .int .i64 (k : Int))])
    (fun k w' => k ≤ l.length ∧ (∀ i, i < k → fanP l i) ∧ Sep w.heap.size w w' []) (fun k => l.length - k) 0 (vs trivial) ⟨Nat.zero_le _, fun i h => absurd h (Nat.not_lt_zero i), Sep.start w⟩ ?_
  rintro k s w2 ⟨hk, hall, H⟩
  refine vs (ways ?_ ?_)
  · refine vh fun hlt => ?_
    have hk2 : k < l.length := by omega
    have hk0 : 0 < l.length := by omega
    refine x_ele H sl53 rfl k hk2 ha rfl fun ad es hb hr hc => vs ?_
    refine x_lds st88 hc (Kd.len _ hr) (vs ?_)
    have hone := Kd.one _ hr
    obtain ⟨u1, u2, rfl, hy0, hy1, hy2⟩ := kLetter_open hr
    obtain ⟨B2, b2, rfl, _, _, _⟩ := sl_open hy2
    refine x_al H st88 fun g w3 H => vs ?_
    refine x_sta H st88 (h1 := hone) fun w4 H => vs ?_
    refine draw_at [(0, true), (1, false), (2, true), (3, true), (4, true), (5, true), (6, true), (7, true), (8, true), (9, true), (10, true), (11, true), (12, true), (13, true), (14, true), (15, true), (16, true), (17, true), (18, true), (19, true), (20, true), (21, true), (22, true)] fun w5 hh hb5 => vs ?_
    have H := H.go (hb5 _)
    refine q_lda H st88 ?_
    refine vs ?_
    refine x_call (implLetterOk_ok w5 _ _ (H.rd hr)) fun _ w6 ⟨e6, hb6⟩ => ?_
    subst e6
    have HK := kept_of hb6 (Nat.le_refl _)
    have H6 := H.go hb6
    by_cases hA : letterOk l[k] = true
    · refine ve hA ?_
      refine ⟨HK, ?_⟩
      refine q_ld H sc3 ?_
      refine vs ?_
      refine q_ele H sl53 rfl 0 hk0 ha rfl fun ad2 es2 hb2 hr2 hc2' => vs ?_
      obtain ⟨y1, y2, rfl, _, _, hz2⟩ := kLetter_open hr2
      have hbn2 := Nat.lt_of_lt_of_le hb2 H.ns
      refine q_lf0 sc3 hc2' (by decide) hbn2 rfl ?_
      by_cases hB : l[k].f_Epoch = l[0].f_Epoch
      · refine ve hB ?_
        refine q_ld H sc24 ?_
        refine vs ?_
        refine q_ele H sl53 rfl 0 hk0 ha rfl fun ad4 es4 hb4' hr4 hc4' => vs ?_
        obtain ⟨q1, q2, rfl, _, _, hq2⟩ := kLetter_open hr4
        obtain ⟨D2, f2, rfl, _, _, _⟩ := sl_open hq2
        refine q_lfj sc24 hc4' (by decide) (Nat.lt_of_lt_of_le hb4' H.ns) rfl ?_
        refine vs (ways ?_ ?_)
        · refine vh fun hC => ?_
          refine x_to sl53 rfl (H6.rd h0) (Nat.le_of_lt hk2) fun v' hv' => vs ?_
          refine x_callb H6 (containsFuncL_ok w6 v' (l.take k) (fun y => decide (y.f_From = l[k].f_From)) 75 #[] #[.pointer (some ⟨g, 0, none⟩)] hv' en75 fun w' u y hb hy => ?_) fun w7 H => vs (ways ?_ ?_)
          · have hcell : ∀ j, j < 3 → w6.cell? ⟨g, j, none⟩ = ([Value.int .i64 l[k].f_Epoch, u1, .slice B2 l[k].f_Box.length b2])[j]? := fun j hj => by
              have := H6.cell (g := g) (t := 88) (.head _) j
              rw [this]
              have : j = 0 ∨ j = 1 ∨ j = 2 := by omega
              rcases this with rfl | rfl | rfl <;> rfl
            refine implFanSame1_ok w' u _ y l[k] g hy (Kd.le _ (Kd.mono _ (H6.rd hr) hb) hb.size) fun j hj => ?_
            exact (hb.cell (p := ⟨g, j, none⟩) (H6.lt (g := g) (t := 88) (.head _))).trans (hcell j hj)
          · refine vh fun hS => ?_
            refine ⟨?_, H.bel⟩
            obtain ⟨y, hy, he⟩ := List.any_eq_true.1 hS
            obtain ⟨j, hj, rfl⟩ := List.getElem_of_mem hy
            simp only [List.length_take] at hj
            rw [fanSame_false hk2 fun ⟨_, _, _, _, _, h⟩ => h j (by omega) (by simpa using he)]
          · refine vh fun hS => ?_
            refine ⟨k + 1, i64_eq (by unfold w64; omega), ⟨hk2, fun i h => ?_, H.tail⟩, by omega⟩
            by_cases h2 : i = k
            · subst h2
              exact ⟨hk2, hk0, of_decide_eq_true hA, hB, by omega, fun q hq he => hS (List.any_eq_true.2 ⟨l[q]'(by omega), List.mem_take_iff_getElem.2 ⟨q, by omega, rfl⟩, by simpa using he⟩)⟩
            · exact hall i (by omega)
        · refine vh fun hC => ?_
          exact ⟨by rw [fanSame_false hk2 fun ⟨_, _, _, _, h, _⟩ => by omega], H6.bel⟩
      · refine ve hB ?_
        exact ⟨by rw [fanSame_false hk2 fun ⟨_, _, _, h, _⟩ => hB h], H6.bel⟩
    · have hA' : letterOk l[k] = false := (Bool.not_eq_true _).mp hA
      refine ve hA' ?_
      exact ⟨HK, by rw [fanSame_false hk2 fun ⟨_, _, h, _⟩ => hA (decide_eq_true h)], H6.bel⟩
  · refine vh fun hlt => ?_
    exact ⟨by rw [fanSame_true fun i hi => hall i (by omega)], H.bel⟩
end Go.Proofs.Ytaaommmjpeedcaa.V
