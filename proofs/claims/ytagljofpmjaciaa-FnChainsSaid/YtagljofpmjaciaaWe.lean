/- What was caught of a chain, both sides. -/
import Derived.Test.YtagljofpmjaciaaWc
namespace Go.Proofs.Ytagljofpmjaciaa.V
open Go Go.RowKit
set_option maxRecDepth 100000
set_option maxHeartbeats 4000000
set_option linter.unusedSimpArgs false
set_option linter.unusedVariables false
set_option pp.deepTerms false
set_option pp.deepTerms.threshold 3

def keptP (c : Int) (l : List MKept) (i : Nat) (h : i < l.length) : Prop := (0 ≤ l[i].f_N ∧ l[i].f_N ≤ c) ∧ l[i].f_Key.length = 32 ∧ (0 < i → (l[i - 1]'(by omega)).f_N < l[i].f_N)
def catchP (x : MCatch) : Prop := chainOk x.f_Chain = true ∧ x.f_List.length ≤ 5 ∧ ∀ i (h : i < x.f_List.length), keptP (x.f_Chain.f_N - 1) x.f_List i h
noncomputable def catchOk (x : MCatch) : Bool := @decide (catchP x) (Classical.propDecidable _)
theorem catchOk_true {x : MCatch} (h : catchP x) : catchOk x = true := @decide_eq_true _ (Classical.propDecidable _) h
theorem catchOk_false {x : MCatch} (h : ¬ catchP x) : catchOk x = false := @decide_eq_false _ (Classical.propDecidable _) h
theorem chainOk_N {x : MChain} (h : chainOk x = true) : 0 ≤ x.f_N ∧ x.f_N ≤ 1000 := by
  simp only [chainOk, Bool.and_eq_true, decide_eq_true_eq] at h; exact h.2

theorem specCatchOk_ok (w : World) (cs : List Value) (x : MCatch) (h : kCatch.rd w w.heap.size cs x) :
    ACalls Try.prog 60 #[.agg cs.toArray] w fun r w' => r = .bool (catchOk x) ∧ Below w.heap.size w w' := by
  obtain ⟨v0, v1, rfl, h0, h1⟩ := kCatch_open h
  have hlm := sl_len h1
  have h1' := h1
  obtain ⟨A, c, rfl, hc1, hc2, ha⟩ := sl_open h1
  have H := Sep.start w
  refine body_of follows Try.func60 rfl rfl _ rfl (by kernel_rfl) (vs ?_)
  refine x_bx H [v0, .int .i64 x.f_Chain.f_N, .slice A x.f_List.length c] fun g1 w1 H => vs ?_
  refine loop_at (σ := Nat) (fun k => [(1, .pointer (some ⟨g1, 0, none⟩)), (3, .int .i64 (k : Int))])
    (fun k w' => k ≤ x.f_List.length ∧ (∀ i (hi : i < x.f_List.length), i < k → keptP (w64 (x.f_Chain.f_N - 1)) x.f_List i hi) ∧ Sep w.heap.size w w' [Ck.box g1 [v0, .int .i64 x.f_Chain.f_N, .slice A x.f_List.length c] 50]) (fun k => x.f_List.length - k) 0 (vs trivial) ⟨Nat.zero_le _, fun i hi h => absurd h (Nat.not_lt_zero i), H⟩ ?_
  rintro k s w2 ⟨hk, hall, H⟩
  refine vs ?_
  refine x_ld H sc48 ?_
  refine vs (ways ?_ ?_)
  · refine vh fun hlt => ?_
    have hk2 : k < x.f_List.length := by omega
    have hbad : ¬ keptP (w64 (x.f_Chain.f_N - 1)) x.f_List k hk2 → catchOk x = false := fun hn => catchOk_false fun hp => hn (by
      have h2 := chainOk_N hp.1
      have h3 := hp.2.2 k hk2
      rw [w64_id (by omega) (by omega)]; exact h3)
    refine x_ld H sc48 ?_
    refine vs ?_
    refine x_elg sl48 rfl (ha.mono H.bel) (by omega) hlt fun ad es hb hr hc => vs ?_
    have hr : kKept.rd w2 w.heap.size es x.f_List[k] := hr
    refine x_lds st105 hc (Kd.len _ hr) (vs ?_)
    refine x_al H st105 fun g2 w3 H => vs ?_
    obtain ⟨u0, rfl, hy0, hy1⟩ := kKept_open hr
    obtain ⟨B, cb, rfl, _, _, _⟩ := sl_open hy1
    refine x_sta H st105 (h1 := Kd.one _ hr) fun w4 H => vs ?_
    refine draw_at [(0, true), (1, true), (2, true), (3, true), (4, true), (5, true), (6, false), (7, true), (8, true), (9, true), (10, true), (11, true), (12, true), (13, true), (14, true), (15, true), (16, true), (17, true), (18, true), (19, true), (20, true), (21, true), (22, true), (23, true), (24, true), (25, true), (26, true), (27, true), (28, true), (29, true)] fun w5 hh hb5 => vs ?_
    have H := H.go (hb5 _)
    refine q_ld H sc3 ?_
    refine vs ?_
    refine q_ld H sc3 ?_
    refine vs ?_
    refine x_callw (l1In_ok w5 _ _ _) ?_
    refine vs ?_
    refine ⟨Kept.refl .., ?_⟩
    by_cases hA : 0 ≤ x.f_List[k].f_N ∧ x.f_List[k].f_N ≤ w64 (x.f_Chain.f_N - 1)
    · refine ve hA ?_
      refine q_ld H sc22 ?_
      by_cases hB : (x.f_List[k].f_Key.length : Int) = 32
      · refine ve hB ?_
        by_cases hC : 0 < (k : Int)
        · refine ve hC ?_
          refine q_ld H sc48 ?_
          have e : w64 ((k : Int) - 1) = ((k - 1 : Nat) : Int) := by unfold w64; omega
          refine ve e ?_
          refine q_elg sl48 rfl (ha.mono H.bel) (by omega) (by omega) fun ad2 es2 hb2 hr2 hc2 => vs ?_
          have hr2 : kKept.rd w5 w.heap.size es2 (x.f_List[k - 1]'(by omega)) := hr2
          obtain ⟨u2, rfl, hz0, hz1⟩ := kKept_open hr2
          have hlt2 : ad2.block < w5.heap.size := Nat.lt_of_lt_of_le hb2 H.ns
          refine q_lf0 sc3 hc2 (by decide) hlt2 rfl ?_
          refine vs ?_
          refine q_ld H sc3 ?_
          refine vs (ways ?_ ?_)
          · refine vh fun hge => ?_
            exact ⟨by rw [hbad fun h => by have := h.2.2 (by omega); omega], H.bel⟩
          · refine vh fun hge => ?_
            refine ⟨k + 1, i64_eq (by unfold w64; omega), ⟨hk2, fun i hi h => ?_, H.tail⟩, by omega⟩
            by_cases h2 : i = k
            · subst h2; exact ⟨hA, by omega, fun _ => by omega⟩
            · exact hall i hi (by omega)
        · refine ve hC ?_
          refine ⟨k + 1, i64_eq (by unfold w64; omega), ⟨hk2, fun i hi h => ?_, H.tail⟩, by omega⟩
          by_cases h2 : i = k
          · subst h2; exact ⟨hA, by omega, fun h => absurd (by omega) hC⟩
          · exact hall i hi (by omega)
      · refine ve hB ?_
        exact ⟨by rw [hbad fun h => hB (by have := h.2.1; omega)], H.bel⟩
    · refine ve hA ?_
      exact ⟨by rw [hbad fun h => hA h.1], H.bel⟩
  · refine vh fun hlt => ?_
    refine x_ldp H [v0, .int .i64 x.f_Chain.f_N] st43 ?_
    refine vs ?_
    refine x_callb H (specChainOk_ok w2 _ x.f_Chain (H.rd h0)) fun w3 H => ?_
    by_cases hD : chainOk x.f_Chain = true
    · refine ve hD ?_
      refine x_ld H sc48 ?_
      refine vs ?_
      refine ⟨?_, H.bel⟩
      have hN := chainOk_N hD
      by_cases h5 : x.f_List.length ≤ 5
      · rw [catchOk_true ⟨hD, h5, fun i hi => by have := hall i hi (by omega); rw [w64_id (by omega) (by omega)] at this; exact this⟩]
        congr 1; simpa using (by omega : (x.f_List.length : Int) ≤ 5)
      · rw [catchOk_false fun h => h5 h.2.1]
        congr 1; simp; omega
    · have hD' : chainOk x.f_Chain = false := by simpa using hD
      refine ve hD' ?_
      rw [catchOk_false fun h => hD h.1]
      exact ⟨rfl, H.bel⟩

theorem implCatchOk_ok (w : World) (cs : List Value) (x : MCatch) (h : kCatch.rd w w.heap.size cs x) :
    ACalls Try.prog 36 #[.agg cs.toArray] w fun r w' => r = .bool (catchOk x) ∧ Below w.heap.size w w' := by
  obtain ⟨v0, v1, rfl, h0, h1⟩ := kCatch_open h
  have hlm := sl_len h1
  obtain ⟨A, c, rfl, hc1, hc2, ha⟩ := sl_open h1
  have H := Sep.start w
  refine body_of follows Try.func36 rfl rfl _ rfl (by kernel_rfl) (vs ?_)
  refine x_bx H [v0, .int .i64 x.f_Chain.f_N, .slice A x.f_List.length c] fun g1 w1 H => vs ?_
  refine x_ldp H [v0, .int .i64 x.f_Chain.f_N] st43 ?_
  refine vs ?_
  refine x_callb H (implChainOk_ok w1 _ x.f_Chain (H.rd h0)) fun w2 H => ?_
  by_cases hD : chainOk x.f_Chain = true
  · refine ve hD ?_
    refine x_ld H sc48 ?_
    refine vs (ways ?_ ?_)
    · refine vh fun h5 => ?_
      rw [catchOk_false fun h => by have := h.2.1; omega]
      exact ⟨rfl, H.bel⟩
    · refine vh fun h5 => ?_
      have hN := chainOk_N hD
      refine x_ld H sc48 ?_
      refine vs ?_
      refine loop_at (σ := Nat × Int) (fun y => [(1, .pointer (some ⟨g1, 0, none⟩)), (3, .int .i64 y.2), (17, .slice A x.f_List.length c), (18, .int .i64 (x.f_List.length : Int)), (19, .int .i64 (y.1 : Int))])
        (fun y w' => y.1 ≤ x.f_List.length ∧ (y.1 = 0 → y.2 = -1) ∧ (∀ (h : 0 < y.1) (h2 : y.1 - 1 < x.f_List.length), y.2 = x.f_List[y.1 - 1].f_N) ∧ (∀ i (hi : i < x.f_List.length), i < y.1 → keptP (x.f_Chain.f_N - 1) x.f_List i hi) ∧ Sep w.heap.size w w' [Ck.box g1 [v0, .int .i64 x.f_Chain.f_N, .slice A x.f_List.length c] 50]) (fun y => x.f_List.length - y.1) (0, -1) (vs trivial) ⟨Nat.zero_le _, fun _ => rfl, fun h => absurd h (Nat.lt_irrefl 0), fun i hi h => absurd h (Nat.not_lt_zero i), H⟩ ?_
      rintro ⟨k, last⟩ s w2 ⟨hk, hz, hlast, hall, H⟩
      dsimp only at hk hz hlast hall H
      refine vs (ways ?_ ?_)
      · refine vh fun hlt => ?_
        have hk2 : k < x.f_List.length := by omega
        have hbad : ¬ keptP (x.f_Chain.f_N - 1) x.f_List k hk2 → catchOk x = false := fun hn => catchOk_false fun hp => hn (hp.2.2 k hk2)
        refine x_elg sl48 rfl (ha.mono H.bel) (by omega) hlt fun ad es hb hr hc => vs ?_
        have hr : kKept.rd w2 w.heap.size es x.f_List[k] := hr
        refine x_lds st105 hc (Kd.len _ hr) (vs ?_)
        refine x_al H st105 fun g2 w3 H => vs ?_
        obtain ⟨u0, rfl, hy0, hy1⟩ := kKept_open hr
        obtain ⟨B, cb, rfl, _, _, _⟩ := sl_open hy1
        refine x_sta H st105 (h1 := Kd.one _ hr) fun w4 H => vs ?_
        refine x_ld H sc3 ?_
        by_cases hA : x.f_List[k].f_N ≤ last
        · refine ve hA ?_
          refine ⟨?_, H.bel⟩
          rw [hbad fun h => ?_]
          by_cases hk0 : k = 0
          · have := hz hk0; have := h.1.1; omega
          · have := hlast (by omega) (by omega); have := h.2.2 (by omega); omega
        · refine ve hA ?_
          refine x_ld H sc3 ?_
          refine vs ?_
          refine x_ld H sc3 ?_
          by_cases hB : x.f_Chain.f_N ≤ x.f_List[k].f_N
          · refine ve hB ?_
            refine ⟨?_, H.bel⟩
            rw [hbad fun h => by have := h.1.2; omega]
          · refine ve hB ?_
            refine x_ld H sc22 ?_
            by_cases hC : (x.f_List[k].f_Key.length : Int) = 32
            · refine ve hC ?_
              refine x_ld H sc3 ?_
              refine vs ?_
              refine ⟨(k + 1, x.f_List[k].f_N), ⟨rfl, i64_eq (by show w64 ((k : Int) + 1) = ((k + 1 : Nat) : Int); unfold w64; omega)⟩, ⟨hk2, fun h => absurd h (Nat.succ_ne_zero k), fun _ _ => rfl, fun i hi h => ?_, H.tail⟩, by show x.f_List.length - (k + 1) < x.f_List.length - k; omega⟩
              by_cases h2 : i = k
              · subst h2
                refine ⟨⟨?_, by omega⟩, by omega, fun h0 => ?_⟩
                · by_cases hk0 : i = 0
                  · have := hz hk0; omega
                  · have h3 := hlast (by omega) (by omega)
                    have h4 := (hall (i - 1) (by omega) (by omega)).1.1
                    omega
                · have h3 := hlast h0 (by omega)
                  omega
              · exact hall i hi (by have : i < k + 1 := h; omega)
            · refine ve hC ?_
              refine ⟨?_, H.bel⟩
              rw [hbad fun h => hC (by have := h.2.1; omega)]
      · refine vh fun hlt => ?_
        refine ⟨?_, H.bel⟩
        rw [catchOk_true ⟨hD, by omega, fun i hi => hall i hi (by omega)⟩]
  · have hD' : chainOk x.f_Chain = false := by simpa using hD
    refine ve hD' ?_
    rw [catchOk_false fun h => hD h.1]
    exact ⟨rfl, H.bel⟩
end Go.Proofs.Ytagljofpmjaciaa.V
