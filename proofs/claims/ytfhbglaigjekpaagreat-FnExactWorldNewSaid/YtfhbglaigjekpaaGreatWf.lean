/- Readers that are right, both sides. -/
import Derived.Test.YtfhbglaigjekpaaGreatWd0
import Derived.Test.YtfhbglaigjekpaaGreatVq
namespace Go.Proofs.YtfhbglaigjekpaaGreat.V
open Go Go.RowKit
set_option maxRecDepth 100000
set_option maxHeartbeats 4000000
set_option linter.unusedSimpArgs false
set_option linter.unusedVariables false
set_option pp.deepTerms false
set_option pp.deepTerms.threshold 3

def seenP (x : MReader) (i : Nat) : Prop := ∃ (h : i < x.f_Seen.length) (h2 : i < x.f_Got.length), x.f_Seen[i].length ≤ 1560 ∧ x.f_Got[i].length ≤ 200 ∧ ∀ k (hk : k < i), ¬ x.f_Seen[k]'(by omega) = x.f_Seen[i]
def readerP (x : MReader) : Prop := x.f_Seed.length = 32 ∧ (0 ≤ x.f_Epoch ∧ x.f_Epoch ≤ 40) ∧ x.f_Seen.length ≤ 20 ∧ x.f_Got.length = x.f_Seen.length ∧ ∀ i, i < x.f_Seen.length → seenP x i
noncomputable def readerOk (x : MReader) : Bool := @decide (readerP x) (Classical.propDecidable _)
theorem readerOk_true {x : MReader} (h : readerP x) : readerOk x = true := @decide_eq_true _ (Classical.propDecidable _) h
theorem readerOk_false {x : MReader} (h : ¬ readerP x) : readerOk x = false := @decide_eq_false _ (Classical.propDecidable _) h

theorem specReaderOk_ok (w : World) (cs : List Value) (x : MReader) (h : kReader.rd w w.heap.size cs x) :
    ACalls Tryz.prog 57 #[.agg cs.toArray] w fun r w' => r = .bool (readerOk x) ∧ Below w.heap.size w w' := by
  obtain ⟨v0, v2, v3, rfl, h0, h1, h2, h3⟩ := kReader_open h
  have hl2 := sl_len h2
  obtain ⟨A0, c0, rfl, _, _, _⟩ := sl_open h0
  obtain ⟨A2, c2, rfl, hc2, hm2, ha2⟩ := sl_open h2
  obtain ⟨A3, c3, rfl, hc3, hm3, ha3⟩ := sl_open h3
  have H := Sep.start w
  refine body_of follows Tryz.func57 rfl rfl _ rfl (by kernel_rfl) (vs ?_)
  refine x_bx H [_, _, _, _] fun g1 w1 H => vs ?_
  refine x_ld H sc22 ?_
  by_cases hA : (x.f_Seed.length : Int) = 32
  · refine ve hA ?_
    refine x_ld H sc3 ?_
    refine vs ?_
    refine x_callw (l1In_ok w1 _ _ _) ?_
    by_cases hB : 0 ≤ x.f_Epoch ∧ x.f_Epoch ≤ 40
    · refine ve hB ?_
      refine x_ld H sc26 ?_
      by_cases hC : 20 < (x.f_Seen.length : Int)
      · refine ve hC ?_
        exact ⟨by rw [readerOk_false fun h => by have := h.2.2.1; omega], H.bel⟩
      · refine ve hC ?_
        refine x_ld H sc26 ?_
        refine vs ?_
        refine x_ld H sc26 ?_
        refine vs (ways ?_ ?_)
        · refine vh fun hD => ?_
          have hlg : x.f_Got.length = x.f_Seen.length := by omega
          refine loop_at (σ := Nat) (fun k => [(1, .pointer (some ⟨g1, 0, none⟩)), (3, .int .i64 (k : Int))])
            (fun k w' => k ≤ x.f_Seen.length ∧ (∀ i, i < k → seenP x i) ∧ Sep w.heap.size w w' [Ck.box g1 [.slice A0 x.f_Seed.length c0, .int .i64 x.f_Epoch, .slice A2 x.f_Seen.length c2, .slice A3 x.f_Got.length c3] 38]) (fun k => x.f_Seen.length - k) 0 (vs trivial) ⟨Nat.zero_le _, fun i h => absurd h (Nat.not_lt_zero i), H⟩ ?_
          rintro k s w2 ⟨hk, hall, H⟩
          refine vs ?_
          refine x_ld H sc26 ?_
          refine vs (ways ?_ ?_)
          · refine vh fun hlt => ?_
            have hk2 : k < x.f_Seen.length := by omega
            have hbad : ¬ seenP x k → readerOk x = false := fun hn => readerOk_false fun hp => hn (hp.2.2.2.2 k hk2)
            refine x_ld H sc26 ?_
            refine vs ?_
            refine x_elg sl26 rfl (ha2.mono H.bel) (by omega) hlt fun ad es hb hr hc => vs ?_
            have hr : (bytes 5).rd w2 w.heap.size es x.f_Seen[k] := hr
            obtain ⟨u, rfl⟩ := sl_one hr
            obtain ⟨B, cb, rfl, _, _, _⟩ := sl_open hr
            refine x_ld1 sc22 hc rfl (vs ?_)
            by_cases hE : 1560 < (x.f_Seen[k].length : Int)
            · refine ve hE ?_
              exact ⟨by rw [hbad fun ⟨_, _, h, _⟩ => by omega], H.bel⟩
            · refine ve hE ?_
              refine x_ld H sc26 ?_
              refine vs ?_
              refine x_elg sl26 rfl (ha3.mono H.bel) (by omega) (by omega) fun ad2 es2 hb2 hr2 hc2' => vs ?_
              have hr2 : (bytes 5).rd w2 w.heap.size es2 (x.f_Got[k]'(by omega)) := hr2
              obtain ⟨u2, rfl⟩ := sl_one hr2
              obtain ⟨B2, cb2, rfl, _, _, _⟩ := sl_open hr2
              refine x_ld1 sc22 hc2' rfl (vs ?_)
              refine ways ?_ ?_
              · refine vh fun hF => ?_
                exact ⟨by rw [hbad fun ⟨_, _, _, h, _⟩ => by omega], H.bel⟩
              · refine vh fun hF => ?_
                refine loop_at (σ := Nat) (fun j => [(1, .pointer (some ⟨g1, 0, none⟩)), (3, .int .i64 (k : Int)), (4, .int .i64 (j : Int))])
                  (fun j w' => j ≤ k ∧ (∀ i (hi : i < k), i < j → ¬ x.f_Seen[i]'(by omega) = x.f_Seen[k]) ∧ Sep w.heap.size w w' [Ck.box g1 [.slice A0 x.f_Seed.length c0, .int .i64 x.f_Epoch, .slice A2 x.f_Seen.length c2, .slice A3 x.f_Got.length c3] 38]) (fun j => k - j) 0 (vs trivial) ⟨Nat.zero_le _, fun i _ h => absurd h (Nat.not_lt_zero i), H⟩ ?_
                rintro j s3 w3 ⟨hj, hne, H⟩
                refine vs (ways ?_ ?_)
                · refine vh fun hjk => ?_
                  refine draw_at [(0, true), (1, true), (2, true), (3, true), (4, true), (5, true), (6, true), (7, true), (8, true), (9, true), (10, false)] fun w4 hh hb4 => vs ?_
                  have H := H.go (hb4 _)
                  refine q_ld H sc26 ?_
                  refine vs ?_
                  refine q_elg sl26 rfl (ha2.mono H.bel) (by omega) (by omega) fun ad3 es3 hb3 hr3 hc3' => vs ?_
                  have hr3 : (bytes 5).rd w4 w.heap.size es3 (x.f_Seen[j]'(by omega)) := hr3
                  obtain ⟨u3, rfl⟩ := sl_one hr3
                  refine q_ld1 sc22 hc3' rfl (Nat.lt_of_lt_of_le hb3 H.ns) (vs ?_)
                  refine q_ld H sc26 ?_
                  refine vs ?_
                  refine q_elg sl26 rfl (ha2.mono H.bel) (by omega) (by omega) fun ad5 es5 hb5 hr5 hc5' => vs ?_
                  have hr5 : (bytes 5).rd w4 w.heap.size es5 x.f_Seen[k] := hr5
                  obtain ⟨u5, rfl⟩ := sl_one hr5
                  refine q_ld1 sc22 hc5' rfl (Nat.lt_of_lt_of_le hb5 H.ns) (vs ?_)
                  refine x_callw (specSame_ok w4 u3 u5 _ _ (Kd.le _ hr3 H.ns) (Kd.le _ hr5 H.ns)) ?_
                  refine vs ?_
                  refine ⟨Kept.refl .., ?_⟩
                  refine ways ?_ ?_
                  · refine vh fun hS => ?_
                    exact ⟨by rw [hbad fun ⟨_, _, _, _, h⟩ => h j (by omega) hS], H.bel⟩
                  · refine vh fun hS => ?_
                    refine ⟨j + 1, i64_eq (by unfold w64; omega), ⟨by omega, fun i hi h => ?_, H⟩, by omega⟩
                    by_cases h2 : i = j
                    · subst h2; exact hS
                    · exact hne i hi (by omega)
                · refine vh fun hjk => ?_
                  refine ⟨k + 1, i64_eq (by unfold w64; omega), ⟨hk2, fun i h => ?_, H⟩, by omega⟩
                  by_cases h2 : i = k
                  · subst h2; exact ⟨hk2, by omega, by omega, by omega, fun q hq => hne q hq (by omega)⟩
                  · exact hall i (by omega)
          · refine vh fun hlt => ?_
            exact ⟨by rw [readerOk_true ⟨by omega, hB, by omega, hlg, fun i hi => hall i (by omega)⟩], H.bel⟩
        · refine vh fun hD => ?_
          exact ⟨by rw [readerOk_false fun h => by have := h.2.2.2.1; omega], H.bel⟩
    · refine ve hB ?_
      exact ⟨by rw [readerOk_false fun h => hB h.2.1], H.bel⟩
  · refine ve hA ?_
    exact ⟨by rw [readerOk_false fun h => hA (by have := h.1; omega)], H.bel⟩

theorem keyOf_ok (w : World) (v : Value) (a : List UInt8) (n : Int) (h : (bytes 5).rd w w.heap.size [v] a) :
    ACalls Tryz.prog 138 #[v, .int .i64 n] w fun r w' => r = .bool (decide (a.length = 32) && decide (0 ≤ n ∧ n ≤ 40)) ∧ w' = w := by
  obtain ⟨A, c, rfl, _, _, _⟩ := sl_open h
  refine body_of follows Tryz.func138 rfl rfl _ rfl (by kernel_rfl) (vs ?_)
  by_cases hA : (a.length : Int) = 32
  · refine ve hA ?_
    refine x_callw (in_ok w _ _ _) ?_
    refine ve hA ?_
    have : a.length = 32 := by omega
    simp [this]
  · refine ve hA ?_
    have : ¬ a.length = 32 := by omega
    simp [this]
theorem implReaderOk1_ok (w : World) (u : Value) (g : Nat) (v : Value) (x b : List UInt8) (h : (bytes 5).rd w w.heap.size [u] x) (h' : (bytes 5).rd w w.heap.size [v] b) (hg : w.cell? ⟨g, 0, none⟩ = some v) :
    ACalls Tryz.prog 140 (#[] ++ #[u] ++ #[.pointer (some ⟨g, 0, none⟩)]) w fun r w' => r = .bool (decide (x = b)) ∧ Below w.heap.size w w' := by
  refine body_of (args := [u, .pointer (some ⟨g, 0, none⟩)]) follows Tryz.func140 rfl rfl _ rfl (by kernel_rfl) (vs ?_)
  refine x_load sc22 hg (vs ?_)
  refine x_callw (implSame_ok w u v x b h h') (vs ?_)
  exact Below.refl ..

theorem implReaderOk_ok (w : World) (cs : List Value) (x : MReader) (h : kReader.rd w w.heap.size cs x) :
    ACalls Tryz.prog 66 #[.agg cs.toArray] w fun r w' => r = .bool (readerOk x) ∧ Below w.heap.size w w' := by
  obtain ⟨v0, v2, v3, rfl, h0, h1, h2, h3⟩ := kReader_open h
  have hl2 := sl_len h2
  have h2' := h2
  obtain ⟨A2, c2, rfl, hc2, hm2, ha2⟩ := sl_open h2
  obtain ⟨A3, c3, rfl, hc3, hm3, ha3⟩ := sl_open h3
  have H := Sep.start w
  refine body_of follows Tryz.func66 rfl rfl _ rfl (by kernel_rfl) (vs ?_)
  refine x_bx H [_, _, _, _] fun g1 w1 H => vs ?_
  refine x_ld H sc22 ?_
  refine vs ?_
  refine x_ld H sc3 ?_
  refine vs ?_
  refine x_callw (keyOf_ok w1 v0 x.f_Seed _ (H.rd h0)) ?_
  by_cases hA : (decide (x.f_Seed.length = 32) && decide (0 ≤ x.f_Epoch ∧ x.f_Epoch ≤ 40)) = true
  · have hA' := hA
    simp only [Bool.and_eq_true, decide_eq_true_eq] at hA'
    generalize (decide (x.f_Seed.length = 32) && decide (0 ≤ x.f_Epoch ∧ x.f_Epoch ≤ 40)) = kb at hA
    subst hA
    refine vs ?_
    refine x_ld H sc26 ?_
    by_cases hC : 20 < (x.f_Seen.length : Int)
    · refine ve hC ?_
      exact ⟨by rw [readerOk_false fun h => by have := h.2.2.1; omega], H.bel⟩
    · refine ve hC ?_
      refine x_ld H sc26 ?_
      refine vs ?_
      refine x_ld H sc26 ?_
      refine vs (ways ?_ ?_)
      · refine vh fun hD => ?_
        have hlg : x.f_Got.length = x.f_Seen.length := by omega
        refine x_ld H sc26 ?_
        refine vs ?_
        refine loop_at (σ := Nat) (fun k => [(1, .pointer (some ⟨g1, 0, none⟩)), (27, .slice A2 x.f_Seen.length c2), (28, .int .i64 (x.f_Seen.length : Int)), (29, .int .i64 (k : Int))])
          (fun k w' => k ≤ x.f_Seen.length ∧ (∀ i, i < k → seenP x i) ∧ Sep w.heap.size w w' [Ck.box g1 [v0, .int .i64 x.f_Epoch, .slice A2 x.f_Seen.length c2, .slice A3 x.f_Got.length c3] 38]) (fun k => x.f_Seen.length - k) 0 (vs trivial) ⟨Nat.zero_le _, fun i h => absurd h (Nat.not_lt_zero i), H⟩ ?_
        rintro k s w2 ⟨hk, hall, H⟩
        refine vs (ways ?_ ?_)
        · refine vh fun hlt => ?_
          have hk2 : k < x.f_Seen.length := by omega
          have hbad : ¬ seenP x k → readerOk x = false := fun hn => readerOk_false fun hp => hn (hp.2.2.2.2 k hk2)
          refine x_ele H sl26 rfl k hk2 ha2 rfl fun ad es hb hr hc => vs ?_
          obtain ⟨u, rfl⟩ := sl_one hr
          have hr0 := hr
          obtain ⟨B, cb, rfl, _, _, _⟩ := sl_open hr
          refine x_ld1 sc22 hc rfl (vs ?_)
          refine x_al1 H sc22 fun g2 w3 H => vs ?_
          refine x_st H sc22 fun w4 H => vs ?_
          refine x_ld H sc22 ?_
          by_cases hE : 1560 < (x.f_Seen[k].length : Int)
          · refine ve hE ?_
            exact ⟨by rw [hbad fun ⟨_, _, h, _⟩ => by omega], H.bel⟩
          · refine ve hE ?_
            refine x_ld H sc26 ?_
            refine vs ?_
            refine x_to sl26 rfl (H.rd h2') (by omega) fun v5 hv5 => vs ?_
            have hcell := H.cell (g := g2) (cs := [.slice B x.f_Seen[k].length cb]) (t := 22) (.head _) 0
            have hlt2 := H.lt (g := g2) (cs := [.slice B x.f_Seen[k].length cb]) (t := 22) (.head _)
            refine x_callb H (containsFuncB_ok w4 v5 (x.f_Seen.take k) (fun y => decide (y = x.f_Seen[k])) 140 #[] #[.pointer (some ⟨g2, 0, none⟩)] hv5 en140 fun w' u y hb hy => implReaderOk1_ok w' u g2 _ y _ hy (Kd.le _ (Kd.mono _ (H.rd hr0) hb) hb.size) ((hb.cell hlt2).trans hcell)) fun w5 H => ?_
            by_cases hS : ((x.f_Seen.take k).any fun y => decide (y = x.f_Seen[k])) = true
            · have hS' := hS
              generalize ((x.f_Seen.take k).any fun y => decide (y = x.f_Seen[k])) = sb at hS
              subst hS
              refine vs ?_
              refine ⟨?_, H.bel⟩
              rw [hbad fun ⟨_, _, _, _, h⟩ => ?_]
              obtain ⟨y, hy, he⟩ := List.any_eq_true.1 hS'
              obtain ⟨i, hi, rfl⟩ := List.getElem_of_mem hy
              simp only [List.length_take] at hi
              simp only [List.getElem_take, decide_eq_true_eq] at he
              exact h i (by omega) he
            · have hS' : ((x.f_Seen.take k).any fun y => decide (y = x.f_Seen[k])) = false := (Bool.not_eq_true _).mp hS
              have hS2 := hS'
              generalize ((x.f_Seen.take k).any fun y => decide (y = x.f_Seen[k])) = sb at hS'
              subst hS'
              refine vs ?_
              refine x_ld H sc26 ?_
              refine vs ?_
              refine x_ele H sl26 rfl k (by omega) ha3 rfl fun ad2 es2 hb2 hr2 hc2' => vs ?_
              obtain ⟨u2, rfl⟩ := sl_one hr2
              obtain ⟨B2, cb2, rfl, _, _, _⟩ := sl_open hr2
              refine x_ld1 sc22 hc2' rfl (vs ?_)
              refine ways ?_ ?_
              · refine vh fun hF => ?_
                exact ⟨by rw [hbad fun ⟨_, _, _, h, _⟩ => by omega], H.bel⟩
              · refine vh fun hF => ?_
                refine ⟨k + 1, i64_eq (by unfold w64; omega), ⟨hk2, fun i h => ?_, H.tail⟩, by omega⟩
                by_cases h2 : i = k
                · subst h2
                  refine ⟨hk2, by omega, by omega, by omega, fun q hq hqe => ?_⟩
                  rw [List.any_eq_false] at hS2
                  refine hS2 (x.f_Seen[q]'(by omega)) ?_ (by simpa using hqe)
                  exact List.mem_take_iff_getElem.2 ⟨q, by omega, rfl⟩
                · exact hall i (by omega)
        · refine vh fun hlt => ?_
          exact ⟨by rw [readerOk_true ⟨hA'.1, hA'.2, by omega, hlg, fun i hi => hall i (by omega)⟩], H.bel⟩
      · refine vh fun hD => ?_
        exact ⟨by rw [readerOk_false fun h => by have := h.2.2.2.1; omega], H.bel⟩
  · have hA' : (decide (x.f_Seed.length = 32) && decide (0 ≤ x.f_Epoch ∧ x.f_Epoch ≤ 40)) = false := by simpa using hA
    refine ve hA' ?_
    refine ⟨?_, H.bel⟩
    rw [readerOk_false fun h => hA (by simp [h.1, h.2.1])]
end Go.Proofs.YtfhbglaigjekpaaGreat.V
