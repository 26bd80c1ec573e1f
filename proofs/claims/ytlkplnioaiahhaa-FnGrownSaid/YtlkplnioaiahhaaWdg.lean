/- Draws of lists. -/
import Derived.Test.YtlkplnioaiahhaaWdf
import Derived.Test.YtlkplnioaiahhaaWz
namespace Go.Proofs.Ytlkplnioaiahhaa.V
open Go Go.RowKit
set_option maxRecDepth 100000
set_option maxHeartbeats 4000000
set_option linter.unusedSimpArgs false
set_option linter.unusedVariables false
set_option pp.deepTerms false
set_option pp.deepTerms.threshold 3

theorem l1Once_ok {n : Nat} {w0 w : World} {L : List Ck} {g : Nat} {v : Value} {i h : Int} {a : List UInt8} (m : Int) (H : Sep n w0 w (curB g v i h :: L)) (hv : (bytes 5).rd w0 n [v] a) (hi : 0 ≤ i ∧ i ≤ a.length) :
    ACalls Try.prog 72 #[.pointer (some ⟨g, 0, none⟩), .int .i64 m] w fun r w' => ∃ (b : Bool) (i' h' : Int), r = .bool b ∧ (0 ≤ i' ∧ i' ≤ a.length) ∧ Sep n w0 w' (curB g v i' h' :: L) := by
  refine body_of follows Try.func72 rfl rfl _ rfl (by kernel_rfl) (vs ?_)
  refine x_call (l1Below_ok m H hv hi) fun _ w1 ⟨k, i1, h1, e, hk, hi1, H⟩ => ?_
  subst e
  refine vs ?_
  exact ⟨_, _, _, rfl, hi1, H⟩
/-- What a drawn list is like. -/
def Drawn (l : List (List UInt8)) : Prop := l.length ≤ 41 ∧ ∀ b ∈ l, b.length ≤ 4
theorem Drawn.few {l : List (List UInt8)} (h : Drawn l) : Few l := fun a ha => by have := h.2 a ha; omega
theorem Drawn.app {l : List (List UInt8)} {b : List UInt8} (h : Drawn l) (hl : l.length ≤ 40) (hb : b.length ≤ 4) : Drawn (l ++ [b]) :=
  ⟨by simp only [List.length_append, List.length_cons, List.length_nil]; omega, fun a ha => by
    rcases List.mem_append.1 ha with ha | ha
    · exact h.2 a ha
    · rw [List.mem_singleton.1 ha]; exact hb⟩
theorem l23DrawList_ok {n : Nat} {w0 w : World} {L : List Ck} {g : Nat} {v : Value} {i h : Int} {a : List UInt8} (H : Sep n w0 w (curB g v i h :: L)) (hv : (bytes 5).rd w0 n [v] a) (hi : 0 ≤ i ∧ i ≤ a.length) :
    ACalls Try.prog 49 #[.pointer (some ⟨g, 0, none⟩)] w fun r w' => ∃ (l : List (List UInt8)) (fp : List Nat) (i' h' : Int), Drawn l ∧ (0 ≤ i' ∧ i' ≤ a.length) ∧ Sep n w0 w' (Ck.own lists fp [r] l :: curB g v i' h' :: L) := by
  refine body_of follows Try.func49 rfl rfl _ rfl (by kernel_rfl) (vs ?_)
  refine x_empO (d := bytes 5) H sl24 fun g1 w1 H => vs ?_
  have H := H.front (c := curB g v i h)
  refine x_call (l1Below_ok 12 H hv hi) fun _ w2 ⟨k, i1, h1, e, hk, hi1, H⟩ => ?_
  subst e
  refine vs ?_
  have hk12 : k ≤ 12 := by omega
  refine loop_at (σ := Nat × Value × List (List UInt8) × List Nat × Int × Int) (fun y => [(0, .pointer (some ⟨g, 0, none⟩)), (3, y.2.1), (4, .int .i64 (k : Int)), (5, .int .i64 (y.1 : Int))])
    (fun y w' => y.1 ≤ k ∧ y.2.2.1.length = y.1 ∧ Drawn y.2.2.1 ∧ (0 ≤ y.2.2.2.2.1 ∧ y.2.2.2.2.1 ≤ a.length) ∧ Sep n w0 w' (Ck.own lists y.2.2.2.1 [y.2.1] y.2.2.1 :: curB g v y.2.2.2.2.1 y.2.2.2.2.2 :: L)) (fun y => k - y.1) (0, .slice (some ⟨g1, 0, none⟩) 0 0, [], [g1], i1, h1) (vs trivial) ⟨Nat.zero_le _, rfl, ⟨by simp, by simp⟩, hi1, H.front⟩ ?_
  rintro ⟨j, u, l, fp, i2, h2⟩ s w3 ⟨hj, hb, hd, hi2, H⟩
  dsimp only at hj hb hd hi2 H
  refine vs (ways ?_ ?_)
  · refine vh fun hlt => ?_
    have H := H.front (c := curB g v i2 h2)
    refine x_call (l1DrawBytes_ok 4 H hv hi2 (by omega)) fun r w4 ⟨b, f4, i3, h3, hb4, hi3, H⟩ => ?_
    refine vs ?_
    obtain ⟨A4, c4, rfl, _⟩ := sl_open (H.own (.head _))
    refine x_lst1 sl24 H rfl rfl fun f5 v5 w5 H => vs ?_
    have H := H.front (c := Ck.own lists fp [u] l)
    have H := H.front (c := Ck.own lists f5 [v5] [b])
    refine x_appO sl24 H rfl ?_ ?_ fun f6 v6 w6 H => vs ?_
    · simp only [List.length_cons, List.length_nil]; omega
    · simp only [List.length_cons, List.length_nil]; omega
    exact ⟨(j + 1, v6, l ++ [b], f6, i3, h3), ⟨rfl, i64_eq (by show w64 ((j : Int) + 1) = ((j + 1 : Nat) : Int); exact w64_succ (b := 1048576) (by omega) (by omega))⟩, ⟨by dsimp only; omega, by dsimp only; simp [hb], hd.app (by omega) hb4, hi3, H⟩, by show k - (j + 1) < k - j; omega⟩
  · refine vh fun hlt => ?_
    have H := H.front (c := curB g v i2 h2)
    refine x_call (l1Once_ok 40 H hv hi2) fun _ w4 ⟨b, i3, h3, e, hi3, H⟩ => ?_
    subst e
    cases b with
    | false =>
      refine vs ?_
      exact ⟨_, _, _, _, hd, hi3, H.front⟩
    | true =>
      refine vs ?_
      refine loop_at (σ := Value × List (List UInt8) × List Nat × Int × Int) (fun y => [(0, .pointer (some ⟨g, 0, none⟩)), (3, y.1)])
        (fun y w' => Drawn y.2.1 ∧ (0 ≤ y.2.2.2.1 ∧ y.2.2.2.1 ≤ a.length) ∧ Sep n w0 w' (Ck.own lists y.2.2.1 [y.1] y.2.1 :: curB g v y.2.2.2.1 y.2.2.2.2 :: L)) (fun y => 41 - y.2.1.length) (u, l, fp, i3, h3) (vs trivial) ⟨hd, hi3, H.front⟩ ?_
      rintro ⟨u, l, fp, i2, h2⟩ s w3 ⟨hd, hi2, H⟩
      dsimp only at hd hi2 H
      obtain ⟨A3, c3, rfl, _⟩ := sl_open (H.own (.head _))
      refine vs ?_
      have H := H.front (c := curB g v i2 h2)
      refine x_call (l1Below_ok 2 H hv hi2) fun _ w4 ⟨q, i4, h4, e, hq, hi4, H⟩ => ?_
      subst e
      refine ve (show w64 (40 + (q : Int)) = 40 + (q : Int) from w64_id (by omega) (by omega)) ?_
      by_cases q5 : (l.length : Int) < 40 + (q : Int)
      · refine ve q5 ?_
        refine x_lst H pl_u8 sl22 [1] (by simp) fun g6 w6 H => vs ?_
        refine x_lst1 sl24 H rfl rfl fun f7 v7 w7 H => vs ?_
        have H := H.front (c := Ck.own lists fp [.slice A3 l.length c3] l)
        have H := H.front (c := Ck.own lists f7 [v7] [[1]])
        refine x_appO sl24 H rfl ?_ ?_ fun f8 v8 w8 H => vs ?_
        · have := hd.1; simp only [List.length_cons, List.length_nil]; omega
        · have := hd.1; simp only [List.length_cons, List.length_nil]; omega
        exact ⟨(v8, l ++ [[1]], f8, i4, h4), rfl, ⟨hd.app (by omega) (by simp), hi4, H⟩, by show 41 - (l ++ [[1]]).length < 41 - l.length; simp only [List.length_append, List.length_cons, List.length_nil]; omega⟩
      · refine ve q5 ?_
        exact ⟨_, _, _, _, hd, hi4, H.front⟩
theorem drawRootOf_ok (w : World) (v : Value) (a : List UInt8) (hv : (bytes 5).rd w w.heap.size [v] a) :
    ACalls Try.prog 31 #[v] w fun r w' => ∃ (l : List (List UInt8)) (fp : List Nat), Drawn l ∧ Sep w.heap.size w w' [Ck.own lists fp [r] l] := by
  refine body_of follows Try.func31 rfl rfl _ rfl (by kernel_rfl) (vs ?_)
  refine x_call (l1New_ok w v a hv) fun _ w1 ⟨g, i, h, e, hi, H⟩ => ?_
  subst e
  refine vs ?_
  refine x_call (l23DrawList_ok H hv hi) fun r w2 ⟨l, fp, i1, h1, hd, hi1, H⟩ => ?_
  refine vs ?_
  exact ⟨l, fp, hd, H.drops' (L := [_])⟩
end Go.Proofs.Ytlkplnioaiahhaa.V
