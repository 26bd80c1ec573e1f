/- Texts laid by programs, part 13. -/
import Derived.Test.YtcmckbgiiclomabGreatDoorU12
import Derived.Test.YtcmckbgiiclomabGreatDoorU07
import Derived.Test.YtcmckbgiiclomabGreatDoorU03
import Derived.Test.YtcmckbgiiclomabGreatDoorU06
namespace Go.Proofs.YtcmckbgiiclomabGreatDoor.V
open Go Go.RowKit
set_option maxRecDepth 100000
set_option maxHeartbeats 16000000
set_option linter.unusedSimpArgs false
set_option linter.unusedVariables false
set_option pp.deepTerms false
set_option pp.deepTerms.threshold 3
theorem lt_4 {i : Nat} (h : i < 4) : i = 0 ∨ i = 1 ∨ i = 2 ∨ i = 3 := by omega
theorem four_a {i : Nat} (h : i < 4) : Four i (i + 4) (i + 8) (i + 12) := by
  rcases lt_4 h with rfl | rfl | rfl | rfl <;> (unfold Four; decide)
theorem four_b {i : Nat} (h : i < 4) : Four i (4 + (i + 1) % 4) (8 + (i + 2) % 4) (12 + (i + 3) % 4) := by
  rcases lt_4 h with rfl | rfl | rfl | rfl <;> (unfold Four; decide)
theorem w_add {i k : Nat} (h : i < 100) (hk : k < 100) : w64 ((i : Int) + (k : Int)) = ((i + k : Nat) : Int) := by unfold w64; omega
theorem t_4 {i k : Nat} (h : i < 4) (hk : k < 4) : (w64 ((i : Int) + (k : Int))).tmod 4 = (((i + k) % 4 : Nat) : Int) := by rw [w_add (by omega) (by omega)]; rfl
theorem w_off {m k : Nat} (hm : m < 4) (hk : k < 100) : w64 ((k : Int) + (m : Int)) = ((k + m : Nat) : Int) := by unfold w64; omega
theorem wa_1 {i : Nat} (h : i < 100) : w64 ((i : Int) + 1) = ((i + 1 : Nat) : Int) := by unfold w64; omega
theorem wa_4 {i : Nat} (h : i < 100) : w64 ((i : Int) + 4) = ((i + 4 : Nat) : Int) := by unfold w64; omega
theorem wa_8 {i : Nat} (h : i < 100) : w64 ((i : Int) + 8) = ((i + 8 : Nat) : Int) := by unfold w64; omega
theorem wa_12 {i : Nat} (h : i < 100) : w64 ((i : Int) + 12) = ((i + 12 : Nat) : Int) := by unfold w64; omega
theorem tt_1 {i : Nat} (h : i < 4) : (w64 ((i : Int) + 1)).tmod 4 = (((i + 1) % 4 : Nat) : Int) := t_4 (k := 1) h (by decide)
theorem tt_2 {i : Nat} (h : i < 4) : (w64 ((i : Int) + 2)).tmod 4 = (((i + 2) % 4 : Nat) : Int) := t_4 (k := 2) h (by decide)
theorem tt_3 {i : Nat} (h : i < 4) : (w64 ((i : Int) + 3)).tmod 4 = (((i + 3) % 4 : Nat) : Int) := t_4 (k := 3) h (by decide)
theorem of_4 {m : Nat} (h : m < 4) : w64 (4 + (m : Int)) = ((4 + m : Nat) : Int) := w_off (k := 4) h (by decide)
theorem of_8 {m : Nat} (h : m < 4) : w64 (8 + (m : Int)) = ((8 + m : Nat) : Int) := w_off (k := 8) h (by decide)
theorem of_12 {m : Nat} (h : m < 4) : w64 (12 + (m : Int)) = ((12 + m : Nat) : Int) := w_off (k := 12) h (by decide)
theorem less_4 {i : Nat} (h : i < 4) : 4 - (i + 1) < 4 - i := by omega
theorem l5Double_ok {n : Nat} {w0 w : World} {L : List Ck} {v : Value} {l : List Int} {fp : List Nat} (H : Sep n w0 w (Ck.own ints fp [v] l :: L)) (hl : l.length = 16) :
    ACalls Tryz.prog 146 #[v] w fun r w' => ∃ (m : List Int) (fq : List Nat), m.length = 16 ∧ Sep n w0 w' (Ck.own ints fq [r] m :: L) := by
  refine body_of follows Tryz.func146 rfl rfl _ rfl (by kernel_rfl) (vs ?_)
  refine loop_at (σ := Nat × Value × List Int × List Nat) (fun y => [(0, y.2.1), (3, .int .i64 (y.1 : Int))])
    (fun y w' => y.2.2.1.length = 16 ∧ Sep n w0 w' (Ck.own ints y.2.2.2 [y.2.1] y.2.2.1 :: L)) (fun y => 4 - y.1) (0, v, l, fp) (vs trivial) ⟨hl, H⟩ ?_
  rintro ⟨i, u, m, f⟩ s w1 ⟨hm, H⟩; dsimp only at hm H; refine vs (ways ?_ ?_)
  · refine vh fun hlt => ?_
    have hi : i < 4 := by omega
    have e4 := wa_4 (i := i) (by omega); have e8 := wa_8 (i := i) (by omega); have e12 := wa_12 (i := i) (by omega); refine ve (And.intro e4 (And.intro e8 e12)) ?_; refine x_call (quarter_ok w1 u m i (i + 4) (i + 8) (i + 12) (H.own (.head _)) hm (four_a hi)) fun r w2 ⟨m2, f2, hm2, S⟩ => ?_; have H := H.join S; simp only [List.cons_append, List.nil_append] at H; refine vs ?_; exact ⟨(i + 1, r, m2, f2), ⟨rfl, i64_eq (wa_1 (i := i) (Nat.lt_of_lt_of_le hi (by decide)))⟩, ⟨hm2, H.drops' (L := [_])⟩, less_4 hi⟩
  · refine vh fun hlt => ?_
    refine loop_at (σ := Nat × Value × List Int × List Nat) (fun y => [(0, y.2.1), (4, .int .i64 (y.1 : Int))])
      (fun y w' => y.2.2.1.length = 16 ∧ Sep n w0 w' (Ck.own ints y.2.2.2 [y.2.1] y.2.2.1 :: L)) (fun y => 4 - y.1) (0, u, m, f) (vs trivial) ⟨hm, H⟩ ?_
    rintro ⟨i, u, m, f⟩ s w1 ⟨hm, H⟩; dsimp only at hm H; refine vs (ways ?_ ?_)
    · refine vh fun hlt => ?_
      have hi : i < 4 := by omega
      have t1 := tt_1 hi; have t2 := tt_2 hi; have t3 := tt_3 hi; have o1 := of_4 (m := (i + 1) % 4) (Nat.mod_lt _ (by decide)); have o2 := of_8 (m := (i + 2) % 4) (Nat.mod_lt _ (by decide)); have o3 := of_12 (m := (i + 3) % 4) (Nat.mod_lt _ (by decide)); refine x_rem (b := 4) ?_; refine ve (And.intro t1 o1) ?_; refine x_rem (b := 4) ?_; refine ve (And.intro t2 o2) ?_; refine x_rem (b := 4) ?_; refine ve (And.intro t3 o3) ?_; refine x_call (quarter_ok w1 u m i (4 + (i + 1) % 4) (8 + (i + 2) % 4) (12 + (i + 3) % 4) (H.own (.head _)) hm (four_b hi)) fun r w2 ⟨m2, f2, hm2, S⟩ => ?_; have H := H.join S; simp only [List.cons_append, List.nil_append] at H; refine vs ?_; exact ⟨(i + 1, r, m2, f2), ⟨rfl, i64_eq (wa_1 (i := i) (Nat.lt_of_lt_of_le hi (by decide)))⟩, ⟨hm2, H.drops' (L := [_])⟩, less_4 hi⟩
    · refine vh fun hlt => ?_
      exact ⟨m, f, hm, H⟩
theorem less_10 {i : Nat} (h : i < 10) : 10 - (i + 1) < 10 - i := by omega
theorem block_ok (w : World) (v u : Value) (k nc : List UInt8) (ct : Int) (hk : (bytes 5).rd w w.heap.size [v] k) (hnc : (bytes 5).rd w w.heap.size [u] nc) (hct : -9223372036854775808 ≤ ct ∧ ct < 9223372036854775808) :
    ACalls Tryz.prog 133 #[v, .int .i64 ct, u] w fun r w' => ∃ (b : List UInt8) (fp : List Nat), (b.length ≤ 64 ∧ (k.length = 32 → nc.length = 12 → (0 ≤ ct ∧ ct ≤ 4294967295) → b.length = 64)) ∧ Sep w.heap.size w w' [Ck.own (bytes 5) fp [r] b] := by
  have hk9 := hk; have hn9 := hnc; obtain ⟨A, cp, rfl, _⟩ := sl_open hk; obtain ⟨B, cq, rfl, _⟩ := sl_open hnc; have H := Sep.start w; refine body_of follows Tryz.func133 rfl rfl _ rfl (by kernel_rfl) (vs ?_)
  by_cases q1 : (k.length : Int) = 32
  rotate_left
  · refine ve q1 ?_
    refine x_emp H pl_u8 sl22 fun g1 w1 H => vs ?_; exact ⟨[], _, ⟨Nat.zero_le _, fun h => by omega⟩, H⟩
  by_cases q2 : (nc.length : Int) = 12
  rotate_left
  · refine ve (And.intro q1 q2) ?_
    refine x_emp H pl_u8 sl22 fun g1 w1 H => vs ?_; exact ⟨[], _, ⟨Nat.zero_le _, fun _ h => by omega⟩, H⟩
  refine ve (And.intro q1 q2) ?_; refine x_callw (l1In_ok w _ _ _) ?_
  by_cases q3 : 0 ≤ ct ∧ ct ≤ 4294967295
  rotate_left
  · refine ve q3 ?_
    refine x_emp H pl_u8 sl22 fun g1 w1 H => vs ?_; exact ⟨[], _, ⟨Nat.zero_le _, fun _ _ h => absurd h q3⟩, H⟩
  refine ve q3 ?_; refine x_lst H pl_i64 sl55 [1634760805, 857760878, 2036477234, 1797285236] (by simp) fun g1 w1 H => vs ?_; refine x_call (words0_ok w1 _ k 8 (H.rd hk9) (by omega) (by decide)) fun r2 w2 ⟨l2, f2, hl2, S⟩ => vs ?_; have H := H.join S; simp only [List.cons_append, List.nil_append] at H; refine x_app H pl_i64 sl55 (H.own (.head _)) ?_ ?_ (fun f3 v3 w3 H => vs ?_) (hm := .there .here)
  · simp only [List.length_cons, List.length_nil]; omega
  · simp only [List.length_cons, List.length_nil]; omega
  have H := H.tail; refine x_lst H pl_i64 sl55 [ct] (by simp only [List.mem_singleton]; intro x hx; rw [hx]; exact hct) fun g4 w4 H => vs ?_; refine x_app H pl_i64 sl55 (H.own (.head _)) ?_ ?_ (fun f5 v5 w5 H => vs ?_) (hm := .there .here)
  · simp only [List.length_append, List.length_cons, List.length_nil]; omega
  · simp only [List.length_append, List.length_cons, List.length_nil]; omega
  have H := H.tail; refine x_call (words0_ok w5 _ nc 3 (H.rd hn9) (by omega) (by decide)) fun r6 w6 ⟨l6, f6, hl6, S⟩ => vs ?_; have H := H.join S; simp only [List.cons_append, List.nil_append] at H; refine x_app H pl_i64 sl55 (H.own (.head _)) ?_ ?_ (fun f7 v7 w7 H => vs ?_) (hm := .there .here)
  · simp only [List.length_append, List.length_cons, List.length_nil]; omega
  · simp only [List.length_append, List.length_cons, List.length_nil]; omega
  have H := H.tail; obtain ⟨first, hfirst⟩ : ∃ m, m = [1634760805, 857760878, 2036477234, 1797285236] ++ l2 ++ [ct] ++ l6 := ⟨_, rfl⟩; have hf16 : first.length = 16 := by rw [hfirst]; simp only [List.length_append, List.length_cons, List.length_nil]; omega
  have H : Sep w.heap.size w w7 [Ck.own ints f7 [v7] first] := by rw [hfirst]; exact H
  refine x_emp H pl_i64 sl55 fun g8 w8 H => vs ?_; refine x_app H pl_i64 sl55 (H.own (.tail _ (.head _))) ?_ ?_ (fun f9 v9 w9 H => vs ?_) (hm := .here)
  · simp only [List.length_nil]; omega
  · simp only [List.length_nil]; omega
  rw [List.nil_append] at H
  refine loop_at (σ := Nat × Value × List Int × List Nat) (fun y => [(7, v7), (8, y.2.1), (9, .int .i64 (y.1 : Int))])
    (fun y w' => y.2.2.1.length = 16 ∧ Sep w.heap.size w w' [Ck.own ints y.2.2.2 [y.2.1] y.2.2.1, Ck.own ints f7 [v7] first]) (fun y => 10 - y.1) (0, v9, first, f9) (vs trivial) ⟨hf16, H⟩ ?_
  rintro ⟨i, x, m, f⟩ s w10 ⟨hm, H⟩; dsimp only at hm H; refine vs (ways ?_ ?_)
  · refine vh fun hlt => ?_
    have hi : i < 10 := by omega
    refine x_call (l5Double_ok H hm) fun r w11 ⟨m2, f2, hm2, H⟩ => vs ?_; exact ⟨(i + 1, r, m2, f2), ⟨rfl, i64_eq (wa_1 (i := i) (Nat.lt_of_lt_of_le hi (by decide)))⟩, ⟨hm2, H⟩, less_10 hi⟩
  · refine vh fun hlt => ?_
    obtain ⟨C, cx, rfl, hC⟩ := own_val (show ints.ow w10 f [x] m from H.ok _ (.head _)); obtain ⟨g, rfl⟩ := hC (by omega); obtain ⟨D, cf, rfl, _⟩ := sl_open (H.ow ints f7 [v7] first); have H : Sep w.heap.size w w10 [Ck.own ints f [.slice (some ⟨g, 0, none⟩) 16 cx] m, Ck.own ints f7 [.slice D first.length cf] first] := by rw [← hm]; exact H
    refine loop_at (σ := Nat × List Int) (fun y => [(7, .slice D first.length cf), (8, .slice (some ⟨g, 0, none⟩) 16 cx), (10, .int .i64 (y.1 : Int))])
      (fun y w' => y.2.length = 16 ∧ Sep w.heap.size w w' [Ck.own ints f [.slice (some ⟨g, 0, none⟩) 16 cx] y.2, Ck.own ints f7 [.slice D first.length cf] first]) (fun y => 16 - y.1) (0, m) (vs ?_) ⟨hm, H⟩ ?_
    · rw [hm]
    rintro ⟨i, m⟩ s w12 ⟨hm, H⟩; dsimp only at hm H; refine vs (ways ?_ ?_)
    · refine vh fun hlt => ?_
      have hi : i < 16 := by omega
      refine draw_zat [(0, true), (1, true), (2, true), (3, true), (4, true), (5, true), (6, true), (7, true), (8, true), (9, true), (10, true), (11, false), (12, true)] 13 [13] [] fun w13 hh hbd => vs ?_; have H := H.go (hbd _); obtain ⟨B', c', e', _, _, hR⟩ := sl_open (H.ow ints f [.slice (some ⟨g, 0, none⟩) 16 cx] m); simp only [Value.slice.injEq] at e'; obtain ⟨rfl, _, rfl⟩ := e'; obtain ⟨B', c', e', _, _, hF⟩ := sl_open (H.ow ints f7 [.slice D first.length cf] first); simp only [Value.slice.injEq] at e'; obtain ⟨rfl, _, rfl⟩ := e'; refine q_elV pl_i64 sl55 (x := m[i]'(by omega)) i hR (List.getElem?_eq_getElem _) rfl hm.symm fun ad hd2 hcl _ => ?_; refine vs ?_; refine qx_load sc3 hcl hd2 (by simp) ?_; refine vs ?_; refine q_elV pl_i64 sl55 (x := first[i]'(by omega)) i hF (List.getElem?_eq_getElem _) rfl rfl fun ad hd2 hcl _ => ?_; refine vs ?_; refine qx_load sc3 hcl hd2 (by simp) ?_; refine vs ?_; refine x_callw (specWord_ok w13 _) ?_; refine vs ?_; refine ⟨Kept.refl .., ?_⟩; refine qx_index sl55 rfl (by omega) (by omega) ?_; refine vs ?_; refine dl_cons ⟨_, rfl, vs ?_⟩; have H : Sep w.heap.size w w13 [Ck.own ints f [.slice (some ⟨g, 0, none⟩) m.length cx] m, Ck.own ints f7 [.slice D first.length cf] first] := by rw [hm]; exact H
      refine x_setU (l := m) H pl_i64 sc3 (j := i) (by omega) (word_rg _) fun w14 m2 hm2 H => ?_; refine dl_nil (vs ?_); have hm16 : m2.length = 16 := by omega
      rw [hm16] at H; exact ⟨(i + 1, m2), i64_eq (wa_1 (i := i) (Nat.lt_of_lt_of_le hi (by decide))), ⟨hm16, H⟩, less_16 hi⟩
    · refine vh fun hlt => ?_
      have hr := H.ow ints f [.slice (some ⟨g, 0, none⟩) 16 cx] m; refine x_call (wordBytes0_ok w12 _ m hr (by omega)) fun r w13 ⟨b, fb, hb, S⟩ => vs ?_; have H := H.join S; exact ⟨b, fb, ⟨by omega, fun _ _ _ => by omega⟩, H.only (c := Ck.own (bytes 5) fb [r] b)⟩
theorem w64_rgT (a : Int) : -9223372036854775808 ≤ w64 a ∧ w64 a < 9223372036854775808 := by unfold w64; omega
theorem iand_rgT (a b : Int) : -9223372036854775808 ≤ iand .i64 a b ∧ iand .i64 a b < 9223372036854775808 := by rw [iand_def]; exact w64_rgT _
section
variable {P : Program} {n : Nat} {w0 w : World} {L : List Ck} {K : Value → World → Prop} {α : Type} {d : Kd α} {f : α → Value} {R : α → Prop}
theorem x_setN {tg : Tg K} {N : Nat} (H : Sep n w0 w L) (hp : IsPlain d f R) {e : TypeId} {z : Value} (HS : ScT P e z) {fp : List Nat} {g c j : Nat} {l : List α} {x : α} {F : Ck → List Ck} (hl : l.length = N) (hj : j < N) (hx : R x)
    (h : ∀ w' l', l'.length = N → Sep n w0 w' (F (Ck.own (Kd.slice e d) fp [.slice (some ⟨g, 0, none⟩) N c] l')) → K undef w') (hm : Hole (Ck.own (Kd.slice e d) fp [.slice (some ⟨g, 0, none⟩) N c] l) L F := by repeat (first | exact Hole.here | apply Hole.there)) :
    VU P K tg (Instr.storeAt e (.pointer (some ⟨g, j, none⟩)) (f x)) w := by
  subst hl; exact x_setU H hp HS hj hx (fun w' l' hl' H' => h w' l' hl' (by rw [hl'] at H'; exact H')) hm
theorem sl_N {N : Nat} {A : Option Addr} {e : TypeId} {m c : Nat} {l : List α} {w : World} (h : (Kd.slice e d).rd w m [.slice A N c] l) : Kd.sliceRd d w m A l := by
  obtain ⟨A', c', e', _, _, hR⟩ := sl_open h; simp only [Value.slice.injEq] at e'; obtain ⟨rfl, _, rfl⟩ := e'; exact hR
end
theorem less_17 {i : Nat} (h : i < 17) : 17 - (i + 1) < 17 - i := by omega
theorem lt100 {i k : Nat} (h : i < k) (hk : k ≤ 100) : i < 100 := by omega
theorem l6Add_ok (w : World) (v u : Value) (a b : List Int) (ha : ints.rd w w.heap.size [v] a) (hb : ints.rd w w.heap.size [u] b) (la : a.length = 17) (lb : b.length = 17) :
    ACalls Tryz.prog 150 #[v, u] w fun r w' => ∃ (m : List Int) (fp : List Nat), m.length = 17 ∧ Sep w.heap.size w w' [Ck.own ints fp [r] m] := by
  obtain ⟨A, c, rfl, _, _, hA⟩ := sl_open ha; obtain ⟨B, c', rfl, _, _, hB⟩ := sl_open hb; have H := Sep.start w; refine body_of follows Tryz.func150 rfl rfl _ rfl (by kernel_rfl) (vs ?_); refine x_emp H pl_i64 sl55 fun g1 w1 H => vs ?_
  refine loop_at (σ := Nat × Int × Value × List Int × List Nat) (fun y => [(0, .slice A a.length c), (1, .slice B b.length c'), (5, y.2.2.1), (6, .int .i64 y.2.1), (7, .int .i64 (y.1 : Int))])
    (fun y w' => (y.1 ≤ 17 ∧ y.2.2.2.1.length = y.1) ∧ Sep w.heap.size w w' [Ck.own ints y.2.2.2.2 [y.2.2.1] y.2.2.2.1]) (fun y => 17 - y.1) (0, 0, .slice (some ⟨g1, 0, none⟩) 0 0, [], [g1]) (vs trivial) ⟨⟨Nat.zero_le _, rfl⟩, H⟩ ?_
  rintro ⟨j, z, x, m, f⟩ s w2 ⟨⟨hj, hm⟩, H⟩; dsimp only at hj hm H; refine vs (ways ?_ ?_)
  · refine vh fun hlt => ?_
    have hj2 : j < 17 := by omega
    refine draw_at [(0, true), (1, true), (2, true), (3, true), (4, true), (5, true), (6, true), (7, true), (8, true), (9, true), (10, true), (11, true)] fun w3 hh hbd => vs ?_; have H := H.go (hbd _); refine q_elV pl_i64 sl55 (x := a[j]'(by omega)) j (hA.mono H.bel) (List.getElem?_eq_getElem _) rfl rfl fun ad hd hc _ => ?_; refine vs ?_; refine qx_load sc3 hc (Nat.lt_of_lt_of_le hd H.ns) (by simp) ?_; refine vs ?_; refine q_elV pl_i64 sl55 (x := b[j]'(by omega)) j (hB.mono H.bel) (List.getElem?_eq_getElem _) rfl rfl fun ad hd hc _ => ?_; refine vs ?_; refine qx_load sc3 hc (Nat.lt_of_lt_of_le hd H.ns) (by simp) ?_; generalize w64 (w64 (z + _) + _) = U; refine vs ?_; generalize w64 (w64 (z + _) + _) = U; refine x_lst H pl_i64 sl55 [iand .i64 U 255] (by simp only [List.mem_singleton]; intro y hy; rw [hy]; exact iand_rgT _ _) fun g4 w4 H => vs ?_; refine x_app H pl_i64 sl55 (H.own (.head _)) ?_ ?_ (fun f5 v5 w5 H => vs ?_) (hm := .there .here)
    · simp only [List.length_cons, List.length_nil]; omega
    · simp only [List.length_cons, List.length_nil]; omega
    exact ⟨(j + 1, _, v5, m ++ [iand .i64 U 255], f5), ⟨rfl, rfl, i64_eq (wa_1 (i := j) (lt100 hj2 (by decide)))⟩, ⟨⟨hj2, by show (m ++ _).length = j + 1; rw [List.length_append, List.length_singleton, hm]⟩, H.tail⟩, less_17 hj2⟩
  · refine vh fun hlt => ?_
    exact ⟨m, f, by omega, H⟩
theorem l6Less_ok {n : Nat} {w0 w : World} {L : List Ck} {fp : List Nat} {g c : Nat} {l : List Int} (H : Sep n w0 w (Ck.own ints fp [.slice (some ⟨g, 0, none⟩) 17 c] l :: L)) (hl : l.length = 17) :
    ACalls Tryz.prog 158 #[.slice (some ⟨g, 0, none⟩) 17 c] w fun r w' => r = .slice (some ⟨g, 0, none⟩) 17 c ∧ ∃ m : List Int, m.length = 17 ∧ Sep n w0 w' (Ck.own ints fp [.slice (some ⟨g, 0, none⟩) 17 c] m :: L) := by
  refine body_of follows Tryz.func158 rfl rfl _ rfl (by kernel_rfl) (vs ?_)
  refine loop_at (σ := Nat × Int × List Int) (fun y => [(0, .slice (some ⟨g, 0, none⟩) 17 c), (3, .int .i64 y.2.1), (4, .int .i64 (y.1 : Int))])
    (fun y w' => y.2.2.length = 17 ∧ Sep n w0 w' (Ck.own ints fp [.slice (some ⟨g, 0, none⟩) 17 c] y.2.2 :: L)) (fun y => 16 - y.1) (0, 0, l) (vs trivial) ⟨hl, H⟩ ?_
  rintro ⟨j, z, l⟩ s w1 ⟨hl, H⟩; dsimp only at hl H; refine vs (ways ?_ ?_)
  · refine vh fun hlt => ?_
    have hj : j < 16 := by omega
    refine x_elV pl_i64 sl55 (x := l[j]'(by omega)) j (sl_N (H.own (.head _))) (List.getElem?_eq_getElem _) rfl hl.symm fun ad hd hc _ => vs ?_; refine x_load sc3 hc ?_; refine vs ?_; generalize w64 (z + _) = U; refine x_index sl55 rfl (by omega) (by omega) (vs ?_); refine x_setN (l := l) (x := iand .i64 U 255) H pl_i64 sc3 (j := j) hl (by omega) (iand_rgT _ _) fun w2 l2 hl2 H => vs ?_; exact ⟨(j + 1, _, l2), ⟨rfl, i64_eq (wa_1 (i := j) (lt100 hj (by decide)))⟩, ⟨hl2, H⟩, less_16 hj⟩
  · refine vh fun hlt => ?_
    refine x_elV pl_i64 sl55 (x := l[16]'(by omega)) 16 (sl_N (H.own (.head _))) (List.getElem?_eq_getElem _) rfl hl.symm fun ad hd hc _ => vs ?_; refine x_load sc3 hc ?_; refine vs ?_; generalize w64 (z + _) = U; refine x_index sl55 rfl (by decide) (by decide) (vs ?_); refine x_setN (l := l) (x := iand .i64 U 3) H pl_i64 sc3 (j := 16) hl (by decide) (iand_rgT _ _) fun w2 l2 hl2 H => vs ?_; generalize w64 (5 * _) = V
    refine loop_at (σ := Nat × Int × List Int) (fun y => [(0, .slice (some ⟨g, 0, none⟩) 17 c), (3, .int .i64 y.2.1), (5, .int .i64 (y.1 : Int))])
      (fun y w' => y.2.2.length = 17 ∧ Sep n w0 w' (Ck.own ints fp [.slice (some ⟨g, 0, none⟩) 17 c] y.2.2 :: L)) (fun y => 16 - y.1) (0, V, l2) (vs trivial) ⟨hl2, H⟩ ?_
    rintro ⟨j, z, l⟩ s w1 ⟨hl, H⟩; dsimp only at hl H; refine vs (ways ?_ ?_)
    · refine vh fun hlt => ?_
      have hj : j < 16 := by omega
      refine x_elV pl_i64 sl55 (x := l[j]'(by omega)) j (sl_N (H.own (.head _))) (List.getElem?_eq_getElem _) rfl hl.symm fun ad hd hc _ => vs ?_; refine x_load sc3 hc ?_; refine vs ?_; generalize w64 (z + _) = U; refine x_index sl55 rfl (by omega) (by omega) (vs ?_); refine x_setN (l := l) (x := iand .i64 U 255) H pl_i64 sc3 (j := j) hl (by omega) (iand_rgT _ _) fun w2 l2 hl2 H => vs ?_; exact ⟨(j + 1, _, l2), ⟨rfl, i64_eq (wa_1 (i := j) (lt100 hj (by decide)))⟩, ⟨hl2, H⟩, less_16 hj⟩
    · refine vh fun hlt => ?_
      refine x_elV pl_i64 sl55 (x := l[16]'(by omega)) 16 (sl_N (H.own (.head _))) (List.getElem?_eq_getElem _) rfl hl.symm fun ad hd hc _ => vs ?_; refine x_load sc3 hc ?_; refine vs ?_; refine x_index sl55 rfl (by decide) (by decide) (vs ?_); refine x_setN (l := l) (x := w64 (l[16]'(by omega) + z)) H pl_i64 sc3 (j := 16) hl (by decide) (w64_rgT _) fun w2 l2 hl2 H => vs ?_; exact ⟨l2, hl2, H⟩
theorem tm_le {i j : Nat} (h : i < 17) (h2 : j ≤ i) : w64 ((i : Int) - (j : Int)) = ((i - j : Nat) : Int) := by unfold w64; omega
theorem tm_gt {i j : Nat} (h : i < 17) (h2 : i < j) (h3 : j < 17) : w64 (w64 ((i : Int) + 17) - (j : Int)) = ((i + 17 - j : Nat) : Int) := by
  rw [show w64 ((i : Int) + 17) = (i : Int) + 17 by unfold w64; omega]; unfold w64; omega
theorem l6Times_ok (w : World) (v u : Value) (a b : List Int) (ha : ints.rd w w.heap.size [v] a) (hb : ints.rd w w.heap.size [u] b) (la : a.length = 17) (lb : b.length = 17) :
    ACalls Tryz.prog 149 #[v, u] w fun r w' => ∃ (m : List Int) (fp : List Nat), m.length = 17 ∧ Sep w.heap.size w w' [Ck.own ints fp [r] m] := by
  obtain ⟨A, c, rfl, _, _, hA⟩ := sl_open ha; obtain ⟨B, c', rfl, _, _, hB⟩ := sl_open hb; have H := Sep.start w; refine body_of follows Tryz.func149 rfl rfl _ rfl (by kernel_rfl) (vs ?_); refine x_mk (m := 17) H pl_i64 (x := 0) sl55 (by decide) (by decide) (by decide) fun g w1 H => vs ?_
  refine loop_at (σ := Nat × List Int) (fun y => [(0, .slice A a.length c), (1, .slice B b.length c'), (5, .slice (some ⟨g, 0, none⟩) 17 17), (6, .int .i64 (y.1 : Int))])
    (fun y w' => y.2.length = 17 ∧ Sep w.heap.size w w' [Ck.own ints [g] [.slice (some ⟨g, 0, none⟩) 17 17] y.2]) (fun y => 17 - y.1) (0, List.replicate 17 0) (vs trivial) ⟨List.length_replicate, H⟩ ?_
  rintro ⟨i, l⟩ s w2 ⟨hl, H⟩; dsimp only at hl H; refine vs (ways ?_ ?_)
  · refine vh fun hlt => ?_
    have hi : i < 17 := by omega
    refine loop_at (σ := Nat × Int) (fun y => [(0, .slice A a.length c), (1, .slice B b.length c'), (5, .slice (some ⟨g, 0, none⟩) 17 17), (6, .int .i64 (i : Int)), (7, .int .i64 y.2), (8, .int .i64 (y.1 : Int))])
      (fun y w' => (-9223372036854775808 ≤ y.2 ∧ y.2 < 9223372036854775808) ∧ Sep w.heap.size w w' [Ck.own ints [g] [.slice (some ⟨g, 0, none⟩) 17 17] l]) (fun y => 17 - y.1) (0, 0) (vs trivial) ⟨⟨by show (-9223372036854775808 : Int) ≤ 0; decide, by show (0 : Int) < 9223372036854775808; decide⟩, H⟩ ?_
    rintro ⟨j, z⟩ s w3 ⟨hz, H⟩; dsimp only at hz; refine vs (ways ?_ ?_)
    · refine vh fun hlt2 => ?_
      have hj : j < 17 := by omega
      by_cases q : (j : Int) ≤ (i : Int)
      · have hq : j ≤ i := by omega
        have e := tm_le hi hq; refine ve q ?_; refine draw_at [(0, true), (1, true), (2, true), (3, true), (4, true), (5, true), (6, true), (7, true), (8, true), (9, true), (10, true), (11, true), (12, true), (13, true)] fun w4 hh hbd => vs ?_; have H := H.go (hbd _); refine q_elV pl_i64 sl55 (x := a[j]'(by omega)) j (hA.mono H.bel) (List.getElem?_eq_getElem _) rfl rfl fun ad hd hc _ => ?_; refine vs ?_; refine qx_load sc3 hc (Nat.lt_of_lt_of_le hd H.ns) (by simp) ?_; refine ve e ?_; refine q_elV pl_i64 sl55 (x := b[i - j]'(by omega)) (i - j) (hB.mono H.bel) (List.getElem?_eq_getElem _) rfl rfl fun ad hd hc _ => ?_; refine vs ?_; refine qx_load sc3 hc (Nat.lt_of_lt_of_le hd H.ns) (by simp) ?_; refine vs ?_; exact ⟨(j + 1, _), ⟨rfl, i64_eq (wa_1 (i := j) (lt100 hj (by decide)))⟩, ⟨w64_rgT _, H⟩, less_17 hj⟩
      · have hq : i < j := by omega
        have e := tm_gt hi hq hj; refine ve q ?_; refine draw_at [(0, true), (1, true), (2, true), (3, true), (4, true), (5, true), (6, true), (7, true), (8, true), (9, true), (10, true), (11, true), (12, true), (13, true), (14, true), (15, true)] fun w4 hh hbd => vs ?_; have H := H.go (hbd _); refine q_elV pl_i64 sl55 (x := a[j]'(by omega)) j (hA.mono H.bel) (List.getElem?_eq_getElem _) rfl rfl fun ad hd hc _ => ?_; refine vs ?_; refine qx_load sc3 hc (Nat.lt_of_lt_of_le hd H.ns) (by simp) ?_; refine ve e ?_; refine q_elV pl_i64 sl55 (x := b[i + 17 - j]'(by omega)) (i + 17 - j) (hB.mono H.bel) (List.getElem?_eq_getElem _) rfl rfl fun ad hd hc _ => ?_; refine vs ?_; refine qx_load sc3 hc (Nat.lt_of_lt_of_le hd H.ns) (by simp) ?_; refine vs ?_; exact ⟨(j + 1, _), ⟨rfl, i64_eq (wa_1 (i := j) (lt100 hj (by decide)))⟩, ⟨w64_rgT _, H⟩, less_17 hj⟩
    · refine vh fun hlt2 => ?_
      refine x_index sl55 rfl (by omega) (by omega) (vs ?_); refine x_setN (l := l) (x := z) H pl_i64 sc3 (j := i) hl hi hz fun w4 l2 hl2 H => vs ?_; exact ⟨(i + 1, l2), i64_eq (wa_1 (i := i) (lt100 hi (by decide))), ⟨hl2, H⟩, less_17 hi⟩
  · refine vh fun hlt => ?_
    refine x_call (l6Less_ok H hl) fun _ w3 ⟨e, m, hm, H⟩ => ?_; subst e; refine vs ?_; exact ⟨m, [g], hm, H⟩
theorem l1MinT_ok (w : World) (a b : Int) : ACalls Tryz.prog 22 #[.int .i64 a, .int .i64 b] w fun r w' => r = .int .i64 (min a b) ∧ w' = w := by
  refine body_of follows Tryz.func22 rfl rfl _ rfl (by kernel_rfl) (vs ?_)
  by_cases q : a < b
  · refine ve q ?_
    congr 1; omega
  · refine ve q ?_
    congr 1; omega
theorem u8_rgT (x : UInt8) : -9223372036854775808 ≤ (x.toNat : Int) ∧ (x.toNat : Int) < 9223372036854775808 := by have := x.toNat_lt; omega
theorem min_16 (n : Nat) : min (n : Int) 16 = ((min n 16 : Nat) : Int) := by omega
theorem up_n16 {k : Nat} (h : k < 16) : w64 ((k : Int) + 1) = ((k + 1 : Nat) : Int) := by unfold w64; omega
theorem l6Num_ok (w : World) (v : Value) (b : List UInt8) (last : Int) (hv : (bytes 5).rd w w.heap.size [v] b) (hr : -9223372036854775808 ≤ last ∧ last < 9223372036854775808) :
    ACalls Tryz.prog 151 #[v, .int .i64 last] w fun r w' => ∃ (g : Nat) (m : List Int), r = .slice (some ⟨g, 0, none⟩) 17 17 ∧ m.length = 17 ∧ Sep w.heap.size w w' [Ck.own ints [g] [.slice (some ⟨g, 0, none⟩) 17 17] m] := by
  obtain ⟨A, c, rfl, _, _, hA⟩ := sl_open hv; have H := Sep.start w; refine body_of follows Tryz.func151 rfl rfl _ rfl (by kernel_rfl) (vs ?_); refine x_mk (m := 17) H pl_i64 (x := 0) sl55 (by decide) (by decide) (by decide) fun g w1 H => vs ?_
  refine loop_at (σ := Nat × List Int) (fun y => [(0, .slice A b.length c), (1, .int .i64 last), (5, .slice (some ⟨g, 0, none⟩) 17 17), (6, .int .i64 (y.1 : Int))])
    (fun y w' => y.2.length = 17 ∧ Sep w.heap.size w w' [Ck.own ints [g] [.slice (some ⟨g, 0, none⟩) 17 17] y.2]) (fun y => 16 - y.1) (0, List.replicate 17 0) (vs trivial) ⟨List.length_replicate, H⟩ ?_
  rintro ⟨i, l⟩ s w2 ⟨hl, H⟩; dsimp only at hl H; refine vs ?_
  by_cases q : (i : Int) < (b.length : Int) ∧ (i : Int) < 16
  · have hi : i < b.length := by omega
    have hi2 : i < 16 := by omega
    refine ve (And.intro (eq_true q.1) (eq_true q.2)) ?_; refine x_elV pl_u8 sl22 (x := b[i]) i (hA.mono H.bel) (List.getElem?_eq_getElem _) rfl rfl fun ad hd hc _ => vs ?_; refine x_load sc5 hc (vs ?_); refine x_index sl55 rfl (by omega) (by omega) (vs ?_); refine x_setN (l := l) (x := (b[i].toNat : Int)) H pl_i64 sc3 (j := i) hl (by omega) (u8_rgT _) fun w3 l2 hl2 H => vs ?_; exact ⟨(i + 1, l2), i64_eq (up_n16 hi2), ⟨hl2, H⟩, less_16 hi2⟩
  · have fin : ∀ w' l', l'.length = 17 → Sep w.heap.size w w' [Ck.own ints [g] [.slice (some ⟨g, 0, none⟩) 17 17] l'] → ∃ (g' : Nat) (m : List Int), (Value.slice (some ⟨g, 0, none⟩) 17 17 = .slice (some ⟨g', 0, none⟩) 17 17) ∧ m.length = 17 ∧ Sep w.heap.size w w' [Ck.own ints [g'] [.slice (some ⟨g', 0, none⟩) 17 17] m] := fun w' l' h1 h2 => ⟨g, l', rfl, h1, h2⟩
    have hm := min_16 b.length; have hj : min b.length 16 < 17 := by omega
    by_cases q1 : (i : Int) < (b.length : Int)
    · have q2 : ¬ (i : Int) < 16 := fun h => q ⟨q1, h⟩
      refine ve (And.intro (eq_true q1) q2) ?_; refine x_callw (l1MinT_ok w2 _ _) ?_; refine ve hm ?_; refine x_index sl55 rfl (by omega) (by omega) (vs ?_); refine x_setN (l := l) (x := last) H pl_i64 sc3 (j := min b.length 16) hl hj hr fun w3 l2 hl2 H => vs ?_; exact fin _ l2 hl2 H
    · refine ve q1 ?_
      refine x_callw (l1MinT_ok w2 _ _) ?_; refine ve hm ?_; refine x_index sl55 rfl (by omega) (by omega) (vs ?_); refine x_setN (l := l) (x := last) H pl_i64 sc3 (j := min b.length 16) hl hj hr fun w3 l2 hl2 H => vs ?_; exact fin _ l2 hl2 H
theorem st_4 {k : Nat} (h : k < 4) (a : Nat) (ha : a < 5) : w64 (((a + 4 * k : Nat) : Int) + 4) = ((a + 4 * (k + 1) : Nat) : Int) := by unfold w64; omega
theorem l6Key_ok (w : World) (v : Value) (b : List UInt8) (hv : (bytes 5).rd w w.heap.size [v] b) (hb : 16 ≤ b.length) :
    ACalls Tryz.prog 148 #[v] w fun r w' => ∃ (g : Nat) (m : List Int), r = .slice (some ⟨g, 0, none⟩) 17 17 ∧ m.length = 17 ∧ Sep w.heap.size w w' [Ck.own ints [g] [.slice (some ⟨g, 0, none⟩) 17 17] m] := by
  refine body_of follows Tryz.func148 rfl rfl _ rfl (by kernel_rfl) (vs ?_); refine x_toN sl22 rfl 16 hv rfl hb fun v2 hv2 => ?_; refine vs ?_; refine x_call (l6Num_ok w v2 _ 0 hv2 (by decide)) fun _ w1 ⟨g, m, e, hm, H⟩ => ?_; subst e; refine vs ?_
  refine loop_at (σ := Nat × List Int) (fun y => [(3, .slice (some ⟨g, 0, none⟩) 17 17), (4, .int .i64 ((3 + 4 * y.1 : Nat) : Int))])
    (fun y w' => y.2.length = 17 ∧ Sep w.heap.size w w' [Ck.own ints [g] [.slice (some ⟨g, 0, none⟩) 17 17] y.2]) (fun y => 4 - y.1) (0, m) (vs ?_) ⟨hm, H⟩ ?_
  · rfl
  rintro ⟨k, l⟩ s w2 ⟨hl, H⟩; dsimp only at hl H; refine vs ?_
  by_cases q : ((3 + 4 * k : Nat) : Int) < 16
  · have hk : k < 4 := by omega
    have hk2 : 3 + 4 * k < 17 := by omega
    refine ve q ?_; refine x_elV pl_i64 sl55 (x := l[3 + 4 * k]'(by omega)) (3 + 4 * k) (sl_N (H.own (.head _))) (List.getElem?_eq_getElem _) rfl hl.symm fun ad hd hc _ => vs ?_; refine x_load sc3 hc (vs ?_); refine x_index sl55 rfl (by omega) (by omega) (vs ?_); refine x_setN (l := l) (x := iand .i64 (l[3 + 4 * k]'(by omega)) 15) H pl_i64 sc3 (j := 3 + 4 * k) hl hk2 (iand_rgT _ _) fun w3 l2 hl2 H => vs ?_; exact ⟨(k + 1, l2), i64_eq (st_4 hk 3 (by decide)), ⟨hl2, H⟩, less_4 hk⟩
  refine ve q ?_
  refine loop_at (σ := Nat × List Int) (fun y => [(3, .slice (some ⟨g, 0, none⟩) 17 17), (5, .int .i64 ((4 + 4 * y.1 : Nat) : Int))])
    (fun y w' => y.2.length = 17 ∧ Sep w.heap.size w w' [Ck.own ints [g] [.slice (some ⟨g, 0, none⟩) 17 17] y.2]) (fun y => 4 - y.1) (0, l) (vs ?_) ⟨hl, H⟩ ?_
  · rfl
  rintro ⟨k, l⟩ s w2 ⟨hl, H⟩; dsimp only at hl H; refine vs ?_
  by_cases q : ((4 + 4 * k : Nat) : Int) < 16
  · have hk : k < 4 := by omega
    have hk2 : 4 + 4 * k < 17 := by omega
    refine ve q ?_; refine x_elV pl_i64 sl55 (x := l[4 + 4 * k]'(by omega)) (4 + 4 * k) (sl_N (H.own (.head _))) (List.getElem?_eq_getElem _) rfl hl.symm fun ad hd hc _ => vs ?_; refine x_load sc3 hc (vs ?_); refine x_index sl55 rfl (by omega) (by omega) (vs ?_); refine x_setN (l := l) (x := iand .i64 (l[4 + 4 * k]'(by omega)) 252) H pl_i64 sc3 (j := 4 + 4 * k) hl hk2 (iand_rgT _ _) fun w3 l2 hl2 H => vs ?_; exact ⟨(k + 1, l2), i64_eq (st_4 hk 4 (by decide)), ⟨hl2, H⟩, less_4 hk⟩
  refine ve q ?_; exact ⟨g, l, rfl, hl, H⟩
theorem s_16 {k : Nat} (h : k ≤ 300) : w64 (((16 * k : Nat) : Int) + 16) = ((16 * k + 16 : Nat) : Int) := by unfold w64; omega
theorem s_64 {k : Nat} (h : k ≤ 300) : w64 (((64 * k : Nat) : Int) + 64) = ((64 * (k + 1) : Nat) : Int) := by unfold w64; omega
theorem min_nn (a b : Nat) : min (a : Int) (b : Int) = ((min a b : Nat) : Int) := by omega
theorem u8_mod (x : Int) : x % 256 = ((UInt8.ofNat (x % 256).toNat).toNat : Int) := by rw [UInt8.toNat_ofNat']; omega
theorem down_n {k m : Nat} (h : 16 * k < m) (hm : m ≤ 4000) : 251 - (k + 1) < 251 - k := by omega
theorem down_s {k m : Nat} (h : 64 * k < m) (hm : m ≤ 4000) : 64 - (k + 1) < 64 - k := by omega
theorem tag_ok (w : World) (v u : Value) (key b : List UInt8) (hv : (bytes 5).rd w w.heap.size [v] key) (hb : (bytes 5).rd w w.heap.size [u] b) :
    ACalls Tryz.prog 135 #[v, u] w fun r w' => ∃ (c : List UInt8) (fp : List Nat), c.length ≤ 16 ∧ Sep w.heap.size w w' [Ck.own (bytes 5) fp [r] c] := by
  have hv9 := hv; have hb9 := hb; obtain ⟨A, cp, rfl, _⟩ := sl_open hv; obtain ⟨B, cq, rfl, _⟩ := sl_open hb; have H := Sep.start w; refine body_of follows Tryz.func135 rfl rfl _ rfl (by kernel_rfl) (vs ?_)
  by_cases q1 : (key.length : Int) = 32
  rotate_left
  · refine ve q1 ?_
    refine x_emp H pl_u8 sl22 fun g1 w1 H => vs ?_; exact ⟨[], _, Nat.zero_le _, H⟩
  by_cases q2 : (4000 : Int) < (b.length : Int)
  · refine ve (And.intro q1 (eq_true q2)) ?_
    refine x_emp H pl_u8 sl22 fun g1 w1 H => vs ?_; exact ⟨[], _, Nat.zero_le _, H⟩
  have hbl : b.length ≤ 4000 := by omega
  have hkl : key.length = 32 := by omega
  refine ve (And.intro q1 q2) ?_; refine x_call (l6Key_ok w _ key hv9 (by omega)) fun _ w1 ⟨g5, r, e, hr, H⟩ => ?_; subst e; refine vs ?_; refine x_mk (m := 17) H pl_i64 (x := 0) sl55 (by decide) (by decide) (by decide) fun g6 w2 H => vs ?_
  refine loop_at (σ := Nat × Value × List Int × List Nat) (fun y => [(0, .slice A key.length cp), (1, .slice B b.length cq), (5, .slice (some ⟨g5, 0, none⟩) 17 17), (6, y.2.1), (7, .int .i64 ((16 * y.1 : Nat) : Int))])
    (fun y w' => y.2.2.1.length = 17 ∧ Sep w.heap.size w w' [Ck.own ints y.2.2.2 [y.2.1] y.2.2.1, Ck.own ints [g5] [.slice (some ⟨g5, 0, none⟩) 17 17] r]) (fun y => 251 - y.1) (0, .slice (some ⟨g6, 0, none⟩) 17 17, List.replicate 17 0, [g6]) (vs ?_) ⟨List.length_replicate, H⟩ ?_
  · rfl
  rintro ⟨k, x, l, f⟩ s w3 ⟨hl, H⟩; dsimp only at hl H; refine vs ?_
  by_cases q : ((16 * k : Nat) : Int) < (b.length : Int)
  · have hk : 16 * k < b.length := by omega
    have hk3 : k ≤ 300 := by omega
    have hdec := down_n hk hbl; have e16 := s_16 hk3; have em := min_nn (16 * k + 16) b.length; have h01 : 16 * k ≤ min (16 * k + 16) b.length := by omega
    have h12 : min (16 * k + 16) b.length ≤ b.length := Nat.min_le_right _ _; refine ve (And.intro (eq_true q) e16) ?_; refine x_callw (l1MinT_ok w3 _ _) ?_; refine ve em ?_; refine x_subN sl22 rfl (16 * k) (min (16 * k + 16) b.length) hb9 rfl rfl h01 h12 fun v2 hv2 => ?_; refine vs ?_; refine x_call (l6Num_ok w3 v2 _ 1 (H.rd hv2) (by decide)) fun _ w4 ⟨g7, m7, e, hm7, S⟩ => ?_; subst e; have H := H.join S; simp only [List.cons_append, List.nil_append] at H; refine vs ?_; refine x_call (l6Add_ok w4 x _ l m7 (H.own (.tail _ (.head _))) (H.own (.head _)) hl hm7) fun r8 w5 ⟨m8, f8, hm8, S⟩ => ?_; have H := H.join S; simp only [List.cons_append, List.nil_append] at H; refine vs ?_; refine x_call (l6Times_ok w5 r8 _ m8 r (H.own (.head _)) (H.ow ints [g5] [.slice (some ⟨g5, 0, none⟩) 17 17] r) hm8 hr) fun r9 w6 ⟨m9, f9, hm9, S⟩ => ?_; have H := H.join S; simp only [List.cons_append, List.nil_append] at H; refine vs ?_; have H := H.front (c := Ck.own ints [g5] [.slice (some ⟨g5, 0, none⟩) 17 17] r); have H := H.front (c := Ck.own ints f9 [r9] m9); exact ⟨(k + 1, r9, m9, f9), ⟨rfl, i64_eq (s_16 hk3)⟩, ⟨hm9, Sep.left (L := [_, _]) H⟩, hdec⟩
  refine ve q ?_; refine x_mk (m := 17) H pl_i64 (x := 0) sl55 (by decide) (by decide) (by decide) fun g8 w4 H => vs ?_; refine x_index sl55 rfl (by decide) (by decide) (vs ?_); refine x_setN (l := List.replicate 17 (0 : Int)) (x := (5 : Int)) H pl_i64 sc3 (j := 0) List.length_replicate (by decide) (by decide) fun w5 n1 hn1 H => vs ?_; refine x_index sl55 rfl (by decide) (by decide) (vs ?_); refine x_setN (l := n1) (x := (252 : Int)) H pl_i64 sc3 (j := 16) hn1 (by decide) (by decide) fun w6 n2 hn2 H => vs ?_; refine x_call (l6Add_ok w6 x _ l n2 (H.own (.tail _ (.head _))) (H.own (.head _)) hl hn2) fun r9 w7 ⟨m9, f9, hm9, S⟩ => ?_; have H := H.join S; simp only [List.cons_append, List.nil_append] at H; obtain ⟨C, c9, rfl, _, _, hC⟩ := sl_open (H.own (.head _)); refine vs ?_; refine x_elV pl_i64 sl55 (x := m9[16]'(by omega)) 16 hC (List.getElem?_eq_getElem _) rfl rfl fun ad hd hc _ => vs ?_; refine x_load sc3 hc (vs ?_)
  by_cases q9 : m9[16]'(by omega) < 128
  · refine ve (eq_true q9) ?_
    refine x_fromN sl22 rfl 16 hv9 rfl (by omega) fun v3 hv3 => ?_; refine vs ?_; refine x_call (l6Num_ok w7 v3 _ 0 (H.rd hv3) (by decide)) fun _ w8 ⟨g10, m10, e, hm10, S⟩ => ?_; subst e; have H := H.join S; simp only [List.cons_append, List.nil_append] at H; refine vs ?_; refine x_call (l6Add_ok w8 _ _ m9 m10 (H.ow ints f9 [.slice C m9.length c9] m9) (H.own (.head _)) hm9 hm10) fun r11 w9 ⟨m11, f11, hm11, S⟩ => ?_; have H := H.join S; simp only [List.cons_append, List.nil_append] at H; obtain ⟨D, c11, rfl, _⟩ := sl_open (H.own (.head _)); refine vs ?_; refine x_emp H pl_u8 sl22 fun g12 w10 H => vs ?_
    refine loop_at (σ := Nat × Value × List UInt8 × List Nat) (fun y => [(6, .slice D m11.length c11), (10, y.2.1), (11, .int .i64 (y.1 : Int))])
      (fun y w' => (y.1 ≤ 16 ∧ y.2.2.1.length = y.1) ∧ Sep w.heap.size w w' [Ck.own (bytes 5) y.2.2.2 [y.2.1] y.2.2.1, Ck.own ints f11 [.slice D m11.length c11] m11]) (fun y => 16 - y.1) (0, .slice (some ⟨g12, 0, none⟩) 0 0, [], [g12]) (vs trivial) ⟨⟨Nat.zero_le _, rfl⟩, Sep.left (L := [_, _]) H⟩ ?_
    rintro ⟨i, y, o, fo⟩ s w11 ⟨⟨hi, ho⟩, H⟩; dsimp only at hi ho H; refine vs (ways ?_ ?_)
    · refine vh fun hlt => ?_
      have hi2 : i < 16 := by omega
      refine x_elV pl_i64 sl55 (x := m11[i]'(by omega)) i (sl_N (H.ow ints f11 [.slice D m11.length c11] m11)) (List.getElem?_eq_getElem _) rfl rfl fun ad hd hc _ => vs ?_; refine x_load sc3 hc ?_; obtain ⟨k8, e8⟩ : ∃ k : UInt8, m11[i]'(by omega) % 256 = (k.toNat : Int) := ⟨_, u8_mod _⟩; refine ve e8 ?_; refine x_lst H pl_u8 sl22 [k8] (by simp) fun g13 w12 H => vs ?_; refine x_app H pl_u8 sl22 (H.own (.head _)) ?_ ?_ (fun f14 v14 w13 H => vs ?_) (hm := .there .here)
      · simp only [List.length_cons, List.length_nil]; omega
      · simp only [List.length_cons, List.length_nil]; omega
      exact ⟨(i + 1, v14, o ++ [k8], f14), ⟨rfl, i64_eq (up_n16 hi2)⟩, ⟨⟨hi2, by show (o ++ _).length = i + 1; rw [List.length_append, List.length_singleton, ho]⟩, H.tail⟩, less_16 hi2⟩
    · refine vh fun hlt => ?_
      exact ⟨o, fo, by omega, H.only (c := Ck.own (bytes 5) fo [y] o)⟩
  · refine ve q9 ?_
    refine x_fromN sl22 rfl 16 hv9 rfl (by omega) fun v3 hv3 => ?_; refine vs ?_; refine x_call (l6Num_ok w7 v3 _ 0 (H.rd hv3) (by decide)) fun _ w8 ⟨g10, m10, e, hm10, S⟩ => ?_; subst e; have H := H.join S; simp only [List.cons_append, List.nil_append] at H; refine vs ?_; refine x_call (l6Add_ok w8 _ _ l m10 (H.ow ints f [x] l) (H.own (.head _)) hl hm10) fun r11 w9 ⟨m11, f11, hm11, S⟩ => ?_; have H := H.join S; simp only [List.cons_append, List.nil_append] at H; obtain ⟨D, c11, rfl, _⟩ := sl_open (H.own (.head _)); refine vs ?_; refine x_emp H pl_u8 sl22 fun g12 w10 H => vs ?_
    refine loop_at (σ := Nat × Value × List UInt8 × List Nat) (fun y => [(6, .slice D m11.length c11), (10, y.2.1), (11, .int .i64 (y.1 : Int))])
      (fun y w' => (y.1 ≤ 16 ∧ y.2.2.1.length = y.1) ∧ Sep w.heap.size w w' [Ck.own (bytes 5) y.2.2.2 [y.2.1] y.2.2.1, Ck.own ints f11 [.slice D m11.length c11] m11]) (fun y => 16 - y.1) (0, .slice (some ⟨g12, 0, none⟩) 0 0, [], [g12]) (vs trivial) ⟨⟨Nat.zero_le _, rfl⟩, Sep.left (L := [_, _]) H⟩ ?_
    rintro ⟨i, y, o, fo⟩ s w11 ⟨⟨hi, ho⟩, H⟩; dsimp only at hi ho H; refine vs (ways ?_ ?_)
    · refine vh fun hlt => ?_
      have hi2 : i < 16 := by omega
      refine x_elV pl_i64 sl55 (x := m11[i]'(by omega)) i (sl_N (H.ow ints f11 [.slice D m11.length c11] m11)) (List.getElem?_eq_getElem _) rfl rfl fun ad hd hc _ => vs ?_; refine x_load sc3 hc ?_; obtain ⟨k8, e8⟩ : ∃ k : UInt8, m11[i]'(by omega) % 256 = (k.toNat : Int) := ⟨_, u8_mod _⟩; refine ve e8 ?_; refine x_lst H pl_u8 sl22 [k8] (by simp) fun g13 w12 H => vs ?_; refine x_app H pl_u8 sl22 (H.own (.head _)) ?_ ?_ (fun f14 v14 w13 H => vs ?_) (hm := .there .here)
      · simp only [List.length_cons, List.length_nil]; omega
      · simp only [List.length_cons, List.length_nil]; omega
      exact ⟨(i + 1, v14, o ++ [k8], f14), ⟨rfl, i64_eq (up_n16 hi2)⟩, ⟨⟨hi2, by show (o ++ _).length = i + 1; rw [List.length_append, List.length_singleton, ho]⟩, H.tail⟩, less_16 hi2⟩
    · refine vh fun hlt => ?_
      exact ⟨o, fo, by omega, H.only (c := Ck.own (bytes 5) fo [y] o)⟩
theorem stream_ok (w : World) (v u y : Value) (key nc b : List UInt8) (ct : Int) (hv : (bytes 5).rd w w.heap.size [v] key) (hu : (bytes 5).rd w w.heap.size [u] nc) (hb : (bytes 5).rd w w.heap.size [y] b) (hct : -9223372036854775808 ≤ ct ∧ ct < 9223372036854775808) :
    ACalls Tryz.prog 120 #[v, .int .i64 ct, u, y] w fun r w' => ∃ (c : List UInt8) (fp : List Nat), c.length ≤ 4096 ∧ Sep w.heap.size w w' [Ck.own (bytes 5) fp [r] c] := by
  have hb9 := hb; obtain ⟨B, cq, rfl, _⟩ := sl_open hb; have H := Sep.start w; refine body_of follows Tryz.func120 rfl rfl _ rfl (by kernel_rfl) (vs ?_); refine x_emp H pl_u8 sl22 fun g1 w1 H => vs ?_
  by_cases q2 : (4000 : Int) < (b.length : Int)
  · refine ve (eq_true q2) ?_
    exact ⟨[], _, Nat.zero_le _, H⟩
  have hbl : b.length ≤ 4000 := by omega
  refine ve q2 ?_
  refine loop_at (σ := Nat × Int × Value × List UInt8 × List Nat) (fun z => [(0, v), (1, .int .i64 z.2.1), (2, u), (3, .slice B b.length cq), (9, z.2.2.1), (10, .int .i64 ((64 * z.1 : Nat) : Int))])
    (fun z w' => ((z.1 ≤ 63 ∧ z.2.2.2.1.length ≤ 64 * z.1) ∧ (-9223372036854775808 ≤ z.2.1 ∧ z.2.1 < 9223372036854775808)) ∧ Sep w.heap.size w w' [Ck.own (bytes 5) z.2.2.2.2 [z.2.2.1] z.2.2.2.1]) (fun z => 64 - z.1) (0, ct, .slice (some ⟨g1, 0, none⟩) 0 0, [], [g1]) (vs ?_) ⟨⟨⟨Nat.zero_le _, Nat.zero_le _⟩, hct⟩, H⟩ ?_
  · rfl
  rintro ⟨k, ct, x, o, f⟩ s w2 ⟨⟨⟨hk, ho⟩, hct⟩, H⟩; dsimp only at hk ho hct H; refine vs ?_
  by_cases q : ((64 * k : Nat) : Int) < (b.length : Int)
  · have hk64 : 64 * k < b.length := by omega
    have hk63 : k + 1 ≤ 63 := by omega
    have hdec := down_s hk64 hbl; refine ve (eq_true q) ?_; refine x_call (block_ok w2 v u key nc ct (H.rd hv) (H.rd hu) hct) fun r3 w3 ⟨b3, f3, ⟨hb3, _⟩, S⟩ => ?_; have H := H.join S; simp only [List.cons_append, List.nil_append] at H; obtain ⟨C, c3, rfl, _⟩ := sl_open (H.own (.head _)); refine vs ?_
    by_cases q0 : (b3.length : Int) = 0
    · refine ve q0 ?_
      refine x_emp H pl_u8 sl22 fun g4 w4 H => vs ?_; exact ⟨[], _, Nat.zero_le _, H.only (c := Ck.own (bytes 5) [g4] [.slice (some ⟨g4, 0, none⟩) 0 0] [])⟩
    refine ve q0 ?_; refine x_fromN sl22 rfl (64 * k) hb9 rfl (by omega) fun v5 hv5 => ?_; refine vs ?_; refine x_callf H (specXor_ok w3 _ b3 _ (b.drop (64 * k)) (H.own (.head _)) (H.rd hv5) (by omega)) fun r6 f6 w6 H => vs ?_; have hxl := xorB_len b3 (b.drop (64 * k)); refine x_app H pl_u8 sl22 (H.own (.head _)) ?_ ?_ (fun f7 v7 w7 H => vs ?_) (hm := .there (.there .here))
    · omega
    · omega
    have H := H.front (c := Ck.own (bytes 5) f7 [v7] (o ++ xorB b3 (b.drop (64 * k)))); exact ⟨(k + 1, _, v7, o ++ xorB b3 (b.drop (64 * k)), f7), ⟨rfl, rfl, i64_eq (s_64 (by omega))⟩, ⟨⟨⟨hk63, by show (o ++ xorB b3 (b.drop (64 * k))).length ≤ 64 * (k + 1); rw [List.length_append]; omega⟩, w64_rgT _⟩, Sep.left (L := [_]) H⟩, hdec⟩
  refine ve q ?_; exact ⟨o, f, by omega, H⟩
theorem tm_16 (n : Nat) : ((n : Int)).tmod 16 = ((n % 16 : Nat) : Int) := rfl
def room (n : Nat) : Nat := (16 - n % 16) % 16
theorem room_le (n : Nat) : room n ≤ 15 := by unfold room; omega
theorem room_less {n : Nat} (h : ¬ n % 16 = 0) : room (n + 1) < room n ∧ n + 1 + room (n + 1) = n + room n := by unfold room; omega
theorem l7Fill_ok (w : World) (v : Value) (b : List UInt8) (hv : (bytes 5).rd w w.heap.size [v] b) (hb : b.length ≤ 8192) :
    ACalls Tryz.prog 152 #[v] w fun r w' => ∃ (c : List UInt8) (fp : List Nat), c.length ≤ b.length + 15 ∧ Sep w.heap.size w w' [Ck.own (bytes 5) fp [r] c] := by
  have H := Sep.start w; refine body_of follows Tryz.func152 rfl rfl _ rfl (by kernel_rfl) (vs ?_); refine x_emp H pl_u8 sl22 fun g1 w1 H => vs ?_; refine x_app H pl_u8 sl22 (H.rd hv) ?_ ?_ fun f2 v2 w2 H => vs ?_
  · simp only [List.length_nil]; omega
  · simp only [List.length_nil]; omega
  rw [List.nil_append] at H; have hr0 := room_le b.length
  refine loop_at (σ := Value × List UInt8 × List Nat) (fun y => [(3, y.1)])
    (fun y w' => y.2.1.length + room y.2.1.length ≤ b.length + 15 ∧ Sep w.heap.size w w' [Ck.own (bytes 5) y.2.2 [y.1] y.2.1]) (fun y => room y.2.1.length) (v2, b, f2) (vs trivial) ⟨by show b.length + room b.length ≤ b.length + 15; omega, H⟩ ?_
  rintro ⟨u, o, f⟩ s w3 ⟨ho, H⟩; dsimp only at ho H; obtain ⟨A, c, rfl, _⟩ := sl_open (H.own (.head _)); refine vs ?_; refine x_rem (b := 16) ?_
  by_cases q : o.length % 16 = 0
  · refine ve (And.intro (tm_16 o.length) (eq_true (show ((o.length % 16 : Nat) : Int) = 0 by rw [q]; rfl))) ?_
    exact ⟨o, f, by omega, H⟩
  · obtain ⟨h1, h2⟩ := room_less q
    have q' : ¬ ((o.length % 16 : Nat) : Int) = 0 := by omega
    refine ve (And.intro (tm_16 o.length) q') ?_; refine x_lst H pl_u8 sl22 [0] (by simp) fun g5 w5 H => vs ?_; refine x_app H pl_u8 sl22 (H.own (.head _)) ?_ ?_ (fun f6 v6 w6 H => vs ?_) (hm := .there .here)
    · simp only [List.length_cons, List.length_nil]; omega
    · simp only [List.length_cons, List.length_nil]; omega
    have hl : (o ++ [0]).length = o.length + 1 := by rw [List.length_append, List.length_singleton]
    exact ⟨(v6, o ++ [0], f6), rfl, ⟨by show (o ++ [0]).length + room (o ++ [0]).length ≤ b.length + 15; rw [hl]; omega, H.tail⟩, by show room (o ++ [0]).length < room o.length; rw [hl]; exact h1⟩
theorem tagText_ok (w : World) (v u : Value) (a b : List UInt8) (hv : (bytes 5).rd w w.heap.size [v] a) (hu : (bytes 5).rd w w.heap.size [u] b) (ha : a.length ≤ 8192) (hb : b.length ≤ 8192) :
    ACalls Tryz.prog 136 #[v, u] w fun r w' => ∃ (c : List UInt8) (fp : List Nat), c.length ≤ 20000 ∧ Sep w.heap.size w w' [Ck.own (bytes 5) fp [r] c] := by
  have hv9 := hv; have hu9 := hu; obtain ⟨A, cp, rfl, _⟩ := sl_open hv; obtain ⟨B, cq, rfl, _⟩ := sl_open hu; have H := Sep.start w; refine body_of follows Tryz.func136 rfl rfl _ rfl (by kernel_rfl) (vs ?_); refine x_call (l7Fill_ok w _ a hv9 ha) fun r1 w1 ⟨c1, f1, hc1, S⟩ => vs ?_; have H := H.join S; simp only [List.cons_append, List.nil_append] at H; refine x_call (l7Fill_ok w1 _ b (H.rd hu9) hb) fun r2 w2 ⟨c2, f2, hc2, S⟩ => vs ?_; have H := H.join S; simp only [List.cons_append, List.nil_append] at H; refine x_app H pl_u8 sl22 (H.own (.head _)) ?_ ?_ (fun f3 v3 w3 H => vs ?_) (hm := .there .here)
  · omega
  · omega
  have H := H.tail; have hl3 : (c1 ++ c2).length ≤ 16414 := by rw [List.length_append]; omega
  refine x_callf H (specLittle_ok w3 (a.length : Int) 8 (by omega)) fun r4 f4 w4 H => vs ?_; have h4 := littleB_len (a.length : Int) 8; refine x_app H pl_u8 sl22 (H.own (.head _)) ?_ ?_ (fun f5 v5 w5 H => vs ?_) (hm := .there .here)
  · omega
  · omega
  have H := H.tail; have hl5 : (c1 ++ c2 ++ littleB (a.length : Int) 8).length ≤ 16422 := by rw [List.length_append]; omega
  refine x_callf H (specLittle_ok w5 (b.length : Int) 8 (by omega)) fun r6 f6 w6 H => vs ?_; have h6 := littleB_len (b.length : Int) 8; refine x_app H pl_u8 sl22 (H.own (.head _)) ?_ ?_ (fun f7 v7 w7 H => vs ?_) (hm := .there .here)
  · omega
  · omega
  exact ⟨_, f7, by rw [List.length_append]; omega, H.tail⟩
theorem l7Tag_ok (w : World) (v u y z : Value) (key nc aad b : List UInt8) (hv : (bytes 5).rd w w.heap.size [v] key) (hu : (bytes 5).rd w w.heap.size [u] nc) (hy : (bytes 5).rd w w.heap.size [y] aad) (hz : (bytes 5).rd w w.heap.size [z] b)
    (hk : key.length = 32) (hn : nc.length = 12) (ha : aad.length ≤ 8192) (hb : b.length ≤ 8192) :
    ACalls Tryz.prog 121 #[v, u, y, z] w fun r w' => ∃ (c : List UInt8) (fp : List Nat), c.length ≤ 16 ∧ Sep w.heap.size w w' [Ck.own (bytes 5) fp [r] c] := by
  have H := Sep.start w; refine body_of follows Tryz.func121 rfl rfl _ rfl (by kernel_rfl) (vs ?_); refine draw_of [(0, true), (1, true), (4, true), (5, true), (2, false), (3, true), (6, false), (7, false), (8, true)] w.heap.size [] fun w1 hh hbd => vs ?_; have H := H.go (hbd _); have H3 := H; refine x_call (block_ok w1 v u key nc 0 (H.rd hv) (H.rd hu) (by decide)) fun r2 w2 ⟨b2, f2, ⟨_, hb2⟩, S⟩ => ?_; have hb64 := hb2 hk hn (by decide); have H := H.join S; simp only [List.cons_append, List.nil_append] at H; refine vs ?_; refine ⟨kept_base H3 H, ?_⟩; refine q_toA (hi := 32) sl22 rfl (H.own (.head _)) (by omega) fun v1 hv1 => ?_; refine vs ?_; refine x_call (tagText_ok w2 y z aad b (H.rd hy) (H.rd hz) ha hb) fun r3 w3 ⟨c3, f3, hc3, S⟩ => ?_; have H := H.join S; simp only [List.cons_append, List.nil_append] at H; refine vs ?_; refine ⟨kept_base H3 H, ?_⟩; refine x_call (tag_ok w3 v1 r3 (b2.take 32) c3 (hv1 _ _ (H.ow (bytes 5) f2 [r2] b2)) (H.own (.head _))) fun r4 w4 ⟨c4, f4, hc4, S⟩ => ?_; have H := H.join S; refine vs ?_; refine ⟨kept_base H3 H, ?_⟩; exact ⟨c4, f4, hc4, H.only (c := Ck.own (bytes 5) f4 [r4] c4)⟩
theorem seal_ok (w : World) (v u y z : Value) (key nc aad b : List UInt8) (hv : (bytes 5).rd w w.heap.size [v] key) (hu : (bytes 5).rd w w.heap.size [u] nc) (hy : (bytes 5).rd w w.heap.size [y] aad) (hz : (bytes 5).rd w w.heap.size [z] b) :
    ACalls Tryz.prog 100 #[v, u, y, z] w fun r w' => ∃ (x : Value) (ok : Bool) (c : List UInt8) (fp : List Nat), r = .tuple #[x, .bool ok] ∧ c.length ≤ 4112 ∧ Sep w.heap.size w w' [Ck.own (bytes 5) fp [x] c] := by
  have hv9 := hv; have hu9 := hu; have hy9 := hy; have hz9 := hz; obtain ⟨A, cp, rfl, _⟩ := sl_open hv; obtain ⟨B, cq, rfl, _⟩ := sl_open hu; obtain ⟨C, cr, rfl, _⟩ := sl_open hy; obtain ⟨D, cs, rfl, _⟩ := sl_open hz; have H := Sep.start w; refine body_of follows Tryz.func100 rfl rfl _ rfl (by kernel_rfl) (vs ?_)
  by_cases q1 : (key.length : Int) = 32
  rotate_left
  · refine ve q1 ?_
    refine x_emp H pl_u8 sl22 fun g1 w1 H => vs ?_; exact ⟨_, _, [], _, rfl, Nat.zero_le _, H⟩
  by_cases q2 : (nc.length : Int) = 12
  rotate_left
  · refine ve (And.intro q1 q2) ?_
    refine x_emp H pl_u8 sl22 fun g1 w1 H => vs ?_; exact ⟨_, _, [], _, rfl, Nat.zero_le _, H⟩
  by_cases q3 : (1500 : Int) < (aad.length : Int)
  · refine ve (And.intro q1 (And.intro q2 (eq_true q3))) ?_
    refine x_emp H pl_u8 sl22 fun g1 w1 H => vs ?_; exact ⟨_, _, [], _, rfl, Nat.zero_le _, H⟩
  by_cases q4 : (1500 : Int) < (b.length : Int)
  · refine ve (And.intro q1 (And.intro q2 (And.intro q3 (eq_true q4)))) ?_
    refine x_emp H pl_u8 sl22 fun g1 w1 H => vs ?_; exact ⟨_, _, [], _, rfl, Nat.zero_le _, H⟩
  have hkl : key.length = 32 := by omega
  have hnl : nc.length = 12 := by omega
  have hal : aad.length ≤ 8192 := by omega
  refine ve (And.intro q1 (And.intro q2 (And.intro q3 q4))) ?_; refine x_call (stream_ok w _ _ _ key nc b 1 hv9 hu9 hz9 (by decide)) fun r1 w1 ⟨c1, f1, hc1, S⟩ => vs ?_; have H := H.join S; simp only [List.cons_append, List.nil_append] at H; refine x_call (l7Tag_ok w1 _ _ _ r1 key nc aad c1 (H.rd hv9) (H.rd hu9) (H.rd hy9) (H.own (.head _)) hkl hnl hal (by omega)) fun r2 w2 ⟨c2, f2, hc2, S⟩ => vs ?_; have H := H.join S; simp only [List.cons_append, List.nil_append] at H; refine x_app H pl_u8 sl22 (H.own (.head _)) ?_ ?_ (fun f3 v3 w3 H => vs ?_) (hm := .there .here)
  · omega
  · omega
  exact ⟨_, _, c1 ++ c2, f3, rfl, by rw [List.length_append]; omega, H.tail⟩
theorem dn_b {n : Nat} (h : n ≤ 100000) : w64 ((n : Int) - 16) = (n : Int) - 16 := by unfold w64; omega
theorem open_ok (w : World) (v u y z : Value) (key nc aad b : List UInt8) (hv : (bytes 5).rd w w.heap.size [v] key) (hu : (bytes 5).rd w w.heap.size [u] nc) (hy : (bytes 5).rd w w.heap.size [y] aad) (hz : (bytes 5).rd w w.heap.size [z] b) (hb : b.length ≤ 100000) :
    ACalls Tryz.prog 126 #[v, u, y, z] w fun r w' => ∃ (x : Value) (ok : Bool) (c : List UInt8) (fp : List Nat), r = .tuple #[x, .bool ok] ∧ c.length ≤ 4096 ∧ Sep w.heap.size w w' [Ck.own (bytes 5) fp [x] c] := by
  have hv9 := hv; have hu9 := hu; have hy9 := hy; have hz9 := hz; obtain ⟨A, cp, rfl, _⟩ := sl_open hv; obtain ⟨B, cq, rfl, _⟩ := sl_open hu; obtain ⟨C, cr, rfl, _⟩ := sl_open hy; obtain ⟨D, cs, rfl, _⟩ := sl_open hz; have H := Sep.start w; obtain ⟨N, hN⟩ : ∃ N : Int, N = (b.length : Int) - 16 := ⟨_, rfl⟩; have en : w64 ((b.length : Int) - 16) = N := by rw [hN]; exact dn_b hb
  refine body_of follows Tryz.func126 rfl rfl _ rfl (by kernel_rfl) (ve en ?_)
  by_cases q1 : (key.length : Int) = 32
  rotate_left
  · refine draw_of [(0, true), (1, true), (2, true), (3, true), (4, true), (5, true), (6, true), (7, true), (8, true), (9, true), (10, true), (11, true), (12, true), (13, true), (14, true), (15, false), (16, true), (17, true), (18, true), (19, true), (20, true), (21, true), (22, true), (23, true), (24, true), (26, true), (27, true), (28, true), (25, false), (29, false), (30, true), (31, true)] w.heap.size [] fun w1 hh hbd => ve q1 ?_
    have H := H.go (hbd _); refine ⟨Kept.refl .., Kept.refl .., Kept.refl .., ?_⟩; refine x_emp H pl_u8 sl22 fun g1 w2 H => vs ?_; exact ⟨_, _, [], _, rfl, Nat.zero_le _, H⟩
  by_cases q2 : (nc.length : Int) = 12
  rotate_left
  · refine draw_of [(0, true), (1, true), (2, true), (3, true), (4, true), (5, true), (6, true), (7, true), (8, true), (9, true), (10, true), (11, true), (12, true), (13, true), (14, true), (15, false), (16, true), (17, true), (18, true), (19, true), (20, true), (21, true), (22, true), (23, true), (24, true), (26, true), (27, true), (28, true), (25, false), (29, false), (30, true), (31, true)] w.heap.size [] fun w1 hh hbd => ve (And.intro q1 q2) ?_
    have H := H.go (hbd _); refine ⟨Kept.refl .., Kept.refl .., Kept.refl .., ?_⟩; refine x_emp H pl_u8 sl22 fun g1 w2 H => vs ?_; exact ⟨_, _, [], _, rfl, Nat.zero_le _, H⟩
  by_cases q3 : (1500 : Int) < (aad.length : Int)
  · refine draw_of [(0, true), (1, true), (2, true), (3, true), (4, true), (5, true), (6, true), (7, true), (8, true), (9, true), (10, true), (11, true), (12, true), (13, true), (14, true), (15, false), (16, true), (17, true), (18, true), (19, true), (20, true), (21, true), (22, true), (23, true), (24, true), (26, true), (27, true), (28, true), (25, false), (29, false), (30, true), (31, true)] w.heap.size [] fun w1 hh hbd => ve (And.intro q1 (And.intro q2 (eq_true q3))) ?_
    have H := H.go (hbd _); refine ⟨Kept.refl .., Kept.refl .., Kept.refl .., ?_⟩; refine x_emp H pl_u8 sl22 fun g1 w2 H => vs ?_; exact ⟨_, _, [], _, rfl, Nat.zero_le _, H⟩
  by_cases q4 : 0 ≤ N ∧ N ≤ 1500
  rotate_left
  · refine draw_of [(0, true), (1, true), (2, true), (3, true), (4, true), (5, true), (6, true), (7, true), (8, true), (9, true), (10, true), (11, true), (12, true), (13, true), (14, true), (15, false), (16, true), (17, true), (18, true), (19, true), (20, true), (21, true), (22, true), (23, true), (24, true), (26, true), (27, true), (28, true), (25, false), (29, false), (30, true), (31, true)] w.heap.size [] fun w1 hh hbd => ve (And.intro en (And.intro q1 (And.intro q2 q3))) ?_
    have H := H.go (hbd _); refine x_callw (l1In_ok w1 _ _ _) ?_; refine ve (And.intro en q4) ?_; refine ⟨Kept.refl .., Kept.refl .., Kept.refl .., ?_⟩; refine x_emp H pl_u8 sl22 fun g1 w2 H => vs ?_; exact ⟨_, _, [], _, rfl, Nat.zero_le _, H⟩
  have hkl : key.length = 32 := by omega
  have hnl : nc.length = 12 := by omega
  have hal : aad.length ≤ 8192 := by omega
  obtain ⟨n, hn⟩ : ∃ n : Nat, N = (n : Int) := ⟨N.toNat, by omega⟩; subst hn; have hnb : n ≤ b.length := by omega
  have htk : (b.take n).length ≤ 8192 := by rw [List.length_take]; omega
  refine draw_of [(0, true), (1, true), (2, true), (3, true), (4, true), (5, true), (6, true), (7, true), (8, true), (9, true), (10, true), (11, true), (12, true), (13, true), (14, true), (15, false), (16, true), (17, true), (18, true), (19, true), (20, true), (21, true), (22, true), (23, true), (24, true), (26, true), (27, true), (28, true), (25, false), (29, false), (30, true), (31, true)] w.heap.size [] fun w1 hh hbd => ve (And.intro en (And.intro q1 (And.intro q2 q3))) ?_; have H := H.go (hbd _); have H3 := H; refine x_callw (l1In_ok w1 _ _ _) ?_; refine ve (And.intro en (eq_true q4)) ?_; refine ⟨Kept.refl .., ?_⟩; refine q_toA (hi := n) sl22 rfl (H.rd hz9) hnb fun v1 hv1 => ?_; refine ve en ?_; refine q_fromA (lo := n) sl22 rfl (H.rd hz9) hnb fun v2 hv2 => ?_; refine vs ?_; refine x_call (l7Tag_ok w1 _ _ _ v1 key nc aad (b.take n) (H.rd hv9) (H.rd hu9) (H.rd hy9) (hv1 _ _ (H.rd hz9)) hkl hnl hal htk) fun r2 w2 ⟨c2, f2, hc2, S⟩ => ?_; have H := H.join S; simp only [List.cons_append, List.nil_append] at H; refine vs ?_; refine ⟨kept_base H3 H, ?_⟩; refine x_callw (specSame_ok w2 r2 v2 c2 (b.drop n) (H.own (.head _)) (hv2 _ _ (H.rd hz9))) ?_
  by_cases qs : c2 = b.drop n
  rotate_left
  · refine ve qs ?_
    refine ⟨kept_base H3 H, ?_⟩; refine x_emp H pl_u8 sl22 fun g3 w3 H => vs ?_; exact ⟨_, _, [], _, rfl, Nat.zero_le _, H.only (c := Ck.own (bytes 5) [g3] [.slice (some ⟨g3, 0, none⟩) 0 0] [])⟩
  refine ve (eq_true qs) ?_; refine ⟨kept_base H3 H, ?_⟩
  first | refine ve en ?_ | skip
  refine x_toN sl22 rfl n hz9 rfl hnb fun v5 hv5 => ?_; refine vs ?_; refine x_call (stream_ok w2 _ _ v5 key nc (b.take n) 1 (H.rd hv9) (H.rd hu9) (H.rd hv5) (by decide)) fun r6 w6 ⟨c6, f6, hc6, S⟩ => vs ?_; have H := H.join S; exact ⟨_, _, c6, f6, rfl, hc6, H.only (c := Ck.own (bytes 5) f6 [r6] c6)⟩
def keyB (k : List UInt8) : List UInt8 := if 64 < k.length then hash k else k
theorem keyB_len (k : List UInt8) : (keyB k).length ≤ 64 := by
  unfold keyB
  split
  · have := hash_len k; omega
  · omega
def padK (k : List UInt8) : List UInt8 := keyB k ++ List.replicate (64 - (keyB k).length) 0
theorem padK_len (k : List UInt8) : (padK k).length = 64 := by
  unfold padK; have := keyB_len k; simp only [List.length_append, List.length_replicate]; omega
def mac (k b : List UInt8) : List UInt8 := if b.length ≤ 3936 ∧ k.length ≤ 3936 then hash ((padK k).map (· ^^^ 92) ++ hash ((padK k).map (· ^^^ 54) ++ b)) else []
theorem mac_len (k b : List UInt8) : (mac k b).length ≤ 32 := by
  unfold mac
  split
  · exact hash_len _
  · simp
theorem hash_len32 {b : List UInt8} (h : b.length ≤ 4000) : (hash b).length = 32 := by
  unfold hash; rw [if_pos h, wordBytes_len, hashN_len]
theorem mac_len32 {k b : List UInt8} (h : b.length ≤ 3936) (h' : k.length ≤ 3936) : (mac k b).length = 32 := by
  unfold mac; rw [if_pos ⟨h, h'⟩]
  apply hash_len32
  rw [List.length_append, List.length_map, padK_len, hash_len32 (by rw [List.length_append, List.length_map, padK_len]; omega)]
  omega
theorem zeros_step {k : List UInt8} {j : Nat} : k ++ List.replicate j 0 ++ [0] = k ++ List.replicate (j + 1) (0 : UInt8) := by
  rw [List.append_assoc, List.replicate_succ']
theorem map_step {k : List UInt8} {i : Nat} (f : UInt8 → UInt8) (h : i < k.length) : (k.take (i + 1)).map f = (k.take i).map f ++ [f k[i]] := by
  rw [List.take_succ_eq_append_getElem h, List.map_append]; rfl
theorem specMac_ok (w : World) (v : Value) (k : List UInt8) (u : Value) (b : List UInt8) (h : (bytes 5).rd w w.heap.size [v] k) (h' : (bytes 5).rd w w.heap.size [u] b) :
    ACalls Tryz.prog 106 #[v, u] w fun r w' => ∃ fp, Sep w.heap.size w w' [Ck.own (bytes 5) fp [r] (mac k b)] := by
  have h0 := h; have h0' := h'; obtain ⟨A, c, rfl, _, _, ha⟩ := sl_open h; obtain ⟨B, d, rfl, _, _, hb⟩ := sl_open h'; have H := Sep.start w; refine body_of follows Tryz.func106 rfl rfl _ rfl (by kernel_rfl) (vs ?_)
  have E0 : (mac k b : List UInt8) = [] ∨ (b.length ≤ 3936 ∧ k.length ≤ 3936) := by
    by_cases q : b.length ≤ 3936 ∧ k.length ≤ 3936
    · exact .inr q
    · exact .inl (by unfold mac; rw [if_neg q])
  by_cases q1 : (3936 : Int) < (k.length : Int)
  · refine ve q1 ?_
    refine x_emp H pl_u8 sl22 fun g w1 H => vs ?_
    rcases E0 with e | e
    · rw [e]; exact ⟨_, H⟩
    · omega
  by_cases q2 : (3936 : Int) < (b.length : Int)
  · refine ve (And.intro q1 q2) ?_
    refine x_emp H pl_u8 sl22 fun g w1 H => vs ?_
    rcases E0 with e | e
    · rw [e]; exact ⟨_, H⟩
    · omega
  refine ve (And.intro q1 q2) ?_
  have em : mac k b = hash ((padK k).map (· ^^^ 92) ++ hash ((padK k).map (· ^^^ 54) ++ b)) := by
    unfold mac; rw [if_pos (by omega)]
  rw [em]; have hpl := padK_len k; have hkl := keyB_len k; refine x_emp H pl_u8 sl22 fun g w1 H => vs ?_; refine x_app (l := []) H pl_u8 sl22 (H.rd h0) ?_ ?_ fun f2 v2 w2 H => vs ?_
  · simp only [List.length_nil]; omega
  · simp only [List.length_nil]; omega
  rw [List.nil_append] at H; have hv := own_val (show (bytes 5).ow w2 f2 [v2] k from H.ok _ (.head _)); obtain ⟨A2, c2, rfl, _⟩ := hv; refine vs ?_; have S : ∃ kk, kk = keyB k := ⟨_, rfl⟩; obtain ⟨kk, ekk⟩ := S; rw [← ekk] at hkl; have epk : padK k = kk ++ List.replicate (64 - kk.length) 0 := by rw [ekk]; rfl
  by_cases q3 : (64 : Int) < (k.length : Int)
  all_goals first
    | (refine ve q3 ?_
       refine x_callf H (specHash_ok w2 _ _ (H.own (.head _))) fun r1 f1 w3 H => vs ?_; have ek : hash k = kk := by rw [ekk]; unfold keyB; rw [if_pos (by omega)]
       rw [ek] at H; have H := H.head
       clear ek)
    | (refine ve q3 ?_
       have ek : k = kk := by rw [ekk]; unfold keyB; rw [if_neg (by omega)]
       generalize Value.slice A2 k.length c2 = r1 at H ⊢; rw [ek] at H; generalize hf1 : f2 = f1 at H; generalize hw3 : w2 = w3 at H ⊢
       clear ek hf1 hw3)
  all_goals
    refine loop_at (σ := Nat × Value × List Nat) (fun x => [(0, .slice A k.length c), (1, .slice B b.length d), (5, x.2.1)])
      (fun x w' => kk.length + x.1 ≤ 64 ∧ Sep w.heap.size w w' [Ck.own (bytes 5) x.2.2 [x.2.1] (kk ++ List.replicate x.1 0)]) (fun x => 64 - (kk.length + x.1)) (0, r1, f1) (vs ?_) ⟨by show kk.length + 0 ≤ 64; omega, by show Sep _ _ _ [Ck.own (bytes 5) f1 [r1] (kk ++ List.replicate 0 0)]; rw [List.replicate_zero, List.append_nil]; exact H⟩ ?_
    · trivial
    rintro ⟨j, v3, f3⟩ s w4 ⟨hj, H⟩; dsimp only at hj H; have hv := own_val (show (bytes 5).ow w4 f3 [v3] (kk ++ List.replicate j 0) from H.ok _ (.head _)); obtain ⟨A3, c3, rfl, _⟩ := hv; have hl3 : (kk ++ List.replicate j (0 : UInt8)).length = kk.length + j := by simp
    by_cases q4 : (((kk ++ List.replicate j (0 : UInt8)).length : Nat) : Int) < 64
    · refine ve q4 ?_
      refine x_lst H pl_u8 sl22 [0] (by simp) fun g5 w5 H => vs ?_; refine x_app (l := kk ++ List.replicate j 0) H pl_u8 sl22 (H.own (.head _)) ?_ ?_ fun f6 v6 w6 H => vs ?_
      · rw [hl3]; simp only [List.length_cons, List.length_nil]; omega
      · rw [hl3]; simp only [List.length_cons, List.length_nil]; omega
      rw [zeros_step] at H; refine ⟨(j + 1, v6, f6), rfl, ⟨by show kk.length + (j + 1) ≤ 64; omega, H.tail⟩, by show 64 - (kk.length + (j + 1)) < 64 - (kk.length + j); omega⟩
    refine ve q4 ?_; obtain rfl : j = 64 - kk.length := by omega
    rw [← epk] at H ⊢; refine x_emp H pl_u8 sl22 fun g5 w5 H => vs ?_; refine x_emp H pl_u8 sl22 fun g6 w6 H => vs ?_
    refine loop_at (σ := Nat × (Value × List Nat) × (Value × List Nat)) (fun x => [(0, .slice A k.length c), (1, .slice B b.length d), (5, .slice A3 (padK k).length c3), (6, x.2.1.1), (7, x.2.2.1), (8, .int .i64 (x.1 : Int))])
      (fun x w' => x.1 ≤ 64 ∧ Sep w.heap.size w w' [Ck.own (bytes 5) x.2.2.2 [x.2.2.1] (((padK k).take x.1).map (· ^^^ 92)), Ck.own (bytes 5) x.2.1.2 [x.2.1.1] (((padK k).take x.1).map (· ^^^ 54)), Ck.own (bytes 5) f3 [.slice A3 (padK k).length c3] (padK k)]) (fun x => 64 - x.1) (0, (_, _), (_, _)) (vs trivial) ⟨Nat.zero_le _, H⟩ ?_
    rintro ⟨i, ⟨v7, f7⟩, ⟨v8, f8⟩⟩ s w7 ⟨hi, H⟩; dsimp only at hi H
    by_cases q5 : ((i : Int) < 64)
    · have hi2 : i < (padK k).length := by omega
      refine ve q5 ?_
      have hp : ∀ (L : List Ck) (w9 : World), Sep w.heap.size w w9 L → Ck.own (bytes 5) f3 [.slice A3 (padK k).length c3] (padK k) ∈ L → Kd.sliceRd Kd.u8 w9 w9.heap.size A3 (padK k) := fun L w9 H hm => by
        obtain ⟨A', c', eA, _, _, hp⟩ := sl_open (H.own hm)
        injection eA with h1 h2 h3
        rw [h1]; exact hp
      refine x_elV pl_u8 sl22 i (hp _ _ H (.tail _ (.tail _ (.head _)))) (List.getElem?_eq_getElem hi2) rfl rfl fun ad hb1 hc1 _ => vs ?_; refine x_load sc5 hc1 (vs ?_); rw [show (54 : Int) = ((54 : UInt8).toNat : Int) from rfl, ixor_u8]; refine x_lst H pl_u8 sl22 [(padK k)[i] ^^^ 54] (by simp) fun g8 w8 H => vs ?_; have hl5 : ∀ x : UInt8, (((padK k).take i).map (· ^^^ x)).length ≤ 64 := fun x => by simp only [List.length_map, List.length_take]; omega
      have l1 := hl5 54; have l2 := hl5 92; refine x_app (l := ((padK k).take i).map (· ^^^ 54)) H pl_u8 sl22 (H.own (.head _)) ?_ ?_ fun f9 v9 w9 H => vs ?_
      · simp only [List.length_cons, List.length_nil]; omega
      · simp only [List.length_cons, List.length_nil]; omega
      refine x_elV pl_u8 sl22 i (hp _ _ H (.tail _ (.tail _ (.tail _ (.head _))))) (List.getElem?_eq_getElem hi2) rfl rfl fun ad hb1 hc1 _ => vs ?_; refine x_load sc5 hc1 (vs ?_); rw [show (92 : Int) = ((92 : UInt8).toNat : Int) from rfl, ixor_u8]; refine x_lst H pl_u8 sl22 [(padK k)[i] ^^^ 92] (by simp) fun g10 w10 H => vs ?_; refine x_app (l := ((padK k).take i).map (· ^^^ 92)) H pl_u8 sl22 (H.own (.head _)) ?_ ?_ fun f11 v11 w11 H => vs ?_
      · simp only [List.length_cons, List.length_nil]; omega
      · simp only [List.length_cons, List.length_nil]; omega
      rw [← map_step (· ^^^ 54) hi2, ← map_step (· ^^^ 92) hi2] at H; exact ⟨(i + 1, (v9, f9), (v11, f11)), ⟨rfl, rfl, i64_eq (by show w64 ((i : Int) + 1) = ((i + 1 : Nat) : Int); exact w64_succ (b := 64) (by omega) (by omega))⟩, ⟨by show i + 1 ≤ 64; omega, H.tail.tail⟩, by show 64 - (i + 1) < 64 - i; omega⟩
    refine ve q5 ?_; obtain rfl : i = 64 := by omega
    rw [List.take_of_length_le (by omega)] at H; have l1 : ∀ x : UInt8, ((padK k).map (· ^^^ x)).length = 64 := fun x => by rw [List.length_map, hpl]
    refine x_app (l := (padK k).map (· ^^^ 54)) H pl_u8 sl22 (H.rd h0') ?_ ?_ fun f9 v9 w9 H => vs ?_
    · have := l1 54; omega
    · have := l1 54; omega
    refine x_callf H (specHash_ok w9 _ _ (H.own (.tail _ (.head _)))) fun r10 f10 w10 H => vs ?_; have lh := hash_len ((padK k).map (· ^^^ 54) ++ b); refine x_app (l := (padK k).map (· ^^^ 92)) H pl_u8 sl22 (H.own (.head _)) ?_ ?_ fun f11 v11 w11 H => vs ?_
    · have := l1 92; omega
    · have := l1 92; omega
    refine x_callf H (specHash_ok w11 _ _ (H.own (.tail _ (.head _)))) fun r12 f12 w12 H => vs ?_; exact ⟨_, H.head⟩
def extract (salt b : List UInt8) : List UInt8 := mac (if salt.length = 0 then List.replicate 32 0 else salt) b
theorem specExtract_ok (w : World) (v : Value) (salt : List UInt8) (u : Value) (b : List UInt8) (h : (bytes 5).rd w w.heap.size [v] salt) (h' : (bytes 5).rd w w.heap.size [u] b) :
    ACalls Tryz.prog 123 #[v, u] w fun r w' => ∃ fp, Sep w.heap.size w w' [Ck.own (bytes 5) fp [r] (extract salt b)] := by
  have h0 := h; obtain ⟨A, c, rfl, _, _, ha⟩ := sl_open h; have H := Sep.start w; refine body_of follows Tryz.func123 rfl rfl _ rfl (by kernel_rfl) ?_
  by_cases q : ((salt.length : Int) = 0)
  · refine ve (eq_true q) ?_
    refine x_mk (m := 32) H pl_u8 (x := 0) sl22 trivial (by omega) (by omega) fun g w2 H => vs ?_; refine x_callf H (specMac_ok w2 _ _ _ b (H.own (.head _)) (H.rd h')) fun r4 f4 w4 H => vs ?_; have e : extract salt b = mac (List.replicate 32 0) b := by unfold extract; rw [if_pos (by omega)]
    rw [e]; exact ⟨_, H.head⟩
  · refine ve (eq_false q) ?_
    refine x_callf H (specMac_ok w _ _ _ b h0 h') fun r4 f4 w4 H => vs ?_; have e : extract salt b = mac salt b := by unfold extract; rw [if_neg (by omega)]
    rw [e]; exact ⟨_, H.head⟩
def expT (key info : List UInt8) : Nat → List UInt8
  | 0 => []
  | n + 1 => mac key (expT key info n ++ info ++ [UInt8.ofNat ((n + 1) % 256)])
theorem expT_le (key info : List UInt8) : ∀ n, (expT key info n).length ≤ 32
  | 0 => by simp [expT]
  | n + 1 => mac_len _ _
theorem expT_len {key info : List UInt8} (hk : key.length ≤ 400) (hi : info.length ≤ 400) (n : Nat) : (expT key info (n + 1)).length = 32 := by
  rw [expT]; have := expT_le key info n; exact mac_len32 (by simp only [List.length_append, List.length_cons, List.length_nil]; omega) (by omega)
def expO (key info : List UInt8) : Nat → List UInt8
  | 0 => []
  | n + 1 => expO key info n ++ expT key info (n + 1)
theorem expO_len {key info : List UInt8} (hk : key.length ≤ 400) (hi : info.length ≤ 400) : ∀ n, (expO key info n).length = 32 * n
  | 0 => rfl
  | n + 1 => by rw [expO, List.length_append, expO_len hk hi n, expT_len hk hi n]; omega
def expand (key info : List UInt8) (many : Int) : List UInt8 :=
  if (1 ≤ many ∧ many ≤ 8160) ∧ info.length ≤ 400 ∧ key.length ≤ 400 then (expO key info ((many.toNat + 31) / 32)).take many.toNat else []
theorem expand_len (key info : List UInt8) (many : Int) : (expand key info many).length ≤ 8160 := by
  unfold expand
  split
  · rw [List.length_take]; omega
  · simp
theorem specExpand_ok (w : World) (v : Value) (key : List UInt8) (u : Value) (info : List UInt8) (many : Int) (h : (bytes 5).rd w w.heap.size [v] key) (h' : (bytes 5).rd w w.heap.size [u] info) :
    ACalls Tryz.prog 122 #[v, u, .int .i64 many] w fun r w' => ∃ fp, Sep w.heap.size w w' [Ck.own (bytes 5) fp [r] (expand key info many)] := by
  have h0 := h; have h0' := h'; obtain ⟨A, c, rfl, _, _, ha⟩ := sl_open h; obtain ⟨B, d, rfl, _, _, hb⟩ := sl_open h'; have H := Sep.start w; refine body_of follows Tryz.func122 rfl rfl _ rfl (by kernel_rfl) (vs ?_); refine x_emp H pl_u8 sl22 fun g w1 H => vs ?_; refine x_callw (l1In_ok w1 _ _ _) ?_
  by_cases q1 : 1 ≤ many ∧ many ≤ 8160
  case neg =>
    refine ve q1 ?_; have e : expand key info many = [] := by unfold expand; rw [if_neg (fun hh => q1 hh.1)]
    rw [e]; exact ⟨_, H⟩
  by_cases q3 : (400 : Int) < (info.length : Int)
  · refine ve (And.intro q1 q3) ?_
    have e : expand key info many = [] := by unfold expand; rw [if_neg (by omega)]
    rw [e]; exact ⟨_, H⟩
  by_cases q4 : (400 : Int) < (key.length : Int)
  · refine ve (And.intro q1 (And.intro q3 q4)) ?_
    have e : expand key info many = [] := by unfold expand; rw [if_neg (by omega)]
    rw [e]; exact ⟨_, H⟩
  refine ve (And.intro q1 (And.intro q3 q4)) ?_; have es : expand key info many = (expO key info ((many.toNat + 31) / 32)).take many.toNat := by unfold expand; rw [if_pos ⟨q1, by omega, by omega⟩]
  rw [es]; have hk : key.length ≤ 400 := by omega
  have hi : info.length ≤ 400 := by omega
  obtain ⟨m, rfl⟩ : ∃ q : Nat, many = (q : Int) := ⟨many.toNat, by omega⟩; simp only [Int.toNat_natCast]; have hO := expO_len hk hi; refine x_emp H pl_u8 sl22 fun g' w2 H => vs ?_
  refine loop_at (σ := Nat × (Value × List Nat) × (Value × List Nat)) (fun x => [(0, .slice A key.length c), (1, .slice B info.length d), (2, .int .i64 (m : Int)), (7, x.2.2.1), (8, x.2.1.1), (9, .int .i64 ((x.1 + 1 : Nat) : Int))])
    (fun x w' => x.1 ≤ (m + 31) / 32 ∧ Sep w.heap.size w w' [Ck.own (bytes 5) x.2.1.2 [x.2.1.1] (expT key info x.1), Ck.own (bytes 5) x.2.2.2 [x.2.2.1] (expO key info x.1)]) (fun x => (m + 31) / 32 - x.1) (0, (_, _), (_, _)) (vs ?_) ⟨Nat.zero_le _, H⟩ ?_
  · trivial
  rintro ⟨j, ⟨v8, f8⟩, ⟨v9, f9⟩⟩ s w5 ⟨hj, H⟩; dsimp only at hj H; have hv := own_val (show (bytes 5).ow w5 f9 [v9] (expO key info j) from H.ok _ (.tail _ (.head _))); obtain ⟨A3, c3, rfl, _⟩ := hv; have hOj := hO j; have hT := expT_le key info j
  by_cases hlt : (((expO key info j).length : Nat) : Int) < (m : Int)
  · refine ve hlt ?_
    refine x_emp H pl_u8 sl22 fun g6 w6 H => vs ?_; refine x_app (l := []) H pl_u8 sl22 (H.own (.tail _ (.head _))) ?_ ?_ fun f7 v7 w7 H => vs ?_
    · simp only [List.length_nil]; omega
    · simp only [List.length_nil]; omega
    rw [List.nil_append] at H; refine x_app (l := expT key info j) H pl_u8 sl22 (H.rd h0') ?_ ?_ fun f8' v8' w8 H => vs ?_
    · omega
    · omega
    rw [u8_of']; refine x_lst H pl_u8 sl22 [UInt8.ofNat ((j + 1) % 256)] (by simp) fun g9 w9 H => vs ?_; refine x_app (l := expT key info j ++ info) H pl_u8 sl22 (H.own (.head _)) ?_ ?_ fun f10 v10 w10 H => vs ?_
    · simp only [List.length_append, List.length_cons, List.length_nil]; omega
    · simp only [List.length_append, List.length_cons, List.length_nil]; omega
    refine x_callf H (specMac_ok w10 _ key _ _ (H.rd h0) (H.own (.tail _ (.head _)))) fun r9 f11 w11 H => vs ?_; have hT1 := expT_len hk hi j; rw [expT] at hT1; refine x_app (l := expO key info j) H pl_u8 sl22 (H.own (.head _)) ?_ ?_ fun f12 v12 w12 H => vs ?_
    · omega
    · omega
    refine ⟨(j + 1, (r9, f11), (v12, f12)), ⟨rfl, rfl, i64_eq (by show w64 (((j + 1 : Nat) : Int) + 1) = ((j + 1 + 1 : Nat) : Int); exact w64_succ (b := 640) (by omega) (by omega))⟩, ⟨by show j + 1 ≤ (m + 31) / 32; omega, ?_⟩, by show (m + 31) / 32 - (j + 1) < (m + 31) / 32 - j; omega⟩; exact H.two (c := Ck.own (bytes 5) f11 [r9] (expT key info (j + 1))) (c' := Ck.own (bytes 5) f12 [v12] (expO key info (j + 1))) .here (by repeat (first | exact Out.here | apply Out.there))
  · have ej : j = (m + 31) / 32 := by omega
    refine ve hlt ?_; refine x_emp H pl_u8 sl22 fun g6 w6 H => vs ?_; refine x_to sl22 rfl (H.own (.tail _ (.tail _ (.head _)))) (by omega) fun v7 hr7 => vs ?_; refine x_app (l := []) H pl_u8 sl22 hr7 ?_ ?_ fun f8 v8 w8 H => vs ?_
    · simp only [List.length_nil, List.length_take]; omega
    · simp only [List.length_nil, List.length_take]; omega
    rw [List.nil_append, ej] at H; exact ⟨_, H.head⟩
def derive (salt b info : List UInt8) (many : Int) : List UInt8 := expand (extract salt b) info many
theorem specDerive_ok (w : World) (v : Value) (salt : List UInt8) (u : Value) (b : List UInt8) (y : Value) (info : List UInt8) (many : Int) (h : (bytes 5).rd w w.heap.size [v] salt) (h' : (bytes 5).rd w w.heap.size [u] b) (h'' : (bytes 5).rd w w.heap.size [y] info) :
    ACalls Tryz.prog 102 #[v, u, y, .int .i64 many] w fun r w' => ∃ fp, Sep w.heap.size w w' [Ck.own (bytes 5) fp [r] (derive salt b info many)] := by
  have H := Sep.start w; refine body_of follows Tryz.func102 rfl rfl _ rfl (by kernel_rfl) (vs ?_); refine x_callf H (specExtract_ok w _ _ _ b h h') fun r1 f1 w1 H => vs ?_; refine x_callf H (specExpand_ok w1 _ _ _ info many (H.own (.head _)) (H.rd h'')) fun r2 f2 w2 H => vs ?_; exact ⟨_, H.head⟩

end Go.Proofs.YtcmckbgiiclomabGreatDoor.V
