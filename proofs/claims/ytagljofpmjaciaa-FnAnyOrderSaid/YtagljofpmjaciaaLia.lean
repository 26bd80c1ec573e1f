/- The law of keys asked for in any order, walked. -/
import Derived.Test.YtagljofpmjaciaaWdd
import Derived.Test.YtagljofpmjaciaaPd
import Derived.Test.YtagljofpmjaciaaWsa
namespace Go.Proofs.Ytagljofpmjaciaa.V
open Go Go.RowKit
set_option maxRecDepth 100000
set_option maxHeartbeats 8000000
set_option linter.unusedSimpArgs false
set_option linter.unusedVariables false
set_option pp.deepTerms false
set_option pp.deepTerms.threshold 3

abbrev lists : Kd (List (List UInt8)) := Kd.slice 22 (bytes 5)
theorem bigA_ok (w : World) (v : Value) (a : List UInt8) (h : (bytes 5).rd w w.heap.size [v] a) :
    ACalls Try.prog 12 #[v] w fun r w' => r = .bool (decide (1048576 < (a.length : Int))) ∧ w' = w := by
  obtain ⟨A, c, rfl, _⟩ := sl_open h
  exact body_of follows Try.func12 rfl rfl _ rfl (by kernel_rfl) (vs trivial)
theorem set_same {l : List Bool} {n : Nat} {b : Bool} (h : l[n]? = some b) : l.set n b = l := by
  obtain ⟨hn, rfl⟩ := List.getElem?_eq_some_iff.1 h
  exact List.set_getElem_self hn
def keysTo (c : MChain) (k : Nat) : List (List UInt8) := (List.range k).map (keyAt c)
theorem keysTo_succ (c : MChain) (k : Nat) : keysTo c (k + 1) = keysTo c k ++ [keyAt c k] := by unfold keysTo; rw [List.range_succ, List.map_append]; rfl
theorem keysTo_len (c : MChain) (k : Nat) : (keysTo c k).length = k := by simp [keysTo]
theorem keysTo_at (c : MChain) (k n : Nat) (h : n < (keysTo c k).length) : (keysTo c k)[n] = keyAt c n := by simp [keysTo]

theorem Sep.three' {n : Nat} {w0 w : World} {L M1 M2 M3 : List Ck} (a b c : Ck) (H : Sep n w0 w L) (h1 : Out a L M1 := by repeat (first | exact Out.here | apply Out.there)) (h2 : Out b M1 M2 := by repeat (first | exact Out.here | apply Out.there)) (h3 : Out c M2 M3 := by repeat (first | exact Out.here | apply Out.there)) : Sep n w0 w [c, b, a] := by
  have H1 := (((H.out h1).out (.there h2)).out (.there (.there h3)))
  exact H1.left (L := [c, b, a])
theorem FnAnyOrder_ok (w : World) (v0 : Value) (x0 : List UInt8) (h0 : (bytes 5).rd w w.heap.size [v0] x0) :
    ACalls Try.prog 5 #[v0] w fun r w' => r = .bool true ∧ Below w.heap.size w w' := by
  refine body_of follows Try.func5 rfl rfl _ rfl (by kernel_rfl) (vs ?_)
  refine x_callw (bigA_ok w v0 x0 h0) ?_
  by_cases q0 : 1048576 < (x0.length : Int)
  · refine ve q0 ?_
    exact Below.refl ..
  refine ve q0 ?_
  have H := Sep.start w
  refine x_call (at_ok w v0 x0 1 h0 (by omega) (by omega)) fun _ w1 ⟨k1, e, hk1, e2⟩ => ?_
  subst e
  rw [e2]
  refine ve (u8_low hk1) ?_
  refine x_lst H pl_u8 sl22 [UInt8.ofNat k1] (by simp) fun g1 w1 H => vs ?_
  refine x_appZ (q := 31) sl22 Try.underlying3 H (by omega) (by simp) (by simp) fun g2 c2 w2 H => vs ?_
  have hseed : ([UInt8.ofNat k1] ++ List.replicate 31 0).length = 32 := by simp
  obtain ⟨seed, hsd⟩ : ∃ s, s = [UInt8.ofNat k1] ++ List.replicate 31 0 := ⟨_, rfl⟩
  rw [← hsd] at H hseed
  refine x_call (implChainNew_ok w2 _ seed (H.own (.head _))) fun _ w3 ⟨cs, f3, e, S⟩ => ?_
  subst e
  have H := H.join S
  simp only [List.cons_append, List.nil_append] at H
  have H := H.drops (L := [_])
  obtain ⟨oc, oN⟩ := chainNew_ok hseed
  obtain ⟨c0, hc0⟩ : ∃ c, c = chainNew seed := ⟨_, rfl⟩
  rw [← hc0] at H oc oN
  obtain ⟨a0, rfl, ha0, _⟩ := kChain_open (H.own (.head _))
  obtain ⟨A0, d0, rfl, _⟩ := sl_open ha0
  refine ve hseed ?_
  refine x_al H st43 fun g3 w4 H => vs ?_
  refine x_sta (vs := [.slice A0 c0.f_Key.length d0, .int .i64 c0.f_N]) H st43 (h1 := by simp [Value.oneCell']) fun w5 H => vs ?_
  refine x_empO (d := bytes 5) H sl31 fun g4 w6 H => vs ?_
  refine x_lda H st43 ?_
  refine vs ?_
  refine x_al H st43 fun g5 w7 H => vs ?_
  refine x_sta (vs := [.slice A0 c0.f_Key.length d0, .int .i64 c0.f_N]) H st43 (h1 := by simp [Value.oneCell']) fun w8 H => vs ?_
  have hc := H.own (.tail _ (.tail _ (.tail _ (.head _))))
  have H := H.front (c := Ck.own lists [g4] [.slice (some ⟨g4, 0, none⟩) 0 0] [])
  refine loop_at (σ := Nat × Value × Value × List Nat) (fun y => [(0, v0), (3, .pointer (some ⟨g3, 0, none⟩)), (5, y.2.2.1), (6, .pointer (some ⟨g5, 0, none⟩)), (7, .int .i64 (y.1 : Int))])
    (fun y w' => y.1 ≤ 20 ∧ kChain.rd w' w'.heap.size [y.2.1, .int .i64 (itC y.1 c0).f_N] (itC y.1 c0) ∧ Sep w.heap.size w w' [Ck.own lists y.2.2.2 [y.2.2.1] (keysTo c0 y.1), Ck.box g5 [y.2.1, .int .i64 (itC y.1 c0).f_N] 43, Ck.box g3 [.slice A0 c0.f_Key.length d0, .int .i64 c0.f_N] 43, Ck.own kChain f3 [.slice A0 c0.f_Key.length d0, .int .i64 c0.f_N] c0]) (fun y => 20 - y.1) (0, .slice A0 c0.f_Key.length d0, .slice (some ⟨g4, 0, none⟩) 0 0, [g4]) (vs trivial) ⟨Nat.zero_le _, hc, H⟩ ?_
  rintro ⟨i, a, v5, f5⟩ s w2 ⟨hi, hc, H⟩
  dsimp only at hi hc H
  refine vs (ways ?_ ?_)
  · refine vh fun hlt => ?_
    obtain ⟨r1, r2⟩ := itC_ok i c0 oc (by omega)
    have hgo := chainGo_of r1 (by omega)
    obtain ⟨o1', _, _⟩ := chainOk_iff.1 r1
    refine x_lda H st43 ?_
    refine vs ?_
    refine x_call (implChainNext_ok w2 _ (itC i c0) hc (by unfold smChain; omega)) fun _ w3 ⟨cs3, f6, v6, f7, e, S⟩ => ?_
    subst e
    have H := H.join S
    simp only [List.cons_append, List.nil_append] at H
    rw [← itC_succ] at H
    obtain ⟨a3, rfl, ha3, _⟩ := kChain_open (H.own (.head _))
    obtain ⟨A3, d3, rfl, _⟩ := sl_open ha3
    obtain ⟨A6, d6, rfl, _⟩ := sl_open (H.own (.tail _ (.head _)))
    refine vs ?_
    refine x_al H st43 fun g8 w4 H => vs ?_
    refine x_sta (vs := [.slice A3 (itC (i + 1) c0).f_Key.length d3, .int .i64 (itC (i + 1) c0).f_N]) H st43 (h1 := by simp [Value.oneCell']) fun w5 H => vs ?_
    refine x_lda H st43 ?_
    refine vs ?_
    refine x_sta (vs := [.slice A3 (itC (i + 1) c0).f_Key.length d3, .int .i64 (itC (i + 1) c0).f_N]) H st43 (h1 := by simp [Value.oneCell']) fun w6 H => vs ?_
    have H := H.front (c := Ck.own (bytes 5) f7 [.slice A6 (chainNextK (itC i c0)).length d6] (chainNextK (itC i c0)))
    refine x_lst1 sl31 H rfl rfl fun f8 v8 w8 H => vs ?_
    have H := H.front (c := Ck.own lists f5 [v5] (keysTo c0 i))
    have H := H.front (c := Ck.own lists f8 [v8] [chainNextK (itC i c0)])
    refine x_appO sl31 H rfl ?_ ?_ fun f9 v9 w9 H => vs ?_
    · rw [keysTo_len]; simp only [List.length_cons, List.length_nil]; omega
    · rw [keysTo_len]; simp only [List.length_cons, List.length_nil]; omega
    have hc := H.own (d := kChain) (fp := f6) (cs := [.slice A3 (itC (i + 1) c0).f_Key.length d3, .int .i64 (itC (i + 1) c0).f_N]) (x := itC (i + 1) c0) (by simp)
    refine ⟨(i + 1, .slice A3 (itC (i + 1) c0).f_Key.length d3, v9, f9), ⟨rfl, i64_eq (by show w64 ((i : Int) + 1) = ((i + 1 : Nat) : Int); exact w64_succ (b := 1048576) (by omega) (by omega))⟩, ⟨by dsimp only; omega, hc, ?_⟩, by show 20 - (i + 1) < 20 - i; omega⟩
    show Sep _ _ _ [Ck.own lists f9 [v9] (keysTo c0 (i + 1)), _, _, _]
    rw [keysTo_succ]
    have H := H.drops (L := [_]) (c := Ck.box g8 _ _)
    exact H.drops (L := [_]) (c := Ck.own kChain f6 _ _)
  · refine vh fun hlt => ?_
    obtain rfl : i = 20 := by omega
    clear hc
    refine x_lda H st43 ?_
    refine vs ?_
    refine x_build bl50 [.slice A0 c0.f_Key.length d0, .int .i64 c0.f_N, .slice none 0 0] ?_
    refine vs ?_
    refine x_al H st50 fun g11 w3 H => vs ?_
    refine x_sta (vs := [.slice A0 c0.f_Key.length d0, .int .i64 c0.f_N, .slice none 0 0]) H st50 (h1 := by simp [Value.oneCell']) fun w4 H => vs ?_
    refine x_mk (m := 20) H pl_bool (x := false) sl51 trivial (by omega) (by omega) fun g12 w5 H => vs ?_
    have H := H.nothing (d := kepts) (sl_zero w5)
    have H := H.front (c := Ck.own kChain f3 [.slice A0 c0.f_Key.length d0, .int .i64 c0.f_N] c0)
    obtain ⟨fc, H⟩ := ownCatch (⟨c0, []⟩ : MCatch) H
    have hc := H.own (.head _)
    have H := H.three' (Ck.box g11 [.slice A0 c0.f_Key.length d0, .int .i64 c0.f_N, .slice none 0 0] 50) (Ck.own lists f5 [v5] (keysTo c0 20)) (Ck.own (Kd.slice 4 Kd.bool) [g12] [.slice (some ⟨g12, 0, none⟩) 20 20] (List.replicate 20 false))
    have hany : Any c0 (List.replicate 20 false) ⟨c0, []⟩ 0 := ⟨catchOk_true ⟨oc, by simp, fun i h => absurd h (by simp)⟩, rfl, by show c0.f_N = _; rw [oN]; rfl, by simp, fun j hj => by
      rw [List.getD_eq_getElem?_getD, List.getElem?_replicate] at hj
      split at hj <;> simp at hj⟩
    obtain ⟨A5, d5, rfl, _⟩ := sl_open (H.own (.tail _ (.head _)))
    refine loop_at (σ := Nat × MCatch × Value × Value × List Bool) (fun y => [(0, v0), (5, .slice A5 (keysTo c0 20).length d5), (11, .pointer (some ⟨g11, 0, none⟩)), (12, .slice (some ⟨g12, 0, none⟩) 20 20), (13, .int .i64 (y.1 : Int))])
      (fun y w' => y.1 ≤ 30 ∧ y.2.2.2.2.length = 20 ∧ (∃ m, Any c0 y.2.2.2.2 y.2.1 m) ∧ kCatch.rd w' w'.heap.size [y.2.2.1, .int .i64 y.2.1.f_Chain.f_N, y.2.2.2.1] y.2.1 ∧ Sep w.heap.size w w' [Ck.own (Kd.slice 4 Kd.bool) [g12] [.slice (some ⟨g12, 0, none⟩) 20 20] y.2.2.2.2, Ck.own lists f5 [.slice A5 (keysTo c0 20).length d5] (keysTo c0 20), Ck.box g11 [y.2.2.1, .int .i64 y.2.1.f_Chain.f_N, y.2.2.2.1] 50]) (fun y => 30 - y.1) (0, ⟨c0, []⟩, .slice A0 c0.f_Key.length d0, .slice none 0 0, List.replicate 20 false) (vs trivial) ⟨Nat.zero_le _, by simp, ⟨0, hany⟩, hc, H⟩ ?_
    rintro ⟨i, x, a, l, gv⟩ s w2 ⟨hi, hgv, ⟨m, hany⟩, hc, H⟩
    dsimp only at hi hgv hany hc H
    refine vs (ways ?_ ?_)
    · refine vh fun hlt => ?_
      refine ve (show w64 ((i : Int) + 2) = ((i + 2 : Nat) : Int) by rw [w64_id (by omega) (by omega)]; omega) ?_
      refine x_call (at_ok w2 v0 x0 ((i + 2 : Nat) : Int) (H.rd h0) (by omega) (by omega)) fun _ w3 ⟨k, e, hk, e2⟩ => ?_
      subst e
      rw [e2]
      refine vs ?_
      refine x_rem (h := ?_)
      rw [show ((20 : Int)) = ((20 : Nat) : Int) from rfl, tmod_nat]
      have hn20 : k % 20 < 20 := Nat.mod_lt _ (by omega)
      obtain ⟨n, hn⟩ : ∃ n, n = k % 20 := ⟨_, rfl⟩
      rw [← hn] at hn20 ⊢
      have hst := any_step hany hn20
      refine vs ?_
      refine x_lda H st50 ?_
      refine vs ?_
      refine x_call (implCatchKey_ok w2 _ x (n : Int) hc (smCatch_ok hany.ok)) fun _ w3 ⟨cs3, f6, v6, f7, e, S⟩ => ?_
      subst e
      have H := H.join S
      simp only [List.cons_append, List.nil_append] at H
      obtain ⟨a3, l3, rfl, _, _⟩ := kCatch_open (H.own (.head _))
      have ha3 := Kd.one _ (H.own (.head _))
      obtain ⟨A6, d6, rfl, _⟩ := sl_open (H.own (.tail _ (.head _)))
      refine vs ?_
      refine x_al H st50 fun g15 w4 H => vs ?_
      refine x_sta (vs := [a3, .int .i64 (ck x (n : Int)).1.f_Chain.f_N, l3]) H st50 (h1 := ha3) fun w5 H => ?_
      have hgb := H.own (d := Kd.slice 4 Kd.bool) (fp := [g12]) (cs := [.slice (some ⟨g12, 0, none⟩) 20 20]) (x := gv) (by simp)
      have hrowB : ∃ ab, Kd.sliceRd Kd.bool w5 w5.heap.size ab gv ∧ ab = some ⟨g12, 0, none⟩ := by
        obtain ⟨A', c', e', _, _, ha⟩ := sl_open hgb
        simp only [List.cons.injEq, Value.slice.injEq, and_true] at e'
        exact ⟨A', ha, e'.1.symm⟩
      obtain ⟨_, hrowB, rfl⟩ := hrowB
      have hkl := H.own (d := lists) (fp := f5) (cs := [.slice A5 (keysTo c0 20).length d5]) (x := keysTo c0 20) (by simp)
      have hkr : Kd.sliceRd (bytes 5) w5 w5.heap.size A5 (keysTo c0 20) := by
        obtain ⟨A', c', e', _, _, ha⟩ := sl_open hkl
        simp only [List.cons.injEq, Value.slice.injEq, and_true] at e'
        rw [e'.1]; exact ha
      have hnk : n < (keysTo c0 20).length := by rw [keysTo_len]; exact hn20
      have hg0 : gv[n]? = some (gv.getD n false) := by
        rw [List.getD_eq_getElem?_getD, List.getElem?_eq_getElem (by omega)]; rfl
      cases hf : (ck x (n : Int)).2.2 with
      | true =>
        obtain ⟨s1, s2, m', s3⟩ := hst.1 hf
        rw [s1] at hg0
        refine vs ?_
        refine x_elV pl_bool sl51 (x := false) n hrowB hg0 rfl (by omega) fun ad hb hca _ => vs ?_
        refine x_load sc4 hca (vs ?_)
        refine x_ele (Sep.start w5) sl31 rfl n hnk hkr rfl fun ad es hb hr hca => vs ?_
        obtain ⟨u, rfl⟩ := sl_one hr
        refine x_ld1 sc22 hca rfl (vs ?_)
        refine x_callw (implSame_ok w5 _ u _ _ (H.own (.tail _ (.tail _ (.head _)))) hr) ?_
        refine ve (show (ck x (n : Int)).2.1 = (keysTo c0 20)[n] by rw [s2, keysTo_at]) ?_
        refine x_elV pl_bool sl51 (x := false) n hrowB hg0 rfl (by omega) fun ad hb hca _ => vs ?_
        refine x_load sc4 hca (vs ?_)
        refine x_elV pl_bool sl51 (x := false) n hrowB hg0 rfl (by omega) fun ad hb hca _ => vs ?_
        refine x_load sc4 hca (vs ?_)
        refine x_index sl51 rfl (by omega) (by omega) (vs ?_)
        refine x_set H pl_bool sc4 (x := true) (by omega) trivial fun w6 H => vs ?_
        refine x_lda H st50 ?_
        refine vs ?_
        refine x_sta (vs := [a3, .int .i64 (ck x (n : Int)).1.f_Chain.f_N, l3]) H st50 (h1 := ha3) fun w7 H => vs ?_
        have hc7 := H.own (d := kCatch) (fp := f6) (cs := [a3, .int .i64 (ck x (n : Int)).1.f_Chain.f_N, l3]) (x := (ck x (n : Int)).1) (by simp)
        refine ⟨(i + 1, (ck x (n : Int)).1, a3, l3, gv.set n true), i64_eq (by show w64 ((i : Int) + 1) = ((i + 1 : Nat) : Int); exact w64_succ (b := 1048576) (by omega) (by omega)), ⟨by dsimp only; omega, by dsimp only; simp [hgv], ⟨m', s3⟩, hc7, ?_⟩, by show 30 - (i + 1) < 30 - i; omega⟩
        exact H.three' (Ck.box g11 [a3, .int .i64 (ck x (n : Int)).1.f_Chain.f_N, l3] 50) (Ck.own lists f5 [.slice A5 (keysTo c0 20).length d5] (keysTo c0 20)) (Ck.own (Kd.slice 4 Kd.bool) [g12] [.slice (some ⟨g12, 0, none⟩) 20 20] (gv.set n true))
      | false =>
        have s1 := hst.2 hf
        rw [s1] at H ha3
        cases hb0 : gv.getD n false with
        | true =>
          rw [hb0] at hg0
          refine vs ?_
          refine x_elV pl_bool sl51 (x := true) n hrowB hg0 rfl (by omega) fun ad hb hca _ => vs ?_
          refine x_load sc4 hca (vs ?_)
          refine x_elV pl_bool sl51 (x := true) n hrowB hg0 rfl (by omega) fun ad hb hca _ => vs ?_
          refine x_load sc4 hca (vs ?_)
          refine x_index sl51 rfl (by omega) (by omega) (vs ?_)
          refine x_set H pl_bool sc4 (x := true) (by omega) trivial fun w6 H => vs ?_
          rw [set_same hg0] at H
          refine x_lda H st50 ?_
          refine vs ?_
          refine x_sta (vs := [a3, .int .i64 x.f_Chain.f_N, l3]) H st50 (h1 := ha3) fun w7 H => vs ?_
          have hc7 := H.own (d := kCatch) (fp := f6) (cs := [a3, .int .i64 x.f_Chain.f_N, l3]) (x := x) (by simp)
          refine ⟨(i + 1, x, a3, l3, gv), i64_eq (by show w64 ((i : Int) + 1) = ((i + 1 : Nat) : Int); exact w64_succ (b := 1048576) (by omega) (by omega)), ⟨by dsimp only; omega, by dsimp only; simp [hgv], ⟨m, hany⟩, hc7, ?_⟩, by show 30 - (i + 1) < 30 - i; omega⟩
          exact H.three' (Ck.box g11 [a3, .int .i64 x.f_Chain.f_N, l3] 50) (Ck.own lists f5 [.slice A5 (keysTo c0 20).length d5] (keysTo c0 20)) (Ck.own (Kd.slice 4 Kd.bool) [g12] [.slice (some ⟨g12, 0, none⟩) 20 20] (gv))
        | false =>
          rw [hb0] at hg0
          refine vs ?_
          refine x_elV pl_bool sl51 (x := false) n hrowB hg0 rfl (by omega) fun ad hb hca _ => vs ?_
          refine x_load sc4 hca (vs ?_)
          refine x_elV pl_bool sl51 (x := false) n hrowB hg0 rfl (by omega) fun ad hb hca _ => vs ?_
          refine x_load sc4 hca (vs ?_)
          refine x_index sl51 rfl (by omega) (by omega) (vs ?_)
          refine x_set H pl_bool sc4 (x := false) (by omega) trivial fun w6 H => vs ?_
          rw [set_same hg0] at H
          refine x_lda H st50 ?_
          refine vs ?_
          refine x_sta (vs := [a3, .int .i64 x.f_Chain.f_N, l3]) H st50 (h1 := ha3) fun w7 H => vs ?_
          have hc7 := H.own (d := kCatch) (fp := f6) (cs := [a3, .int .i64 x.f_Chain.f_N, l3]) (x := x) (by simp)
          refine ⟨(i + 1, x, a3, l3, gv), i64_eq (by show w64 ((i : Int) + 1) = ((i + 1 : Nat) : Int); exact w64_succ (b := 1048576) (by omega) (by omega)), ⟨by dsimp only; omega, by dsimp only; simp [hgv], ⟨m, hany⟩, hc7, ?_⟩, by show 30 - (i + 1) < 30 - i; omega⟩
          exact H.three' (Ck.box g11 [a3, .int .i64 x.f_Chain.f_N, l3] 50) (Ck.own lists f5 [.slice A5 (keysTo c0 20).length d5] (keysTo c0 20)) (Ck.own (Kd.slice 4 Kd.bool) [g12] [.slice (some ⟨g12, 0, none⟩) 20 20] (gv))
    · refine vh fun hlt => ?_
      refine x_lda H st50 ?_
      refine vs ?_
      refine x_callb H (implCatchOk_ok w2 _ x hc) fun w3 H => ?_
      refine ve hany.ok ?_
      exact H.bel
end Go.Proofs.Ytagljofpmjaciaa.V
