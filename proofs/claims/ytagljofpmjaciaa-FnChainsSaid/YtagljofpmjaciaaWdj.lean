/- Draws of chains, and of what was caught of them. Draws of what was caught, right or bent. Draws of chains as they are read; chains and catches held against each other. A drawn catch and a number; catches held against each other. -/
import Derived.Test.YtagljofpmjaciaaWdf
import Derived.Test.YtagljofpmjaciaaWdb
import Derived.Test.YtagljofpmjaciaaPc
import Derived.Test.YtagljofpmjaciaaWdc
namespace Go.Proofs.Ytagljofpmjaciaa.V
open Go Go.RowKit
set_option maxRecDepth 100000
set_option maxHeartbeats 4000000
set_option linter.unusedSimpArgs false
set_option linter.unusedVariables false
set_option pp.deepTerms false
set_option pp.deepTerms.threshold 3

section
variable {P : Program} {n : Nat} {w0 w : World} {L : List Ck} {K : Value → World → Prop}
/-- Two owned parts of one. -/
theorem Sep.unpair2 {α β : Type} {d : Kd α} {d' : Kd β} {fp : List Nat} {cs : List Value} {x : α × β} (H : Sep n w0 w (Ck.own (Kd.pair d d') fp cs x :: L)) : ∃ f f' a b, cs = a ++ b ∧ a.length = d.sz ∧ Sep n w0 w (Ck.own d f a x.1 :: Ck.own d' f' b x.2 :: L) := by
  obtain ⟨⟨a, b, f, f', e1, e2, h1, h2⟩, _⟩ := (show (Kd.pair d d').ow w fp cs x from H.ok _ (.head _))
  subst e1 e2
  refine ⟨f, f', a, b, rfl, d.own_len h1, H.swapTo (by simp only [fps, Ck.own_fp, List.append_assoc]; exact List.Perm.refl _) fun c hc => ?_⟩
  rcases List.mem_cons.1 hc with rfl | hc
  · exact h1
  · rcases List.mem_cons.1 hc with rfl | hc
    · exact h2
    · exact H.ok _ (.tail _ hc)
theorem x_staC (H : Sep n w0 w L) {g j : Nat} {cs vs : List Value} {t e : TypeId} {sz : Nat} {z : Array Value} {f : Ck → List Ck} {tg : Tg K} (HS : StT P e sz z) (h : ∀ w', Sep n w0 w' (f (Ck.box g (cs.take j ++ vs ++ cs.drop (j + vs.length)) t)) → Chg [g] w w' → K undef w')
    (hm : Hole (Ck.box g cs t) L f := by repeat (first | exact Hole.here | apply Hole.there)) (hl : vs.length = sz := by rfl) (hj : j + vs.length ≤ cs.length := by first | decide | simp) (h1 : ∀ v ∈ vs, v.oneCell' = true) :
    VU P K tg (Instr.storeAt e (.pointer (some ⟨g, j, none⟩)) (.agg vs.toArray)) w := by
  have hb : w.heap[g]? = some (.cells cs.toArray t (0, 0)) := H.ok _ hm.mem
  obtain ⟨fs, hu⟩ := HS.un
  obtain ⟨inf, hi, hs, _⟩ := HS.inf
  have hst := run_storeCells_at P g j t vs 0 cs.toArray w hb (by simpa using hj) h1
  have hchg : Chg [g] w (w.setRow g ((cs.take j ++ vs ++ cs.drop (j + vs.length)).toArray)) := ⟨rfl, rfl, rfl, by simp [World.setRow], fun k _ hk => setRow_other w g k _ (fun e => hk (by simp [e]))⟩
  unfold VU
  refine vU_run (u := ()) (w' := w.setRow g ((cs.take j ++ vs ++ cs.drop (j + vs.length)).toArray)) ?_ (h _ (H.put hm ?_ ?_ (by simp [Ck.box]) (fun b hb => ?_)) hchg)
  · simp only [Nat.add_zero] at hst
    simp [Instr.storeAt, Instr.sureAddr, storeVar, Value.cells, run_sizeOf' hi hs, hl, hst]
  · exact ⟨rfl, rfl, rfl, by simp [World.setRow], fun k _ hk => setRow_other w g k _ (fun e => hk (by simp [Ck.box, e]))⟩
  · exact setRow_heap w g _ _ t _ hb
  · simp only [Ck.box, List.mem_singleton] at hb ⊢
    refine ⟨.inl hb, ?_⟩
    have := H.lt hm.mem
    simp [World.setRow]; omega
end
theorem splitChain {n : Nat} {w0 w : World} {L : List Ck} {fp : List Nat} {a0 : Value} {m : Int} {x : MChain} (H : Sep n w0 w (Ck.own kChain fp [a0, .int .i64 m] x :: L)) : ∃ f, Sep n w0 w (Ck.own (bytes 5) f [a0] x.f_Key :: L) ∧ -9223372036854775808 ≤ x.f_N ∧ x.f_N < 9223372036854775808 := by
  have hr : kChain.rd w w.heap.size [a0, .int .i64 m] x := H.own (.head _)
  obtain ⟨_, _, _, hR⟩ := kChain_open hr
  obtain ⟨f, f', a, b, e, hl, H⟩ := Sep.unpair2 (d := Kd.slice 5 Kd.u8) (d' := Kd.i64) (x := (x.f_Key, x.f_N)) H
  obtain ⟨y, rfl⟩ := List.length_eq_one_iff.1 (show a.length = 1 from hl)
  simp only [List.cons_append, List.nil_append, List.cons.injEq] at e
  obtain ⟨rfl, _⟩ := e
  exact ⟨f, H.drops' (L := [_]), hR⟩
theorem splitCatch {n : Nat} {w0 w : World} {L : List Ck} {fp : List Nat} {cs : List Value} {x : MCatch} (H : Sep n w0 w (Ck.own kCatch fp cs x :: L)) : ∃ f0 f1 a0 a1, cs = [a0, .int .i64 x.f_Chain.f_N, a1] ∧ Sep n w0 w (Ck.own kChain f0 [a0, .int .i64 x.f_Chain.f_N] x.f_Chain :: Ck.own kepts f1 [a1] x.f_List :: L) := by
  obtain ⟨f, f', a, b, e, hl, H⟩ := Sep.unpair2 (d := kChain) (d' := kepts) (x := (x.f_Chain, x.f_List)) H
  obtain ⟨a0, rfl, _⟩ := kChain_open (H.own (.head _))
  obtain ⟨a1, rfl⟩ := sl_one (H.own (.tail _ (.head _)))
  exact ⟨f, f', a0, a1, e, H⟩

theorem l16DrawSeed_ok {n : Nat} {w0 w : World} {L : List Ck} {g : Nat} {v : Value} {i h : Int} {a : List UInt8} (H : Sep n w0 w (curB g v i h :: L)) (hv : (bytes 5).rd w0 n [v] a) (hi : 0 ≤ i ∧ i ≤ a.length) :
    ACalls Try.prog 153 #[.pointer (some ⟨g, 0, none⟩)] w fun r w' => ∃ (b : List UInt8) (fp : List Nat) (i' h' : Int), b.length = 32 ∧ (0 ≤ i' ∧ i' ≤ a.length) ∧ Sep n w0 w' (Ck.own (bytes 5) fp [r] b :: curB g v i' h' :: L) := by
  refine body_of follows Try.func153 rfl rfl _ rfl (by kernel_rfl) (vs ?_)
  refine x_call (l1Below_ok 4 H hv hi) fun _ w1 ⟨k, i1, h1, e, hk, hi1, H⟩ => ?_
  subst e
  refine ve (u8_low (k := k) (by omega)) ?_
  refine x_emp H pl_u8 sl22 fun g2 w2 H => vs ?_
  refine loop_at (σ := Nat × Value × List UInt8 × List Nat) (fun y => [(3, .int .u8 ((UInt8.ofNat k).toNat : Int)), (4, y.2.1), (5, .int .i64 (y.1 : Int))])
    (fun y w' => y.1 ≤ 32 ∧ y.2.2.1.length = y.1 ∧ Sep n w0 w' (Ck.own (bytes 5) y.2.2.2 [y.2.1] y.2.2.1 :: curB g v i1 h1 :: L)) (fun y => 32 - y.1) (0, .slice (some ⟨g2, 0, none⟩) 0 0, [], [g2]) (vs trivial) ⟨Nat.zero_le _, rfl, H⟩ ?_
  rintro ⟨j, u, b, fp⟩ s w3 ⟨hj, hb, H⟩
  dsimp only at hj hb H
  refine vs (ways ?_ ?_)
  · refine vh fun hlt => ?_
    refine x_lst H pl_u8 sl22 [UInt8.ofNat k] (by simp) fun g4 w4 H => vs ?_
    refine x_app H pl_u8 sl22 (H.own (.head _)) ?_ ?_ fun f5 v5 w5 H => vs ?_
    · simp only [List.length_cons, List.length_nil]; omega
    · simp only [List.length_cons, List.length_nil]; omega
    exact ⟨(j + 1, v5, b ++ [UInt8.ofNat k], f5), ⟨rfl, i64_eq (by show w64 ((j : Int) + 1) = ((j + 1 : Nat) : Int); exact w64_succ (b := 1048576) (by omega) (by omega))⟩, ⟨by dsimp only; omega, by dsimp only; simp [hb], H.tail⟩, by show 32 - (j + 1) < 32 - j; omega⟩
  · refine vh fun hlt => ?_
    exact ⟨_, _, _, _, by omega, hi1, H⟩

theorem ck_same {x : MCatch} {n : Int} (h : (ck x n).2.2 = false) : (ck x n).1 = x := by
  cases hok : catchOk x with
  | false => rw [ck_bad hok]
  | true =>
    cases ha : ckAt x.f_List n with
    | some i =>
      have hf := ha
      unfold ckAt at hf
      rw [List.findIdx?_eq_some_iff_getElem] at hf
      rw [ck_found hok hf.1 ha] at h
      cases h
    | none =>
      by_cases q : n < x.f_Chain.f_N ∨ 1000 ≤ n ∨ 5 < x.f_List.length + n - x.f_Chain.f_N
      · rw [ck_not hok ha q]
      · rw [ck_go hok ha q, ckGo_eq] at h; cases h
theorem l24DrawRight_ok {n : Nat} {w0 w : World} {L : List Ck} {g : Nat} {v : Value} {i h : Int} {a : List UInt8} (H : Sep n w0 w (curB g v i h :: L)) (hv : (bytes 5).rd w0 n [v] a) (hi : 0 ≤ i ∧ i ≤ a.length) :
    ACalls Try.prog 135 #[.pointer (some ⟨g, 0, none⟩)] w fun r w' => ∃ (x : MCatch) (cs : List Value) (fp : List Nat) (i' h' : Int), r = .agg cs.toArray ∧ catchOk x = true ∧ (0 ≤ i' ∧ i' ≤ a.length) ∧ Sep n w0 w' (Ck.own kCatch fp cs x :: curB g v i' h' :: L) := by
  refine body_of follows Try.func135 rfl rfl _ rfl (by kernel_rfl) (vs ?_)
  refine x_al H st50 fun g2 w1 H => vs ?_
  have H := H.front (c := curB g v i h)
  refine x_call (l16DrawSeed_ok H hv hi) fun r1 w2 ⟨seed, f2, i1, h1, hseed, hi1, H⟩ => vs ?_
  refine x_call (specChainNew_ok w2 r1 seed (H.own (.head _))) fun _ w3 ⟨cs, f3, e, S⟩ => ?_
  subst e
  have H := H.join S
  simp only [List.cons_append, List.nil_append] at H
  have H := H.drops' (L := [_])
  obtain ⟨oc, oN⟩ := chainNew_ok hseed
  obtain ⟨c0, hc0⟩ : ∃ c, c = chainNew seed := ⟨_, rfl⟩
  rw [← hc0] at H oc oN
  obtain ⟨a0, rfl, ha0, _⟩ := kChain_open (H.own (.head _))
  obtain ⟨A0, d0, rfl, _⟩ := sl_open ha0
  refine vs ?_
  refine x_al H st43 fun g3 w4 H => vs ?_
  refine x_sta (vs := [.slice A0 c0.f_Key.length d0, .int .i64 c0.f_N]) H st43 (h1 := by simp [Value.oneCell']) fun w5 H => vs ?_
  refine x_lda H st43 ?_
  refine vs ?_
  refine x_build bl50 [.slice A0 c0.f_Key.length d0, .int .i64 c0.f_N, .slice none 0 0] ?_
  refine vs ?_
  refine x_al H st50 fun g5 w6 H => vs ?_
  refine x_sta (vs := [.slice A0 c0.f_Key.length d0, .int .i64 c0.f_N, .slice none 0 0]) H st50 (h1 := by simp [Value.oneCell']) fun w7 H => vs ?_
  have H := H.drops' (L := [_]) (c := Ck.box g3 _ _)
  have H := H.nothing (d := kepts) (sl_zero w7)
  have H := H.front (c := Ck.own kChain f3 [.slice A0 c0.f_Key.length d0, .int .i64 c0.f_N] c0)
  obtain ⟨fc, H⟩ := ownCatch (⟨c0, []⟩ : MCatch) H
  have H := H.front (c := curB g v i1 h1)
  have H := H.front (c := Ck.box g2 [.slice none 0 0, .int .i64 0, .slice none 0 0] 50)
  have H := H.front (c := Ck.box g5 [.slice A0 c0.f_Key.length d0, .int .i64 c0.f_N, .slice none 0 0] 50)
  have H := H.front (c := Ck.own kCatch fc [.slice A0 c0.f_Key.length d0, .int .i64 c0.f_N, .slice none 0 0] ⟨c0, []⟩)
  have hok0 : catchOk (⟨c0, []⟩ : MCatch) = true := catchOk_true ⟨oc, by simp, fun i h => absurd h (by simp)⟩
  refine loop_at (σ := Nat × Nat × MCatch × Value × Value × List Nat × Int × Int) (fun y => [(0, .pointer (some ⟨g, 0, none⟩)), (2, .pointer (some ⟨g2, 0, none⟩)), (5, .pointer (some ⟨g5, 0, none⟩)), (6, .int .i64 (y.2.1 : Int)), (7, .int .i64 (y.1 : Int))])
    (fun y w' => (y.1 ≤ 8 ∧ y.2.1 ≤ 4 * y.1 ∧ catchOk y.2.2.1 = true) ∧ (0 ≤ y.2.2.2.2.2.2.1 ∧ y.2.2.2.2.2.2.1 ≤ a.length) ∧ Sep n w0 w' (Ck.own kCatch y.2.2.2.2.2.1 [y.2.2.2.1, .int .i64 y.2.2.1.f_Chain.f_N, y.2.2.2.2.1] y.2.2.1 :: Ck.box g5 [y.2.2.2.1, .int .i64 y.2.2.1.f_Chain.f_N, y.2.2.2.2.1] 50 :: Ck.box g2 [.slice none 0 0, .int .i64 0, .slice none 0 0] 50 :: curB g v y.2.2.2.2.2.2.1 y.2.2.2.2.2.2.2 :: L)) (fun y => 8 - y.1) (0, 0, ⟨c0, []⟩, .slice A0 c0.f_Key.length d0, .slice none 0 0, fc, i1, h1) (vs trivial) ⟨⟨by simp, by simp, hok0⟩, hi1, H⟩ ?_
  rintro ⟨j, m, x, a1, l1, f, i2, h2⟩ s w8 ⟨⟨hj, hm, hok⟩, hi2, H⟩
  dsimp only at hj hm hok hi2 H
  have hcs := Kd.one _ (H.own (.head _))
  refine vs ?_
  have H := H.front (c := curB g v i2 h2)
  refine x_call (l1Below_ok 8 H hv hi2) fun _ w9 ⟨q, i3, h3, e, hq, hi3, H⟩ => ?_
  subst e
  by_cases qj : (j : Int) < (q : Int)
  · refine ve qj ?_
    refine ve (show w64 ((m : Int) + 4) = (m : Int) + 4 from w64_id (by omega) (by omega)) ?_
    refine x_call (l1Below_ok ((m : Int) + 4) H hv hi3) fun _ w10 ⟨p, i4, h4, e, hp, hi4, H⟩ => ?_
    subst e
    refine vs ?_
    refine x_lda H st50 ?_
    refine vs ?_
    refine x_call (specCatchKey_ok w10 _ x (p : Int) (H.own (.tail _ (.head _))) (smCatch_ok hok)) fun _ w11 ⟨cs3, f6, v6, f7, e, S⟩ => ?_
    subst e
    have H := H.join S
    simp only [List.cons_append, List.nil_append] at H
    obtain ⟨a3, l3, rfl, _, _⟩ := kCatch_open (H.own (.head _))
    have ha3 := Kd.one _ (H.own (.head _))
    refine vs ?_
    refine x_sta (vs := [a3, .int .i64 (ck x (p : Int)).1.f_Chain.f_N, l3]) H st50 (h1 := ha3) fun w12 H => vs ?_
    have hok3 : catchOk (ck x (p : Int)).1 = true := by
      cases hf : (ck x (p : Int)).2.2 with
      | true => exact (ck_right hf).1
      | false => rw [ck_same hf]; exact hok
    refine ⟨(j + 1, p, (ck x (p : Int)).1, a3, l3, f6, i4, h4), ⟨rfl, i64_eq (by show w64 ((j : Int) + 1) = ((j + 1 : Nat) : Int); exact w64_succ (b := 1048576) (by omega) (by omega))⟩, ⟨⟨by dsimp only; omega, by dsimp only; omega, hok3⟩, hi4, ?_⟩, by show 8 - (j + 1) < 8 - j; omega⟩
    have H := H.drops' (L := [_]) (c := Ck.own (bytes 5) f7 _ _)
    have H := H.drops' (L := [_, _]) (c := Ck.own kCatch f _ _)
    have H := H.front (c := Ck.box g2 [.slice none 0 0, .int .i64 0, .slice none 0 0] 50)
    have H := H.front (c := Ck.box g5 [a3, .int .i64 (ck x (p : Int)).1.f_Chain.f_N, l3] 50)
    exact H.front (c := Ck.own kCatch f6 [a3, .int .i64 (ck x (p : Int)).1.f_Chain.f_N, l3] (ck x (p : Int)).1)
  · refine ve qj ?_
    refine x_lda H st50 ?_
    refine vs ?_
    refine x_sta (vs := [a1, .int .i64 x.f_Chain.f_N, l1]) H st50 (h1 := hcs) fun w12 H => vs ?_
    refine ⟨_, _, rfl, res_cell H st50, x, _, f, i3, h3, rfl, hok, hi3, ?_⟩
    have H := H.drops' (L := [_, _]) (c := Ck.box g5 _ _)
    have H := H.drops' (L := [_, _]) (c := Ck.box g2 _ _)
    exact H.front (c := Ck.own kCatch f [a1, .int .i64 x.f_Chain.f_N, l1] x)

theorem catch_small {x : MCatch} (h : catchOk x = true) : x.f_List.length ≤ 5 ∧ x.f_Chain.f_Key.length = 32 ∧ ∀ y ∈ x.f_List, y.f_Key.length = 32 := by
  obtain ⟨p1, p2, p3⟩ := catchOk_p h
  obtain ⟨o1, o2, o3⟩ := chainOk_iff.1 p1
  refine ⟨p2, o1, fun y hy => ?_⟩
  obtain ⟨i, hi, rfl⟩ := List.getElem_of_mem hy
  exact (p3 i hi).2.1
theorem sm_more {l : List MKept} {y : MKept} (h1 : l.length ≤ 5) (h2 : ∀ y ∈ l, y.f_Key.length = 32) (hy : y.f_Key.length ≤ 33) : smKeptS (l ++ [y]) :=
  ⟨by simp only [List.length_append, List.length_cons, List.length_nil]; omega, fun z hz => (List.mem_append.1 hz).elim (fun h => by have := h2 z h; unfold smKept; omega) fun h => by rw [List.mem_singleton.1 h]; unfold smKept; omega⟩
theorem sm_list {l : List MKept} (h1 : l.length ≤ 5) (h2 : ∀ y ∈ l, y.f_Key.length = 32) : smKeptS l := ⟨by omega, fun z h => by have := h2 z h; unfold smKept; omega⟩

theorem Sep.dropm {n : Nat} {w0 w : World} {L M : List Ck} (c : Ck) (H : Sep n w0 w L) (h : Out c L M := by repeat (first | exact Out.here | apply Out.there)) : Sep n w0 w M := (H.out h).tail
theorem l24Draw_ok {n : Nat} {w0 w : World} {L : List Ck} {g : Nat} {v : Value} {i h : Int} {a : List UInt8} (H : Sep n w0 w (curB g v i h :: L)) (hv : (bytes 5).rd w0 n [v] a) (hi : 0 ≤ i ∧ i ≤ a.length) :
    ACalls Try.prog 104 #[.pointer (some ⟨g, 0, none⟩)] w fun r w' => ∃ (x : MCatch) (cs : List Value) (fp : List Nat) (i' h' : Int), r = .agg cs.toArray ∧ smCatch x ∧ (0 ≤ i' ∧ i' ≤ a.length) ∧ Sep n w0 w' (Ck.own kCatch fp cs x :: curB g v i' h' :: L) := by
  refine body_of follows Try.func104 rfl rfl _ rfl (by kernel_rfl) (vs ?_)
  refine x_al H st50 fun g2 w1 H => vs ?_
  have H := H.front (c := curB g v i h)
  refine x_call (l24DrawRight_ok H hv hi) fun _ w2 ⟨x, cs, f, i1, h1, e, hok, hi1, H⟩ => ?_
  subst e
  obtain ⟨f0, f1, a0, a1, ecs, H'⟩ := splitCatch H
  clear H
  subst ecs
  have H := H'
  clear H'
  obtain ⟨_, e0, ha0, hN⟩ := kChain_open (H.own (.head _))
  simp only [List.cons.injEq, and_true] at e0
  obtain ⟨rfl, _⟩ := e0
  obtain ⟨A0, d0, rfl, _⟩ := sl_open ha0
  obtain ⟨A1, d1, rfl, _⟩ := sl_open (H.own (.tail _ (.head _)))
  obtain ⟨s1, s2, s3⟩ := catch_small hok
  refine vs ?_
  refine x_al H st50 fun g3 w3 H => vs ?_
  refine x_sta (vs := [.slice A0 x.f_Chain.f_Key.length d0, .int .i64 x.f_Chain.f_N, .slice A1 x.f_List.length d1]) H st50 (h1 := by simp [Value.oneCell']) fun w4 H => vs ?_
  have H := H.front (c := curB g v i1 h1)
  refine x_call (l1Below_ok 10 H hv hi1) fun _ w5 ⟨k, i2, h2, e, hk, hi2, H⟩ => ?_
  subst e
  by_cases q0 : (k : Int) = 0
  · refine ve q0 ?_
    refine x_lst H pl_i64 sl89 [-1, 0, 999, 1000, 1001, 9223372036854775807] (by simp) fun g6 w6 H => vs ?_
    refine x_call (l1PickInt_ok _ H hv hi2 (by simp)) fun _ w7 ⟨N, i3, h3, e, _, hN', hi3, H⟩ => ?_
    subst e
    refine vs ?_
    refine x_st H sc3 fun w8 H => vs ?_
    refine x_lda H st50 ?_
    refine vs ?_
    refine x_sta (vs := [.slice A0 x.f_Chain.f_Key.length d0, .int .i64 N, .slice A1 x.f_List.length d1]) H st50 (h1 := by simp [Value.oneCell']) fun w20 H => vs ?_
    refine ⟨_, _, rfl, res_cell H st50, ⟨⟨x.f_Chain.f_Key, N⟩, x.f_List⟩, [.slice A0 x.f_Chain.f_Key.length d0, .int .i64 N, .slice A1 x.f_List.length d1], ?_⟩
    have H := H.dropm (Ck.box g3 [.slice A0 x.f_Chain.f_Key.length d0, .int .i64 N, .slice A1 x.f_List.length d1] 50)
    have H := H.dropm (Ck.box g2 [.slice A0 x.f_Chain.f_Key.length d0, .int .i64 N, .slice A1 x.f_List.length d1] 50)
    have H := H.front (c := Ck.own kepts f1 [.slice A1 x.f_List.length d1] x.f_List)
    have H := H.front (c := Ck.own kChain f0 [.slice A0 x.f_Chain.f_Key.length d0, .int .i64 x.f_Chain.f_N] x.f_Chain)
    obtain ⟨fk, H, _⟩ := splitChain H
    obtain ⟨fc, H⟩ := ownChain (⟨x.f_Chain.f_Key, N⟩ : MChain) H hN'
    obtain ⟨fp, H⟩ := ownCatch (⟨⟨x.f_Chain.f_Key, N⟩, x.f_List⟩ : MCatch) H
    exact ⟨fp, _, _, rfl, ⟨by show x.f_Chain.f_Key.length ≤ _; omega, sm_list s1 s3⟩, hi3, H⟩
  refine ve q0 ?_
  by_cases q1 : (k : Int) = 1
  · refine ve q1 ?_
    refine x_call (l1DrawNear_ok 32 H hv hi2 (by omega)) fun r6 w6 ⟨b, fb, i3, h3, hb, hi3, H⟩ => ?_
    obtain ⟨B, db, rfl, _⟩ := sl_open (H.own (.head _))
    refine vs ?_
    refine x_st H sc22 fun w8 H => vs ?_
    refine x_lda H st50 ?_
    refine vs ?_
    refine x_sta (vs := [.slice B b.length db, .int .i64 x.f_Chain.f_N, .slice A1 x.f_List.length d1]) H st50 (h1 := by simp [Value.oneCell']) fun w20 H => vs ?_
    refine ⟨_, _, rfl, res_cell H st50, ⟨⟨b, x.f_Chain.f_N⟩, x.f_List⟩, [.slice B b.length db, .int .i64 x.f_Chain.f_N, .slice A1 x.f_List.length d1], ?_⟩
    have H := H.dropm (Ck.box g3 [.slice B b.length db, .int .i64 x.f_Chain.f_N, .slice A1 x.f_List.length d1] 50)
    have H := H.dropm (Ck.box g2 [.slice B b.length db, .int .i64 x.f_Chain.f_N, .slice A1 x.f_List.length d1] 50)
    have H := H.dropm (Ck.own kChain f0 [.slice A0 x.f_Chain.f_Key.length d0, .int .i64 x.f_Chain.f_N] x.f_Chain)
    have H := H.front (c := Ck.own kepts f1 [.slice A1 x.f_List.length d1] x.f_List)
    have H := H.front (c := Ck.own (bytes 5) fb [.slice B b.length db] b)
    obtain ⟨fc, H⟩ := ownChain (⟨b, x.f_Chain.f_N⟩ : MChain) H hN
    obtain ⟨fp, H⟩ := ownCatch (⟨⟨b, x.f_Chain.f_N⟩, x.f_List⟩ : MCatch) H
    exact ⟨fp, _, _, rfl, ⟨by show b.length ≤ _; omega, sm_list s1 s3⟩, hi3, H⟩
  refine ve q1 ?_
  by_cases q2 : (k : Int) = 2
  · refine ve q2 ?_
    refine fork_draw n [] fun w6 hh hb6 => ?_
    have H := H.go (hb6 _)
    have H3 := H
    refine rest_pre [(0, true), (2, true), (5, true)] 9 ?_
    refine vs ?_
    refine rest_fork 1 3 8 ?_ ?_
    · refine vs ?_
      refine x_ld H sc48 ?_
      refine vs ?_
      refine ⟨kept_base H3 H, ?_⟩
      refine rest_end [(3, false), (4, true), (6, false), (7, true), (8, false), (9, false), (10, true), (11, false)] ?_
      refine vs ?_
      have H := H.front (c := curB g v i2 h2)
      refine x_call (l1Below_ok 5 H hv hi2) fun _ w7 ⟨p, i3, h3, e, hp, hi3, H⟩ => ?_
      subst e
      have ew : w64 ((p : Int) - 1) = (p : Int) - 1 := w64_id (by omega) (by omega)
      refine ve ew ?_
      refine ⟨kept_base H3 H, ?_⟩
      have H := H.front (c := curB g v i3 h3)
      refine x_call (l1DrawNear_ok 32 H hv hi3 (by omega)) fun r8 w8 ⟨b, fb, i4, h4, hb, hi4, H⟩ => ?_
      obtain ⟨B, db, rfl, _⟩ := sl_open (H.own (.head _))
      refine vs ?_
      refine ⟨kept_base H3 H, ?_⟩
      refine q_bld bl105 [_, _] ?_
      refine vs ?_
      have H := H.front (c := Ck.own (bytes 5) fb [.slice B b.length db] b)
      obtain ⟨f9, H⟩ := ownKept (⟨(p : Int) - 1, b⟩ : MKept) H (by constructor <;> dsimp only <;> omega)
      refine x_lst1 sl48 H rfl rfl fun f10 v10 w10 H => vs ?_
      refine ⟨kept_base H3 H, ?_⟩
      have H := H.front (c := Ck.own kepts f1 [.slice A1 x.f_List.length d1] x.f_List)
      have H := H.front (c := Ck.own kepts f10 [v10] [⟨(p : Int) - 1, b⟩])
      refine x_appO sl48 H rfl ?_ ?_ fun f11 v11 w11 H => vs ?_
      · simp only [List.length_cons, List.length_nil]; omega
      · simp only [List.length_cons, List.length_nil]; omega
      refine ⟨kept_base H3 H, ?_⟩
      have h11 := Kd.one _ (H.own (.head _)) v11 (by simp)
      refine x_st H sc48 (h1 := h11) fun w12 H => vs ?_
      refine ⟨kept_base H3 H, ?_⟩
      refine x_lda H st50 ?_
      refine vs ?_
      refine x_sta (vs := [.slice A0 x.f_Chain.f_Key.length d0, .int .i64 x.f_Chain.f_N, v11]) H st50 (h1 := by intro v hv; simp only [List.mem_cons, List.not_mem_nil, or_false] at hv; rcases hv with rfl | rfl | rfl; rfl; rfl; exact h11) fun w20 H => vs ?_
      refine ⟨_, _, rfl, res_cell H st50, ⟨x.f_Chain, x.f_List ++ [⟨(p : Int) - 1, b⟩]⟩, [.slice A0 x.f_Chain.f_Key.length d0, .int .i64 x.f_Chain.f_N, v11], ?_⟩
      have H := H.dropm (Ck.box g3 [.slice A0 x.f_Chain.f_Key.length d0, .int .i64 x.f_Chain.f_N, v11] 50)
      have H := H.dropm (Ck.box g2 [.slice A0 x.f_Chain.f_Key.length d0, .int .i64 x.f_Chain.f_N, v11] 50)
      have H := H.front (c := Ck.own kepts f11 [v11] (x.f_List ++ [⟨(p : Int) - 1, b⟩]))
      have H := H.front (c := Ck.own kChain f0 [.slice A0 x.f_Chain.f_Key.length d0, .int .i64 x.f_Chain.f_N] x.f_Chain)
      obtain ⟨fp, H⟩ := ownCatch (⟨x.f_Chain, x.f_List ++ [⟨(p : Int) - 1, b⟩]⟩ : MCatch) H
      exact ⟨fp, _, _, rfl, ⟨by show x.f_Chain.f_Key.length ≤ _; omega, sm_more s1 s3 (by omega)⟩, hi4, H⟩
    · refine vs ?_
      have H := H.front (c := curB g v i2 h2)
      refine x_call (l1Below_ok 5 H hv hi2) fun _ w7 ⟨p, i3, h3, e, hp, hi3, H⟩ => ?_
      subst e
      have ew : w64 ((p : Int) - 1) = (p : Int) - 1 := w64_id (by omega) (by omega)
      refine vs ?_
      refine ⟨kept_base H3 H, ?_⟩
      refine rest_pre [(4, true)] 7 ?_
      refine ve ew ?_
      refine rest_fork 1 6 6 ?_ ?_
      · refine vs ?_
        refine x_ld H sc48 ?_
        refine vs ?_
        refine ⟨kept_base H3 H, ?_⟩
        refine rest_end [(6, false), (7, true), (8, false), (9, false), (10, true), (11, false)] ?_
        refine vs ?_
        have H := H.front (c := curB g v i3 h3)
        refine x_call (l1DrawNear_ok 32 H hv hi3 (by omega)) fun r8 w8 ⟨b, fb, i4, h4, hb, hi4, H⟩ => ?_
        obtain ⟨B, db, rfl, _⟩ := sl_open (H.own (.head _))
        refine vs ?_
        refine ⟨kept_base H3 H, ?_⟩
        refine q_bld bl105 [_, _] ?_
        refine vs ?_
        have H := H.front (c := Ck.own (bytes 5) fb [.slice B b.length db] b)
        obtain ⟨f9, H⟩ := ownKept (⟨(p : Int) - 1, b⟩ : MKept) H (by constructor <;> dsimp only <;> omega)
        refine x_lst1 sl48 H rfl rfl fun f10 v10 w10 H => vs ?_
        refine ⟨kept_base H3 H, ?_⟩
        have H := H.front (c := Ck.own kepts f1 [.slice A1 x.f_List.length d1] x.f_List)
        have H := H.front (c := Ck.own kepts f10 [v10] [⟨(p : Int) - 1, b⟩])
        refine x_appO sl48 H rfl ?_ ?_ fun f11 v11 w11 H => vs ?_
        · simp only [List.length_cons, List.length_nil]; omega
        · simp only [List.length_cons, List.length_nil]; omega
        refine ⟨kept_base H3 H, ?_⟩
        have h11 := Kd.one _ (H.own (.head _)) v11 (by simp)
        refine x_st H sc48 (h1 := h11) fun w12 H => vs ?_
        refine ⟨kept_base H3 H, ?_⟩
        refine x_lda H st50 ?_
        refine vs ?_
        refine x_sta (vs := [.slice A0 x.f_Chain.f_Key.length d0, .int .i64 x.f_Chain.f_N, v11]) H st50 (h1 := by intro v hv; simp only [List.mem_cons, List.not_mem_nil, or_false] at hv; rcases hv with rfl | rfl | rfl; rfl; rfl; exact h11) fun w20 H => vs ?_
        refine ⟨_, _, rfl, res_cell H st50, ⟨x.f_Chain, x.f_List ++ [⟨(p : Int) - 1, b⟩]⟩, [.slice A0 x.f_Chain.f_Key.length d0, .int .i64 x.f_Chain.f_N, v11], ?_⟩
        have H := H.dropm (Ck.box g3 [.slice A0 x.f_Chain.f_Key.length d0, .int .i64 x.f_Chain.f_N, v11] 50)
        have H := H.dropm (Ck.box g2 [.slice A0 x.f_Chain.f_Key.length d0, .int .i64 x.f_Chain.f_N, v11] 50)
        have H := H.front (c := Ck.own kepts f11 [v11] (x.f_List ++ [⟨(p : Int) - 1, b⟩]))
        have H := H.front (c := Ck.own kChain f0 [.slice A0 x.f_Chain.f_Key.length d0, .int .i64 x.f_Chain.f_N] x.f_Chain)
        obtain ⟨fp, H⟩ := ownCatch (⟨x.f_Chain, x.f_List ++ [⟨(p : Int) - 1, b⟩]⟩ : MCatch) H
        exact ⟨fp, _, _, rfl, ⟨by show x.f_Chain.f_Key.length ≤ _; omega, sm_more s1 s3 (by omega)⟩, hi4, H⟩
      · refine vs ?_
        have H := H.front (c := curB g v i3 h3)
        refine x_call (l1DrawNear_ok 32 H hv hi3 (by omega)) fun r8 w8 ⟨b, fb, i4, h4, hb, hi4, H⟩ => ?_
        obtain ⟨B, db, rfl, _⟩ := sl_open (H.own (.head _))
        refine vs ?_
        refine ⟨kept_base H3 H, ?_⟩
        refine rest_pre [(7, true)] 5 ?_
        refine vs ?_
        refine q_bld bl105 [_, _] ?_
        refine vs ?_
        refine rest_fork 1 8 4 ?_ ?_
        · refine vs ?_
          refine x_ld H sc48 ?_
          refine vs ?_
          refine ⟨kept_base H3 H, ?_⟩
          refine rest_end [(8, false), (9, false), (10, true), (11, false)] ?_
          refine vs ?_
          have H := H.front (c := Ck.own (bytes 5) fb [.slice B b.length db] b)
          obtain ⟨f9, H⟩ := ownKept (⟨(p : Int) - 1, b⟩ : MKept) H (by constructor <;> dsimp only <;> omega)
          refine x_lst1 sl48 H rfl rfl fun f10 v10 w10 H => vs ?_
          refine ⟨kept_base H3 H, ?_⟩
          have H := H.front (c := Ck.own kepts f1 [.slice A1 x.f_List.length d1] x.f_List)
          have H := H.front (c := Ck.own kepts f10 [v10] [⟨(p : Int) - 1, b⟩])
          refine x_appO sl48 H rfl ?_ ?_ fun f11 v11 w11 H => vs ?_
          · simp only [List.length_cons, List.length_nil]; omega
          · simp only [List.length_cons, List.length_nil]; omega
          refine ⟨kept_base H3 H, ?_⟩
          have h11 := Kd.one _ (H.own (.head _)) v11 (by simp)
          refine x_st H sc48 (h1 := h11) fun w12 H => vs ?_
          refine ⟨kept_base H3 H, ?_⟩
          refine x_lda H st50 ?_
          refine vs ?_
          refine x_sta (vs := [.slice A0 x.f_Chain.f_Key.length d0, .int .i64 x.f_Chain.f_N, v11]) H st50 (h1 := by intro v hv; simp only [List.mem_cons, List.not_mem_nil, or_false] at hv; rcases hv with rfl | rfl | rfl; rfl; rfl; exact h11) fun w20 H => vs ?_
          refine ⟨_, _, rfl, res_cell H st50, ⟨x.f_Chain, x.f_List ++ [⟨(p : Int) - 1, b⟩]⟩, [.slice A0 x.f_Chain.f_Key.length d0, .int .i64 x.f_Chain.f_N, v11], ?_⟩
          have H := H.dropm (Ck.box g3 [.slice A0 x.f_Chain.f_Key.length d0, .int .i64 x.f_Chain.f_N, v11] 50)
          have H := H.dropm (Ck.box g2 [.slice A0 x.f_Chain.f_Key.length d0, .int .i64 x.f_Chain.f_N, v11] 50)
          have H := H.front (c := Ck.own kepts f11 [v11] (x.f_List ++ [⟨(p : Int) - 1, b⟩]))
          have H := H.front (c := Ck.own kChain f0 [.slice A0 x.f_Chain.f_Key.length d0, .int .i64 x.f_Chain.f_N] x.f_Chain)
          obtain ⟨fp, H⟩ := ownCatch (⟨x.f_Chain, x.f_List ++ [⟨(p : Int) - 1, b⟩]⟩ : MCatch) H
          exact ⟨fp, _, _, rfl, ⟨by show x.f_Chain.f_Key.length ≤ _; omega, sm_more s1 s3 (by omega)⟩, hi4, H⟩
        · refine vs ?_
          have H := H.front (c := Ck.own (bytes 5) fb [.slice B b.length db] b)
          obtain ⟨f9, H⟩ := ownKept (⟨(p : Int) - 1, b⟩ : MKept) H (by constructor <;> dsimp only <;> omega)
          refine x_lst1 sl48 H rfl rfl fun f10 v10 w10 H => vs ?_
          refine ⟨kept_base H3 H, ?_⟩
          refine rest_end [(1, false), (9, false), (10, true), (11, false)] ?_
          refine vs ?_
          refine x_ld H sc48 ?_
          refine vs ?_
          refine ⟨kept_base H3 H, ?_⟩
          have H := H.front (c := Ck.own kepts f1 [.slice A1 x.f_List.length d1] x.f_List)
          have H := H.front (c := Ck.own kepts f10 [v10] [⟨(p : Int) - 1, b⟩])
          refine x_appO sl48 H rfl ?_ ?_ fun f11 v11 w11 H => vs ?_
          · simp only [List.length_cons, List.length_nil]; omega
          · simp only [List.length_cons, List.length_nil]; omega
          refine ⟨kept_base H3 H, ?_⟩
          have h11 := Kd.one _ (H.own (.head _)) v11 (by simp)
          refine x_st H sc48 (h1 := h11) fun w12 H => vs ?_
          refine ⟨kept_base H3 H, ?_⟩
          refine x_lda H st50 ?_
          refine vs ?_
          refine x_sta (vs := [.slice A0 x.f_Chain.f_Key.length d0, .int .i64 x.f_Chain.f_N, v11]) H st50 (h1 := by intro v hv; simp only [List.mem_cons, List.not_mem_nil, or_false] at hv; rcases hv with rfl | rfl | rfl; rfl; rfl; exact h11) fun w20 H => vs ?_
          refine ⟨_, _, rfl, res_cell H st50, ⟨x.f_Chain, x.f_List ++ [⟨(p : Int) - 1, b⟩]⟩, [.slice A0 x.f_Chain.f_Key.length d0, .int .i64 x.f_Chain.f_N, v11], ?_⟩
          have H := H.dropm (Ck.box g3 [.slice A0 x.f_Chain.f_Key.length d0, .int .i64 x.f_Chain.f_N, v11] 50)
          have H := H.dropm (Ck.box g2 [.slice A0 x.f_Chain.f_Key.length d0, .int .i64 x.f_Chain.f_N, v11] 50)
          have H := H.front (c := Ck.own kepts f11 [v11] (x.f_List ++ [⟨(p : Int) - 1, b⟩]))
          have H := H.front (c := Ck.own kChain f0 [.slice A0 x.f_Chain.f_Key.length d0, .int .i64 x.f_Chain.f_N] x.f_Chain)
          obtain ⟨fp, H⟩ := ownCatch (⟨x.f_Chain, x.f_List ++ [⟨(p : Int) - 1, b⟩]⟩ : MCatch) H
          exact ⟨fp, _, _, rfl, ⟨by show x.f_Chain.f_Key.length ≤ _; omega, sm_more s1 s3 (by omega)⟩, hi4, H⟩
  refine ve q2 ?_
  refine x_lda H st50 ?_
  refine vs ?_
  refine x_sta (vs := [.slice A0 x.f_Chain.f_Key.length d0, .int .i64 x.f_Chain.f_N, .slice A1 x.f_List.length d1]) H st50 (h1 := by simp [Value.oneCell']) fun w20 H => vs ?_
  refine ⟨_, _, rfl, res_cell H st50, x, [.slice A0 x.f_Chain.f_Key.length d0, .int .i64 x.f_Chain.f_N, .slice A1 x.f_List.length d1], ?_⟩
  have H := H.dropm (Ck.box g3 [.slice A0 x.f_Chain.f_Key.length d0, .int .i64 x.f_Chain.f_N, .slice A1 x.f_List.length d1] 50)
  have H := H.dropm (Ck.box g2 [.slice A0 x.f_Chain.f_Key.length d0, .int .i64 x.f_Chain.f_N, .slice A1 x.f_List.length d1] 50)
  have H := H.front (c := Ck.own kepts f1 [.slice A1 x.f_List.length d1] x.f_List)
  have H := H.front (c := Ck.own kChain f0 [.slice A0 x.f_Chain.f_Key.length d0, .int .i64 x.f_Chain.f_N] x.f_Chain)
  obtain ⟨fp, H⟩ := ownCatch (x : MCatch) H
  exact ⟨fp, _, _, rfl, ⟨by show x.f_Chain.f_Key.length ≤ _; omega, sm_list s1 s3⟩, hi2, H⟩

theorem x_fieldA {P : Program} {w : World} {K : Value → World → Prop} {tg : Tg K} {t e : TypeId} {fs : Array Field} (Ht : P.underlying t = some (.struct fs)) {f : Nat} {fd : Field} (hf : fs[f]? = some fd) (he : fd.type = e) {sz off : Nat} {z : Array Value} (HS : StT P e sz z) (ho : fd.offset = off) {cs : List Value}
    (h : K (.agg ((cs.drop off).take sz).toArray) w) : VS P K tg (Instr.field t (.agg cs.toArray) f) w := by
  subst he ho
  obtain ⟨gs, hu⟩ := HS.un
  obtain ⟨inf, hi, hs, _⟩ := HS.inf
  refine vS_run (v := .agg ((cs.drop fd.offset).take sz).toArray) ?_ h
  have ha : (isAgg fd.type).run P w = .ok true w := by simp [isAgg, run_underlying' hu]
  have he : cs.toArray.extract fd.offset (fd.offset + sz) = ((cs.drop fd.offset).take sz).toArray := by
    rw [List.extract_toArray]
    unfold List.extract
    rw [Nat.add_sub_cancel_left]
  simp [Instr.field, run_underlying' Ht, hf, asAgg, part, ha, run_sizeOf' hi hs, he]

theorem drawCatchOk_ok (w : World) (v : Value) (a : List UInt8) (hv : (bytes 5).rd w w.heap.size [v] a) :
    ACalls Try.prog 55 #[v] w fun r w' => ∃ (x : MCatch) (cs : List Value), r = .agg cs.toArray ∧ smCatch x ∧ Below w.heap.size w w' ∧ kCatch.rd w' w'.heap.size cs x := by
  have H := Sep.start w
  refine body_of follows Try.func55 rfl rfl _ rfl (by kernel_rfl) (vs ?_)
  refine x_al H st50 fun g2 w1 H => vs ?_
  refine x_call (l1New_ok w1 v a (H.rd hv)) fun _ w2 ⟨g, i, h, e, hi, S⟩ => ?_
  subst e
  have H := H.join S
  simp only [List.cons_append, List.nil_append] at H
  refine vs ?_
  refine x_call (l24Draw_ok H hv hi) fun _ w3 ⟨x, cs, fp, i1, h1, e, hs, hi1, H⟩ => ?_
  subst e
  refine vs ?_
  have hlen : cs.length = 3 := Kd.len _ (H.own (.head _))
  obtain ⟨a0, a1, rfl, _, _⟩ := kCatch_open (H.own (.head _))
  refine x_sta H st50 (h1 := Kd.one _ (H.own (.head _))) fun w4 H => vs ?_
  exact ⟨_, _, rfl, res_cell H st50, x, _, rfl, hs, H.bel, H.own (.head _)⟩
theorem catchCells {w : World} {n : Nat} {cs : List Value} {x : MCatch} (h : kCatch.rd w n cs x) : ∃ a0 a1, cs = [a0, .int .i64 x.f_Chain.f_N, a1] ∧ kChain.rd w n [a0, .int .i64 x.f_Chain.f_N] x.f_Chain := by
  obtain ⟨a0, a1, rfl, h0, _⟩ := kCatch_open h
  exact ⟨_, _, rfl, h0⟩
theorem drawChainNext_ok (w : World) (v : Value) (a : List UInt8) (hv : (bytes 5).rd w w.heap.size [v] a) :
    ACalls Try.prog 50 #[v] w fun r w' => ∃ (x : MChain) (cs : List Value), r = .agg cs.toArray ∧ smChain x ∧ Below w.heap.size w w' ∧ kChain.rd w' w'.heap.size cs x := by
  have H := Sep.start w
  refine body_of follows Try.func50 rfl rfl _ rfl (by kernel_rfl) (vs ?_)
  refine x_al H st43 fun g2 w1 H => vs ?_
  refine x_call (l1New_ok w1 v a (H.rd hv)) fun _ w2 ⟨g, i, h, e, hi, S⟩ => ?_
  subst e
  have H := H.join S
  simp only [List.cons_append, List.nil_append] at H
  refine vs ?_
  refine x_call (l24Draw_ok H hv hi) fun _ w3 ⟨x, cs, fp, i1, h1, e, hs, hi1, H⟩ => ?_
  subst e
  obtain ⟨a0, a1, rfl, h0, _⟩ := kCatch_open (H.own (.head _))
  refine vs ?_
  refine x_fieldA Try.underlying50 rfl rfl st43 rfl ?_
  refine vs ?_
  refine x_sta (vs := [a0, .int .i64 x.f_Chain.f_N]) H st43 (h1 := Kd.one _ h0) fun w4 H => vs ?_
  obtain ⟨_, _, e2, hc⟩ := catchCells (H.own (.head _))
  simp only [List.cons.injEq, true_and, and_true] at e2
  obtain ⟨rfl, _⟩ := e2
  exact ⟨_, _, rfl, res_cell H st43, x.f_Chain, _, rfl, hs.1, H.bel, hc⟩
theorem drawChainOk_ok (w : World) (v : Value) (a : List UInt8) (hv : (bytes 5).rd w w.heap.size [v] a) :
    ACalls Try.prog 54 #[v] w fun r w' => ∃ (x : MChain) (cs : List Value), r = .agg cs.toArray ∧ smChain x ∧ Below w.heap.size w w' ∧ kChain.rd w' w'.heap.size cs x := by
  have H := Sep.start w
  refine body_of follows Try.func54 rfl rfl _ rfl (by kernel_rfl) (vs ?_)
  refine x_al H st43 fun g2 w1 H => vs ?_
  refine x_call (l1New_ok w1 v a (H.rd hv)) fun _ w2 ⟨g, i, h, e, hi, S⟩ => ?_
  subst e
  have H := H.join S
  simp only [List.cons_append, List.nil_append] at H
  refine vs ?_
  refine x_call (l24Draw_ok H hv hi) fun _ w3 ⟨x, cs, fp, i1, h1, e, hs, hi1, H⟩ => ?_
  subst e
  obtain ⟨a0, a1, rfl, h0, _⟩ := kCatch_open (H.own (.head _))
  refine vs ?_
  refine x_fieldA Try.underlying50 rfl rfl st43 rfl ?_
  refine vs ?_
  refine x_sta (vs := [a0, .int .i64 x.f_Chain.f_N]) H st43 (h1 := Kd.one _ h0) fun w4 H => vs ?_
  obtain ⟨_, _, e2, hc⟩ := catchCells (H.own (.head _))
  simp only [List.cons.injEq, true_and, and_true] at e2
  obtain ⟨rfl, _⟩ := e2
  exact ⟨_, _, rfl, res_cell H st43, x.f_Chain, _, rfl, hs.1, H.bel, hc⟩
theorem drawChainNew_ok (w : World) (v : Value) (a : List UInt8) (hv : (bytes 5).rd w w.heap.size [v] a) :
    ACalls Try.prog 51 #[v] w fun r w' => ∃ (b : List UInt8) (fp : List Nat), b.length ≤ 33 ∧ Sep w.heap.size w w' [Ck.own (bytes 5) fp [r] b] := by
  refine body_of follows Try.func51 rfl rfl _ rfl (by kernel_rfl) (vs ?_)
  refine x_call (l1New_ok w v a hv) fun _ w1 ⟨g, i, h, e, hi, H⟩ => ?_
  subst e
  refine vs ?_
  refine x_call (l1DrawNear_ok 32 H hv hi (by omega)) fun r w2 ⟨b, fp, i1, h1, hb, hi1, H⟩ => vs ?_
  exact ⟨b, fp, by omega, H.drops' (L := [_])⟩

/-! ### held against each other -/
theorem sameChain_ok (w : World) (cs ds : List Value) (x : MChain) (h : kChain.rd w w.heap.size cs x) (h' : kChain.rd w w.heap.size ds x) :
    ACalls Try.prog 56 #[.agg cs.toArray, .agg ds.toArray] w fun r w' => r = .bool true ∧ Below w.heap.size w w' := by
  obtain ⟨a0, rfl, h0, _⟩ := kChain_open h
  obtain ⟨b0, rfl, h1, _⟩ := kChain_open h'
  have H := Sep.start w
  refine body_of follows Try.func56 rfl rfl _ rfl (by kernel_rfl) (vs ?_)
  refine x_bx H [a0, .int .i64 x.f_N] fun g1 w1 H => vs ?_
  refine x_bx H [b0, .int .i64 x.f_N] fun g2 w2 H => vs ?_
  refine x_ld H sc22 ?_
  refine vs ?_
  refine x_str Try.underlying22 Try.underlying5 Try.underlying9 (H.rd h0) ?_
  refine vs ?_
  refine x_ld H sc22 ?_
  refine vs ?_
  refine x_str Try.underlying22 Try.underlying5 Try.underlying9 (H.rd h1) ?_
  refine vs ?_
  refine x_ld H sc3 ?_
  refine vs ?_
  refine x_ld H sc3 ?_
  refine vs ?_
  exact H.bel

theorem q_str {P : Program} {n : Nat} {w0 : World} {K : Value → Prop} {tg : Tg (n, ([] : List (Nat × Nat)), w0, K)} {s t e : TypeId} {v : Value} {l : List UInt8} (hs : P.underlying s = some (.slice e)) (he : P.underlying e = some (.int .u8)) (ht : P.underlying t = some .string) (hr : (bytes e).rd w0 n [v] l) (h : K (.string ⟨l.toArray⟩)) : QS P n [] w0 K tg (convert s t v) := by
  obtain ⟨A, c, rfl, h1, h2, h3⟩ := sl_open hr
  obtain ⟨_, h4⟩ := pl_u8.slRd.1 h3
  refine QS_of (fun w hw => ?_) h
  have hrd : (bytes e).rd w n [.slice A l.length c] l := ⟨A, c, rfl, h1, h2, pl_u8.slRd.2 ⟨fun _ _ => trivial, fun i hi => ?_⟩⟩
  · exact run_str hs he ht hrd
  · obtain ⟨h5, h6, h7⟩ := h4 i hi
    exact ⟨h5, h6, by rw [hw.cell (by rw [Kd.add_block]; exact h6) (by simp)]; exact h7⟩
theorem q_at0 {P : Program} {m : Nat} {w : World} {KQ : Value → Prop} {G : List (Nat × Nat)} {tq : Tg (m, G, w, KQ)} {t e sz by_ : Nat} {z : Value} (HS : SlT P t e sz by_ z) {ad : Addr} {len c : Nat} {k : IntKind} (hm : 0 < len) (h : KQ (.pointer (some ad))) : QS P m G w KQ tq (Instr.indexAt t (.slice (some ad) len c) (.int k 0)) := by
  refine qx_index HS rfl (by omega) (by omega) ?_
  have e : (adA (some ad)).add ((0 : Int).toNat * sz) = ad := by
    rw [adA_some, show (0 : Int).toNat * sz = 0 by simp]
    exact add_zero'
  rw [e]; exact h
theorem firstN {w : World} {n : Nat} {ad : Addr} {c : Nat} {l : List MKept} (h : kepts.rd w n [.slice (some ad) l.length c] l) (hl : 0 < l.length) : w.cell? ad = some (.int .i64 (l[0]).f_N) ∧ (-9223372036854775808 ≤ (l[0]).f_N ∧ (l[0]).f_N < 9223372036854775808) := by
  obtain ⟨A, c', e, _, _, ha⟩ := sl_open h
  simp only [Value.slice.injEq] at e
  obtain ⟨rfl, _, _⟩ := e
  obtain ⟨_, _, es, h3, h4⟩ := ha 0 hl
  obtain ⟨u, rfl, h5, _⟩ := kKept_open h3
  have := h4 0 (by decide)
  rw [adA_some, show 0 * kKept.sz + 0 = 0 by simp, add_zero'] at this
  exact ⟨by simpa using this, h5⟩

theorem listOf {w : World} {n : Nat} {a0 a1 : Value} {m : Int} {x : MCatch} (h : kCatch.rd w n [a0, .int .i64 m, a1] x) : kepts.rd w n [a1] x.f_List := by
  obtain ⟨_, _, e2, _, h1⟩ := kCatch_open h
  simp only [List.cons.injEq, and_true] at e2
  rw [e2.2.2]; exact h1
theorem drawCatchKey_ok (w : World) (v : Value) (a : List UInt8) (hv : (bytes 5).rd w w.heap.size [v] a) :
    ACalls Try.prog 52 #[v] w fun r w' => ∃ (x : MCatch) (cs : List Value) (n : Int), r = .tuple #[.agg cs.toArray, .int .i64 n] ∧ smCatch x ∧ (-9223372036854775808 ≤ n ∧ n < 9223372036854775808) ∧ Below w.heap.size w w' ∧ kCatch.rd w' w'.heap.size cs x := by
  have H := Sep.start w
  refine body_of follows Try.func52 rfl rfl _ rfl (by kernel_rfl) (vs ?_)
  refine x_al H st50 fun g2 w1 H => vs ?_
  refine x_call (l1New_ok w1 v a (H.rd hv)) fun _ w2 ⟨g, i, h, e, hi, S⟩ => ?_
  subst e
  have H := H.join S
  simp only [List.cons_append, List.nil_append] at H
  refine vs ?_
  refine x_call (l24Draw_ok H hv hi) fun _ w3 ⟨x, cs, fp, i1, h1, e, hs, hi1, H⟩ => ?_
  subst e
  obtain ⟨a0, a1, rfl, _, hl1⟩ := kCatch_open (H.own (.head _))
  obtain ⟨A1, d1, rfl, _⟩ := sl_open hl1
  have hone := Kd.one _ (H.own (.head _))
  refine vs ?_
  refine x_al H st50 fun g5 w4 H => vs ?_
  refine x_sta (vs := [a0, .int .i64 x.f_Chain.f_N, .slice A1 x.f_List.length d1]) H st50 (h1 := hone) fun w5 H => vs ?_
  refine x_ld H sc48 ?_
  by_cases q : 0 < (x.f_List.length : Int)
  · refine ve q ?_
    have H := H.front (c := curB g v i1 h1)
    refine x_call (l1Once_ok 3 H hv hi1) fun _ w6 ⟨b, i2, h2, e, hi2, H⟩ => ?_
    subst e
    cases b with
    | true =>
      refine vs ?_
      have hl : 0 < x.f_List.length := by omega
      have hrd := H.own (d := kCatch) (fp := fp) (cs := [a0, .int .i64 x.f_Chain.f_N, .slice A1 x.f_List.length d1]) (x := x) (by simp)
      obtain ⟨_, _, e2, _, hrl⟩ := kCatch_open hrd
      simp only [List.cons.injEq, true_and, and_true] at e2
      obtain ⟨rfl, rfl⟩ := e2
      obtain ⟨ad, rfl⟩ : ∃ ad, A1 = some ad := by
        obtain ⟨A', c', e', _, _, ha⟩ := sl_open hrl
        simp only [List.cons.injEq, Value.slice.injEq, and_true] at e'
        obtain ⟨rfl, _⟩ := e'
        exact Option.isSome_iff_exists.1 (ha 0 hl).1
      have hnn := (firstN hrl hl).2
      refine fork_draw w.heap.size [] fun w7 hh hb7 => ?_
      have H := H.go (hb7 _)
      have H3 := H
      refine rest_pre [(1, true)] 7 ?_
      refine vs ?_
      refine rest_fork 0 2 6 ?_ ?_
      · refine vs ?_
        refine x_lda H st50 ?_
        refine vs ?_
        refine ⟨kept_base H3 H, ?_⟩
        refine rest_fork 2 6 5 ?_ ?_
        · refine vs ?_
          refine x_ld H sc48 ?_
          refine vs ?_
          refine ⟨kept_base H3 H, ?_⟩
          refine rest_pre [(3, true), (4, true)] 3 ?_
          refine vs ?_
          refine q_at0 sl48 hl ?_
          refine vs ?_
          refine rest_fork 5 6 2 ?_ ?_
          · refine vs ?_
            have hrd := H.own (d := kCatch) (fp := fp) (cs := [a0, .int .i64 x.f_Chain.f_N, .slice (some ad) x.f_List.length d1]) (x := x) (by simp)
            have hcell : _ := (firstN (listOf hrd) hl).1
            refine x_load sc3 hcell (vs ?_)
            refine ⟨kept_base H3 H, ?_⟩
            refine rest_end [(6, false), (7, true)] ?_
            refine vs ?_
            refine x_sta (vs := [a0, .int .i64 x.f_Chain.f_N, .slice (some ad) x.f_List.length d1]) H st50 (h1 := hone) fun w9 H => vs ?_
            refine ⟨kept_base H3 H, ?_⟩
            exact ⟨_, _, rfl, res_cell H st50 (g := g2), x, _, _, rfl, hs, hnn, H.bel, H.own (d := kCatch) (fp := fp) (x := x) (by simp)⟩
          · refine vs ?_
            refine x_sta (vs := [a0, .int .i64 x.f_Chain.f_N, .slice (some ad) x.f_List.length d1]) H st50 (h1 := hone) fun w9 H => vs ?_
            refine ⟨kept_base H3 H, ?_⟩
            refine rest_end [(5, false), (7, true)] ?_
            refine vs ?_
            have hrd := H.own (d := kCatch) (fp := fp) (cs := [a0, .int .i64 x.f_Chain.f_N, .slice (some ad) x.f_List.length d1]) (x := x) (by simp)
            have hcell : _ := (firstN (listOf hrd) hl).1
            refine x_load sc3 hcell (vs ?_)
            refine ⟨kept_base H3 H, ?_⟩
            exact ⟨_, _, rfl, res_cell H st50 (g := g2), x, _, _, rfl, hs, hnn, H.bel, H.own (d := kCatch) (fp := fp) (x := x) (by simp)⟩
        · refine vs ?_
          refine x_sta (vs := [a0, .int .i64 x.f_Chain.f_N, .slice (some ad) x.f_List.length d1]) H st50 (h1 := hone) fun w9 H => vs ?_
          refine ⟨kept_base H3 H, ?_⟩
          refine rest_end [(2, false), (3, true), (4, true), (5, false), (7, true)] ?_
          refine vs ?_
          refine x_ld H sc48 ?_
          refine vs ?_
          refine ⟨kept_base H3 H, ?_⟩
          refine q_at0 sl48 hl ?_
          refine vs ?_
          have hrd := H.own (d := kCatch) (fp := fp) (cs := [a0, .int .i64 x.f_Chain.f_N, .slice (some ad) x.f_List.length d1]) (x := x) (by simp)
          have hcell : _ := (firstN (listOf hrd) hl).1
          refine x_load sc3 hcell (vs ?_)
          refine ⟨kept_base H3 H, ?_⟩
          exact ⟨_, _, rfl, res_cell H st50 (g := g2), x, _, _, rfl, hs, hnn, H.bel, H.own (d := kCatch) (fp := fp) (x := x) (by simp)⟩
      · refine vs ?_
        refine x_ld H sc48 ?_
        refine vs ?_
        refine ⟨kept_base H3 H, ?_⟩
        refine rest_pre [(3, true), (4, true)] 4 ?_
        refine vs ?_
        refine q_at0 sl48 hl ?_
        refine vs ?_
        refine rest_fork 0 5 3 ?_ ?_
        · refine vs ?_
          refine x_lda H st50 ?_
          refine vs ?_
          refine ⟨kept_base H3 H, ?_⟩
          refine rest_fork 5 6 2 ?_ ?_
          · refine vs ?_
            have hrd := H.own (d := kCatch) (fp := fp) (cs := [a0, .int .i64 x.f_Chain.f_N, .slice (some ad) x.f_List.length d1]) (x := x) (by simp)
            have hcell : _ := (firstN (listOf hrd) hl).1
            refine x_load sc3 hcell (vs ?_)
            refine ⟨kept_base H3 H, ?_⟩
            refine rest_end [(6, false), (7, true)] ?_
            refine vs ?_
            refine x_sta (vs := [a0, .int .i64 x.f_Chain.f_N, .slice (some ad) x.f_List.length d1]) H st50 (h1 := hone) fun w9 H => vs ?_
            refine ⟨kept_base H3 H, ?_⟩
            exact ⟨_, _, rfl, res_cell H st50 (g := g2), x, _, _, rfl, hs, hnn, H.bel, H.own (d := kCatch) (fp := fp) (x := x) (by simp)⟩
          · refine vs ?_
            refine x_sta (vs := [a0, .int .i64 x.f_Chain.f_N, .slice (some ad) x.f_List.length d1]) H st50 (h1 := hone) fun w9 H => vs ?_
            refine ⟨kept_base H3 H, ?_⟩
            refine rest_end [(5, false), (7, true)] ?_
            refine vs ?_
            have hrd := H.own (d := kCatch) (fp := fp) (cs := [a0, .int .i64 x.f_Chain.f_N, .slice (some ad) x.f_List.length d1]) (x := x) (by simp)
            have hcell : _ := (firstN (listOf hrd) hl).1
            refine x_load sc3 hcell (vs ?_)
            refine ⟨kept_base H3 H, ?_⟩
            exact ⟨_, _, rfl, res_cell H st50 (g := g2), x, _, _, rfl, hs, hnn, H.bel, H.own (d := kCatch) (fp := fp) (x := x) (by simp)⟩
        · refine vs ?_
          have hrd := H.own (d := kCatch) (fp := fp) (cs := [a0, .int .i64 x.f_Chain.f_N, .slice (some ad) x.f_List.length d1]) (x := x) (by simp)
          have hcell : _ := (firstN (listOf hrd) hl).1
          refine x_load sc3 hcell (vs ?_)
          refine ⟨kept_base H3 H, ?_⟩
          refine rest_end [(0, false), (6, false), (7, true)] ?_
          refine vs ?_
          refine x_lda H st50 ?_
          refine vs ?_
          refine ⟨kept_base H3 H, ?_⟩
          refine x_sta (vs := [a0, .int .i64 x.f_Chain.f_N, .slice (some ad) x.f_List.length d1]) H st50 (h1 := hone) fun w9 H => vs ?_
          refine ⟨kept_base H3 H, ?_⟩
          exact ⟨_, _, rfl, res_cell H st50 (g := g2), x, _, _, rfl, hs, hnn, H.bel, H.own (d := kCatch) (fp := fp) (x := x) (by simp)⟩
    | false =>
      refine vs ?_
      refine fork_draw w.heap.size [] fun w6 hh hb6 => ?_
      have H := H.go (hb6 _)
      have H3 := H
      refine rest_pre [(1, true)] 5 ?_
      refine vs ?_
      refine rest_fork 0 2 4 ?_ ?_
      · refine vs ?_
        refine x_lda H st50 ?_
        refine vs ?_
        refine ⟨kept_base H3 H, ?_⟩
        refine rest_end [(2, false), (3, false), (4, false), (5, true)] ?_
        refine vs ?_
        refine x_lst H pl_i64 sl89 [0, 1, 3, 5, 8, 999, 1000, -1, 9223372036854775807] (by simp) fun g7 w7 H => vs ?_
        refine ⟨kept_base H3 H, ?_⟩
        have H := H.front (c := curB g v i2 h2)
        have H := H.front (c := Ck.own (Kd.slice 3 Kd.i64) [g7] [.slice (some ⟨g7, 0, none⟩) 9 9] [0, 1, 3, 5, 8, 999, 1000, -1, 9223372036854775807])
        refine x_call (l1PickInt_ok _ H hv hi2 (by simp)) fun _ w8 ⟨nn, i8, h8, e, _, hnn, hi8, H⟩ => ?_
        subst e
        refine vs ?_
        refine ⟨kept_base H3 H, ?_⟩
        refine x_sta (vs := [a0, .int .i64 x.f_Chain.f_N, .slice A1 x.f_List.length d1]) H st50 (h1 := hone) fun w9 H => vs ?_
        refine ⟨kept_base H3 H, ?_⟩
        exact ⟨_, _, rfl, res_cell H st50 (g := g2), x, _, _, rfl, hs, hnn, H.bel, H.own (d := kCatch) (fp := fp) (x := x) (by simp)⟩
      · refine vs ?_
        refine x_lst H pl_i64 sl89 [0, 1, 3, 5, 8, 999, 1000, -1, 9223372036854775807] (by simp) fun g7 w7 H => vs ?_
        refine ⟨kept_base H3 H, ?_⟩
        refine rest_fork 0 3 3 ?_ ?_
        · refine vs ?_
          refine x_lda H st50 ?_
          refine vs ?_
          refine ⟨kept_base H3 H, ?_⟩
          refine rest_end [(3, false), (4, false), (5, true)] ?_
          refine vs ?_
          have H := H.front (c := curB g v i2 h2)
          have H := H.front (c := Ck.own (Kd.slice 3 Kd.i64) [g7] [.slice (some ⟨g7, 0, none⟩) 9 9] [0, 1, 3, 5, 8, 999, 1000, -1, 9223372036854775807])
          refine x_call (l1PickInt_ok _ H hv hi2 (by simp)) fun _ w8 ⟨nn, i8, h8, e, _, hnn, hi8, H⟩ => ?_
          subst e
          refine vs ?_
          refine ⟨kept_base H3 H, ?_⟩
          refine x_sta (vs := [a0, .int .i64 x.f_Chain.f_N, .slice A1 x.f_List.length d1]) H st50 (h1 := hone) fun w9 H => vs ?_
          refine ⟨kept_base H3 H, ?_⟩
          exact ⟨_, _, rfl, res_cell H st50 (g := g2), x, _, _, rfl, hs, hnn, H.bel, H.own (d := kCatch) (fp := fp) (x := x) (by simp)⟩
        · refine vs ?_
          have H := H.front (c := curB g v i2 h2)
          have H := H.front (c := Ck.own (Kd.slice 3 Kd.i64) [g7] [.slice (some ⟨g7, 0, none⟩) 9 9] [0, 1, 3, 5, 8, 999, 1000, -1, 9223372036854775807])
          refine x_call (l1PickInt_ok _ H hv hi2 (by simp)) fun _ w8 ⟨nn, i8, h8, e, _, hnn, hi8, H⟩ => ?_
          subst e
          refine vs ?_
          refine ⟨kept_base H3 H, ?_⟩
          refine rest_end [(0, false), (4, false), (5, true)] ?_
          refine vs ?_
          refine x_lda H st50 ?_
          refine vs ?_
          refine ⟨kept_base H3 H, ?_⟩
          refine x_sta (vs := [a0, .int .i64 x.f_Chain.f_N, .slice A1 x.f_List.length d1]) H st50 (h1 := hone) fun w9 H => vs ?_
          refine ⟨kept_base H3 H, ?_⟩
          exact ⟨_, _, rfl, res_cell H st50 (g := g2), x, _, _, rfl, hs, hnn, H.bel, H.own (d := kCatch) (fp := fp) (x := x) (by simp)⟩
  · refine ve q ?_
    refine fork_draw w.heap.size [] fun w6 hh hb6 => ?_
    have H := H.go (hb6 _)
    have H3 := H
    refine rest_pre [(1, true)] 5 ?_
    refine vs ?_
    refine rest_fork 0 2 4 ?_ ?_
    · refine vs ?_
      refine x_lda H st50 ?_
      refine vs ?_
      refine ⟨kept_base H3 H, ?_⟩
      refine rest_end [(2, false), (3, false), (4, false), (5, true)] ?_
      refine vs ?_
      refine x_lst H pl_i64 sl89 [0, 1, 3, 5, 8, 999, 1000, -1, 9223372036854775807] (by simp) fun g7 w7 H => vs ?_
      refine ⟨kept_base H3 H, ?_⟩
      have H := H.front (c := curB g v i1 h1)
      have H := H.front (c := Ck.own (Kd.slice 3 Kd.i64) [g7] [.slice (some ⟨g7, 0, none⟩) 9 9] [0, 1, 3, 5, 8, 999, 1000, -1, 9223372036854775807])
      refine x_call (l1PickInt_ok _ H hv hi1 (by simp)) fun _ w8 ⟨nn, i8, h8, e, _, hnn, hi8, H⟩ => ?_
      subst e
      refine vs ?_
      refine ⟨kept_base H3 H, ?_⟩
      refine x_sta (vs := [a0, .int .i64 x.f_Chain.f_N, .slice A1 x.f_List.length d1]) H st50 (h1 := hone) fun w9 H => vs ?_
      refine ⟨kept_base H3 H, ?_⟩
      exact ⟨_, _, rfl, res_cell H st50 (g := g2), x, _, _, rfl, hs, hnn, H.bel, H.own (d := kCatch) (fp := fp) (x := x) (by simp)⟩
    · refine vs ?_
      refine x_lst H pl_i64 sl89 [0, 1, 3, 5, 8, 999, 1000, -1, 9223372036854775807] (by simp) fun g7 w7 H => vs ?_
      refine ⟨kept_base H3 H, ?_⟩
      refine rest_fork 0 3 3 ?_ ?_
      · refine vs ?_
        refine x_lda H st50 ?_
        refine vs ?_
        refine ⟨kept_base H3 H, ?_⟩
        refine rest_end [(3, false), (4, false), (5, true)] ?_
        refine vs ?_
        have H := H.front (c := curB g v i1 h1)
        have H := H.front (c := Ck.own (Kd.slice 3 Kd.i64) [g7] [.slice (some ⟨g7, 0, none⟩) 9 9] [0, 1, 3, 5, 8, 999, 1000, -1, 9223372036854775807])
        refine x_call (l1PickInt_ok _ H hv hi1 (by simp)) fun _ w8 ⟨nn, i8, h8, e, _, hnn, hi8, H⟩ => ?_
        subst e
        refine vs ?_
        refine ⟨kept_base H3 H, ?_⟩
        refine x_sta (vs := [a0, .int .i64 x.f_Chain.f_N, .slice A1 x.f_List.length d1]) H st50 (h1 := hone) fun w9 H => vs ?_
        refine ⟨kept_base H3 H, ?_⟩
        exact ⟨_, _, rfl, res_cell H st50 (g := g2), x, _, _, rfl, hs, hnn, H.bel, H.own (d := kCatch) (fp := fp) (x := x) (by simp)⟩
      · refine vs ?_
        have H := H.front (c := curB g v i1 h1)
        have H := H.front (c := Ck.own (Kd.slice 3 Kd.i64) [g7] [.slice (some ⟨g7, 0, none⟩) 9 9] [0, 1, 3, 5, 8, 999, 1000, -1, 9223372036854775807])
        refine x_call (l1PickInt_ok _ H hv hi1 (by simp)) fun _ w8 ⟨nn, i8, h8, e, _, hnn, hi8, H⟩ => ?_
        subst e
        refine vs ?_
        refine ⟨kept_base H3 H, ?_⟩
        refine rest_end [(0, false), (4, false), (5, true)] ?_
        refine vs ?_
        refine x_lda H st50 ?_
        refine vs ?_
        refine ⟨kept_base H3 H, ?_⟩
        refine x_sta (vs := [a0, .int .i64 x.f_Chain.f_N, .slice A1 x.f_List.length d1]) H st50 (h1 := hone) fun w9 H => vs ?_
        refine ⟨kept_base H3 H, ?_⟩
        exact ⟨_, _, rfl, res_cell H st50 (g := g2), x, _, _, rfl, hs, hnn, H.bel, H.own (d := kCatch) (fp := fp) (x := x) (by simp)⟩

theorem sameCatch_ok (w : World) (cs ds : List Value) (x : MCatch) (h : kCatch.rd w w.heap.size cs x) (h' : kCatch.rd w w.heap.size ds x) :
    ACalls Try.prog 57 #[.agg cs.toArray, .agg ds.toArray] w fun r w' => r = .bool true ∧ Below w.heap.size w w' := by
  obtain ⟨a0, a1, rfl, h0, h1⟩ := kCatch_open h
  obtain ⟨b0, b1, rfl, h0', h1'⟩ := kCatch_open h'
  have hlm := sl_len h1
  obtain ⟨A, c, rfl, _, _, ha⟩ := sl_open h1
  obtain ⟨B, d, rfl, _, _, hb⟩ := sl_open h1'
  have H := Sep.start w
  refine body_of follows Try.func57 rfl rfl _ rfl (by kernel_rfl) (vs ?_)
  refine x_bx H [a0, .int .i64 x.f_Chain.f_N, .slice A x.f_List.length c] fun g1 w1 H => vs ?_
  refine x_bx H [b0, .int .i64 x.f_Chain.f_N, .slice B x.f_List.length d] fun g2 w2 H => vs ?_
  refine x_ldp H [a0, .int .i64 x.f_Chain.f_N] st43 ?_
  refine vs ?_
  refine x_ldp H [b0, .int .i64 x.f_Chain.f_N] st43 ?_
  refine vs ?_
  refine x_callb H (sameChain_ok w2 [a0, .int .i64 x.f_Chain.f_N] [b0, .int .i64 x.f_Chain.f_N] x.f_Chain (H.rd h0) (H.rd h0')) fun w3 H => ?_
  refine vs ?_
  refine x_ld H sc48 ?_
  refine vs ?_
  refine x_ld H sc48 ?_
  refine vs ?_
  refine loop_at (σ := Nat) (fun k => [(2, .pointer (some ⟨g1, 0, none⟩)), (3, .pointer (some ⟨g2, 0, none⟩)), (5, .int .i64 (k : Int))])
    (fun k w' => k ≤ x.f_List.length ∧ Sep w.heap.size w w' [Ck.box g2 [b0, .int .i64 x.f_Chain.f_N, .slice B x.f_List.length d] 50, Ck.box g1 [a0, .int .i64 x.f_Chain.f_N, .slice A x.f_List.length c] 50]) (fun k => x.f_List.length - k) 0 (vs trivial) ⟨Nat.zero_le _, H⟩ ?_
  rintro k s w4 ⟨hk, H⟩
  refine vs ?_
  refine x_ld H sc48 ?_
  refine vs (ways ?_ ?_)
  · refine vh fun hlt => ?_
    have hk2 : k < x.f_List.length := by omega
    refine draw_at [(0, true), (1, true), (2, true), (3, true), (4, true), (5, true), (6, true), (7, true), (8, true), (9, true), (10, true), (11, true), (12, true), (13, true), (14, true), (15, true), (16, true), (17, true), (18, true), (19, true), (20, true), (21, true), (22, true), (23, true), (24, true), (25, true), (26, true), (27, true), (28, true), (29, true)] fun w5 hh hb5 => vs ?_
    have H := H.go (hb5 _)
    refine q_ld H sc48 ?_
    refine vs ?_
    refine q_ele H sl48 rfl k hk2 ha rfl fun ad es hb1 hr hc => vs ?_
    obtain ⟨u, rfl, _, hr1⟩ := kKept_open hr
    refine q_lf0 sc3 hc (by decide) (Nat.lt_of_lt_of_le hb1 H.ns) rfl ?_
    refine vs ?_
    refine q_ld H sc48 ?_
    refine vs ?_
    refine q_ele H sl48 rfl k hk2 hb rfl fun ad es hb1 hr hc => vs ?_
    obtain ⟨u2, rfl, _, hr2⟩ := kKept_open hr
    refine q_lf0 sc3 hc (by decide) (Nat.lt_of_lt_of_le hb1 H.ns) rfl ?_
    refine vs ?_
    refine q_ld H sc48 ?_
    refine vs ?_
    refine q_ele H sl48 rfl k hk2 ha rfl fun ad es hb1 hr hc => vs ?_
    obtain ⟨u3, rfl, _, hr3⟩ := kKept_open hr
    refine q_lfj sc22 hc (by decide) (Nat.lt_of_lt_of_le hb1 H.ns) rfl ?_
    refine vs ?_
    refine q_str Try.underlying22 Try.underlying5 Try.underlying9 (H.rd hr3) ?_
    refine vs ?_
    refine q_ld H sc48 ?_
    refine vs ?_
    refine q_ele H sl48 rfl k hk2 hb rfl fun ad es hb1 hr hc => vs ?_
    obtain ⟨u4, rfl, _, hr4⟩ := kKept_open hr
    refine q_lfj sc22 hc (by decide) (Nat.lt_of_lt_of_le hb1 H.ns) rfl ?_
    refine vs ?_
    refine q_str Try.underlying22 Try.underlying5 Try.underlying9 (H.rd hr4) ?_
    refine vs ?_
    exact ⟨k + 1, i64_eq (by unfold w64; omega), ⟨hk2, H⟩, by omega⟩
  · refine vh fun hlt => ?_
    exact H.bel
end Go.Proofs.Ytagljofpmjaciaa.V
