/- Draws for ways. -/
import Derived.Test.YtlkplnioaiahhaaWdh
import Derived.Test.YtlkplnioaiahhaaZ2
namespace Go.Proofs.Ytlkplnioaiahhaa.V
open Go Go.RowKit
set_option maxRecDepth 100000
set_option maxHeartbeats 4000000
set_option linter.unusedSimpArgs false
set_option linter.unusedVariables false
set_option pp.deepTerms false
set_option pp.deepTerms.threshold 3

theorem l1PickInt_ok {n : Nat} {w0 w : World} {L : List Ck} {g : Nat} {v u : Value} {i h : Int} {a : List UInt8} {fp : List Nat} (l : List Int) (H : Sep n w0 w (Ck.own (Kd.slice 3 Kd.i64) fp [u] l :: curB g v i h :: L)) (hv : (bytes 5).rd w0 n [v] a) (hi : 0 ≤ i ∧ i ≤ a.length) (hl : 0 < l.length) :
    ACalls Try.prog 70 #[.pointer (some ⟨g, 0, none⟩), u] w fun r w' => ∃ (x : Int) (i' h' : Int), r = .int .i64 x ∧ x ∈ l ∧ (-9223372036854775808 ≤ x ∧ x < 9223372036854775808) ∧ (0 ≤ i' ∧ i' ≤ a.length) ∧ Sep n w0 w' (curB g v i' h' :: L) := by
  obtain ⟨A, c, rfl, hc1, hc2, _⟩ := sl_open (H.own (.head _))
  refine body_of follows Try.func70 rfl rfl _ rfl (by kernel_rfl) (vs ?_)
  have H := H.front (c := curB g v i h)
  refine x_call (l1Below_ok (l.length : Int) H hv hi) fun _ w2 ⟨k, i1, h1, e, hk, hi1, H⟩ => ?_
  subst e
  refine vs ?_
  have hk2 : k < l.length := by omega
  obtain ⟨A', c', e', hc1', hc2', ha'⟩ := sl_open (H.own (.tail _ (.head _)))
  simp only [Value.slice.injEq] at e'
  obtain ⟨rfl, _, rfl⟩ := e'
  refine x_elV pl_i64 sl62 (x := l[k]) k ha' (List.getElem?_eq_getElem _) rfl rfl fun ad hb hc hr => vs ?_
  refine x_load sc3 hc (vs ?_)
  exact ⟨_, _, _, rfl, List.getElem_mem _, hr, hi1, H.drops' (L := [_])⟩
theorem l3DrawLong_ok {n : Nat} {w0 w : World} {L : List Ck} {g : Nat} {v : Value} {i h : Int} {a : List UInt8} (H : Sep n w0 w (curB g v i h :: L)) (hv : (bytes 5).rd w0 n [v] a) (hi : 0 ≤ i ∧ i ≤ a.length) :
    ACalls Try.prog 69 #[.pointer (some ⟨g, 0, none⟩)] w fun r w' => ∃ (b : List UInt8) (fp : List Nat) (i' h' : Int), b.length ≤ 4002 ∧ (0 ≤ i' ∧ i' ≤ a.length) ∧ Sep n w0 w' (Ck.own (bytes 5) fp [r] b :: curB g v i' h' :: L) := by
  refine body_of follows Try.func69 rfl rfl _ rfl (by kernel_rfl) (vs ?_)
  refine x_call (l1Below_ok 40 H hv hi) fun _ w1 ⟨k, i1, h1, e, hk, hi1, H⟩ => ?_
  subst e
  by_cases q0 : (k : Int) = 0
  · refine ve q0 ?_
    refine x_call (l1Below_ok 2 H hv hi1) fun _ w2 ⟨k2, i2, h2, e, hk2, hi2, H⟩ => ?_
    subst e
    refine ve (show w64 (4000 + (k2 : Int)) = ((4000 + k2 : Nat) : Int) by rw [w64_id (by omega) (by omega)]; omega) ?_
    refine x_mk H pl_u8 (x := 0) sl22 trivial (by omega) (by omega) fun g3 w3 H => vs ?_
    exact ⟨_, _, _, _, by rw [List.length_replicate]; omega, hi2, H⟩
  refine ve q0 ?_
  by_cases q1 : (k : Int) = 1
  · refine ve q1 ?_
    refine x_call (l1Below_ok 14 H hv hi1) fun _ w2 ⟨k2, i2, h2, e, hk2, hi2, H⟩ => ?_
    subst e
    refine ve (show w64 (53 + (k2 : Int)) = ((53 + k2 : Nat) : Int) by rw [w64_id (by omega) (by omega)]; omega) ?_
    refine x_mk H pl_u8 (x := 0) sl22 trivial (by omega) (by omega) fun g3 w3 H => vs ?_
    exact ⟨_, _, _, _, by rw [List.length_replicate]; omega, hi2, H⟩
  refine ve q1 ?_
  by_cases q2 : (k : Int) = 2
  · refine ve q2 ?_
    refine x_call (l1Below_ok 14 H hv hi1) fun _ w2 ⟨k2, i2, h2, e, hk2, hi2, H⟩ => ?_
    subst e
    refine ve (show w64 (53 + (k2 : Int)) = ((53 + k2 : Nat) : Int) by rw [w64_id (by omega) (by omega)]; omega) ?_
    refine x_mk H pl_u8 (x := 0) sl22 trivial (by omega) (by omega) fun g3 w3 H => vs ?_
    exact ⟨_, _, _, _, by rw [List.length_replicate]; omega, hi2, H⟩
  refine ve q2 ?_
  by_cases q3 : (k : Int) = 3
  · refine ve q3 ?_
    refine x_call (l1Below_ok 14 H hv hi1) fun _ w2 ⟨k2, i2, h2, e, hk2, hi2, H⟩ => ?_
    subst e
    refine ve (show w64 (53 + (k2 : Int)) = ((53 + k2 : Nat) : Int) by rw [w64_id (by omega) (by omega)]; omega) ?_
    refine x_mk H pl_u8 (x := 0) sl22 trivial (by omega) (by omega) fun g3 w3 H => vs ?_
    exact ⟨_, _, _, _, by rw [List.length_replicate]; omega, hi2, H⟩
  refine ve q3 ?_
  refine x_call (l1DrawBytes_ok 40 H hv hi1 (by omega)) fun r w2 ⟨b, fp, i2, h2, hb, hi2, H⟩ => vs ?_
  exact ⟨_, _, _, _, by omega, hi2, H⟩
theorem drawLeafOf_ok (w : World) (v : Value) (a : List UInt8) (hv : (bytes 5).rd w w.heap.size [v] a) :
    ACalls Try.prog 46 #[v] w fun r w' => ∃ (b : List UInt8) (fp : List Nat), b.length ≤ 4002 ∧ Sep w.heap.size w w' [Ck.own (bytes 5) fp [r] b] := by
  refine body_of follows Try.func46 rfl rfl _ rfl (by kernel_rfl) (vs ?_)
  refine x_call (l1New_ok w v a hv) fun _ w1 ⟨g, i, h, e, hi, H⟩ => ?_
  subst e
  refine vs ?_
  refine x_call (l3DrawLong_ok H hv hi) fun r w2 ⟨b, fp, i1, h1, hb, hi1, H⟩ => vs ?_
  exact ⟨b, fp, hb, H.drops' (L := [_])⟩
theorem drawNodeOf_ok (w : World) (v : Value) (a : List UInt8) (hv : (bytes 5).rd w w.heap.size [v] a) :
    ACalls Try.prog 45 #[v] w fun r w' => ∃ (u1 u2 : Value) (b1 b2 : List UInt8) (f1 f2 : List Nat), r = .tuple #[u1, u2] ∧ (b1.length ≤ 33 ∧ b2.length ≤ 33) ∧ Sep w.heap.size w w' [Ck.own (bytes 5) f2 [u2] b2, Ck.own (bytes 5) f1 [u1] b1] := by
  refine body_of follows Try.func45 rfl rfl _ rfl (by kernel_rfl) (vs ?_)
  refine x_call (l1New_ok w v a hv) fun _ w1 ⟨g, i, h, e, hi, H⟩ => ?_
  subst e
  refine vs ?_
  refine x_call (l1DrawNear_ok 32 H hv hi (by omega)) fun r1 w2 ⟨b1, f1, i1, h1, hb1, hi1, H⟩ => vs ?_
  have H := H.front (c := curB g v i1 h1)
  refine x_call (l1DrawNear_ok 32 H hv hi1 (by omega)) fun r2 w3 ⟨b2, f2, i2, h2, hb2, hi2, H⟩ => vs ?_
  exact ⟨_, _, _, _, _, _, rfl, ⟨by omega, by omega⟩, H.drops' (L := [_])⟩
theorem drawPathOf_ok (w : World) (v : Value) (a : List UInt8) (hv : (bytes 5).rd w w.heap.size [v] a) :
    ACalls Try.prog 44 #[v] w fun r w' => ∃ (u : Value) (l : List (List UInt8)) (fp : List Nat) (i : Int), r = .tuple #[u, .int .i64 i] ∧ Drawn l ∧ (-1 ≤ i ∧ i ≤ 100) ∧ Sep w.heap.size w w' [Ck.own lists fp [u] l] := by
  refine body_of follows Try.func44 rfl rfl _ rfl (by kernel_rfl) (vs ?_)
  refine x_call (l1New_ok w v a hv) fun _ w1 ⟨g, i, h, e, hi, H⟩ => ?_
  subst e
  refine vs ?_
  refine x_call (l23DrawList_ok H hv hi) fun r w2 ⟨l, fp, i1, h1, hd, hi1, H⟩ => ?_
  have hl := hd.1
  obtain ⟨A, c, rfl, _⟩ := sl_open (H.own (.head _))
  refine ve (show w64 ((l.length : Int) + 3) = (l.length : Int) + 3 from w64_id (by omega) (by omega)) ?_
  have H := H.front (c := curB g v i1 h1)
  refine x_call (l1Below_ok ((l.length : Int) + 3) H hv hi1) fun _ w3 ⟨k, i2, h2, e, hk, hi2, H⟩ => ?_
  subst e
  refine ve (show w64 ((k : Int) - 1) = (k : Int) - 1 from w64_id (by omega) (by omega)) ?_
  exact ⟨_, _, _, _, rfl, hd, ⟨by omega, by omega⟩, H.tail⟩

theorem few_app {p : List (List UInt8)} {x : List UInt8} (h : Few' p) (hx : x.length ≤ 33) : Few' (p ++ [x]) := fun a ha => (List.mem_append.1 ha).elim (h a) fun h => by rw [List.mem_singleton.1 h]; omega
theorem drawRootBy_ok (w : World) (v : Value) (a : List UInt8) (hv : (bytes 5).rd w w.heap.size [v] a) :
    ACalls Try.prog 47 #[v] w fun r w' => ∃ (v1 v2 : Value) (leaf : List UInt8) (path : List (List UInt8)) (i n : Int), r = .tuple #[v1, .int .i64 i, .int .i64 n, v2] ∧ leaf.length ≤ 33 ∧ Few' path ∧ Below w.heap.size w w' ∧ (bytes 5).rd w' w'.heap.size [v1] leaf ∧ lists.rd w' w'.heap.size [v2] path := by
  refine body_of follows Try.func47 rfl rfl _ rfl (by kernel_rfl) (vs ?_)
  refine x_call (l1New_ok w v a hv) fun _ w1 ⟨g, i, h, e, hi, H⟩ => ?_
  subst e
  refine vs ?_
  refine x_call (l23DrawList_ok H hv hi) fun r1 w2 ⟨l, f1, i1, h1, hd, hi1, H⟩ => ?_
  have hl := hd.1
  obtain ⟨A, c, rfl, _⟩ := sl_open (H.own (.head _))
  refine ve (show w64 ((l.length : Int) + 2) = (l.length : Int) + 2 from w64_id (by omega) (by omega)) ?_
  have H := H.front (c := curB g v i1 h1)
  refine x_call (l1Below_ok ((l.length : Int) + 2) H hv hi1) fun _ w3 ⟨k, i2, h2, e, hk, hi2, H⟩ => ?_
  subst e
  refine ve (show w64 ((k : Int) - 1) = (k : Int) - 1 from w64_id (by omega) (by omega)) ?_
  refine x_callf H (specPathOf_ok w3 _ l ((k : Int) - 1) (H.own (.tail _ (.head _))) hd.few) fun r4 f4 w4 H => vs ?_
  obtain ⟨hp1, hp2⟩ := pathOf_len l.length l ((k : Int) - 1) (Nat.le_refl _)
  have hpf : Few' (pathOf l ((k : Int) - 1)) := fun a ha => by have := hp2 a ha; omega
  have H := H.front (c := curB g v i2 h2)
  refine x_call (l1DrawNear_ok 32 H hv hi2 (by omega)) fun r5 w5 ⟨b5, f5, i3, h3, hb5, hi3, H⟩ => ?_
  refine ve (show w64 ((l.length : Int) - 1) = (l.length : Int) - 1 from w64_id (by omega) (by omega)) ?_
  refine x_callw (l1In_ok w5 _ _ _) ?_
  have hl5 := H.own (d := lists) (fp := f1) (cs := [.slice A l.length c]) (x := l) (by simp)
  obtain ⟨A', c', e', _, _, hla⟩ := sl_open hl5
  simp only [List.cons.injEq, Value.slice.injEq, and_true] at e'
  obtain ⟨rfl, _, rfl⟩ := e'
  by_cases qi : 0 ≤ (k : Int) - 1 ∧ (k : Int) - 1 ≤ (l.length : Int) - 1
  · refine ve qi ?_
    have hk1 : k - 1 < l.length := by omega
    refine x_ele (Sep.start w5) sl24 rfl (k - 1) hk1 hla (by omega) fun ad es hb hr hc => vs ?_
    obtain ⟨u, rfl⟩ := sl_one hr
    refine x_ld1 sc22 hc rfl (vs ?_)
    refine x_callf H (specLeafOf_ok w5 u (l[k - 1]) hr (by have := hd.2 _ (List.getElem_mem hk1); omega)) fun r6 f6 w6 H => ?_
    obtain ⟨AL, cL, rfl, _⟩ := sl_open (H.own (.head _))
    refine vs ?_
    have hLL : (leafOf (l[k - 1])).length ≤ 33 := by have := leafOf_len (l[k - 1]); omega

    have H := H.front (c := curB g v i3 h3)
    refine x_call (l1Below_ok 6 H hv hi3) fun _ w8 ⟨q, i4, h4, e, hq, hi4, H⟩ => ?_
    subst e
    have hLr := H.own (d := bytes 5) (fp := f6) (cs := [.slice AL (leafOf (l[k - 1])).length cL]) (x := leafOf (l[k - 1])) (by simp)
    have hPr := H.own (d := lists) (fp := f4) (cs := [r4]) (x := pathOf l ((k : Int) - 1)) (by simp)
    by_cases q0 : (q : Int) = 0
    · refine ve q0 ?_
      exact ⟨_, _, _, _, _, _, rfl, hLL, hpf, H.bel, hLr, hPr⟩
    refine ve q0 ?_
    by_cases q1 : (q : Int) = 1
    · refine ve q1 ?_
      have H := H.front (c := Ck.own lists f4 [r4] (pathOf l ((k : Int) - 1)))
      have H := H.front (c := Ck.own (bytes 5) f6 [.slice AL (leafOf (l[k - 1])).length cL] (leafOf (l[k - 1])))
      have hLo : (bytes 5).ow w8 f6 [.slice AL (leafOf (l[k - 1])).length cL] (leafOf (l[k - 1])) := H.ok _ (.head _)
      have hLlt : ∀ b ∈ f6, b < w8.heap.size := fun b hb => (H.lo b (List.mem_append_left _ hb)).2
      have hdis : ∀ b ∈ f6, b ∉ f4 := fun b hb hb4 => by
        have := H.nd
        simp only [fps, Ck.own_fp] at this
        exact (List.nodup_append.1 this).2.2 b hb b (List.mem_append_left _ hb4) rfl
      refine x_lst1B sl24 H rfl rfl fun f9 v9 w9 H hb9 => vs ?_
      have H := H.front (c := Ck.own lists f4 [r4] (pathOf l ((k : Int) - 1)))
      have H := H.front (c := Ck.own lists f9 [v9] [leafOf (l[k - 1])])
      refine x_appOC sl24 H rfl ?_ ?_ fun f10 v10 w10 H hchg => vs ?_
      · simp only [List.length_cons, List.length_nil]; omega
      · simp only [List.length_cons, List.length_nil]; omega
      have hL9 := Kd.own_mono _ hLo (w' := w9) fun b hb => hb9.block b (hLlt b hb)
      have hL10 := Kd.own_mono _ hL9 (w' := w10) fun b hb => hchg.block b (Nat.lt_of_lt_of_le (hLlt b hb) hb9.size) (hdis b hb)
      refine ⟨_, _, _, _, _, _, rfl, hLL, ?_, H.bel, Kd.own_rd _ hL10 fun b hb => Nat.lt_of_lt_of_le (hLlt b hb) (Nat.le_trans hb9.size hchg.size), H.own (.head _)⟩
      exact few_app hpf hLL
    refine ve q1 ?_
    by_cases q2 : (q : Int) = 2
    · refine ve q2 ?_
      refine x_lst H pl_i64 sl62 [-1, 0, 41, 9223372036854775807] (by simp) fun g9 w9 H => vs ?_
      refine x_call (l1PickInt_ok _ H hv hi4 (by simp)) fun _ w10 ⟨x, i5, h5, e, _, hx, hi5, H⟩ => ?_
      subst e
      refine vs ?_
      exact ⟨_, _, _, _, _, _, rfl, hLL, hpf, H.bel, H.own (d := bytes 5) (fp := f6) (cs := [.slice AL (leafOf (l[k - 1])).length cL]) (x := leafOf (l[k - 1])) (by simp), H.own (d := lists) (fp := f4) (cs := [r4]) (x := pathOf l ((k : Int) - 1)) (by simp)⟩
    refine ve q2 ?_
    exact ⟨_, _, _, _, _, _, rfl, hLL, hpf, H.bel, hLr, hPr⟩
  · obtain ⟨AL, cL, rfl, _⟩ := sl_open (H.own (.head _))
    refine ve qi ?_
    have hLL : b5.length ≤ 33 := by omega

    have H := H.front (c := curB g v i3 h3)
    refine x_call (l1Below_ok 6 H hv hi3) fun _ w8 ⟨q, i4, h4, e, hq, hi4, H⟩ => ?_
    subst e
    have hLr := H.own (d := bytes 5) (fp := f5) (cs := [.slice AL b5.length cL]) (x := b5) (by simp)
    have hPr := H.own (d := lists) (fp := f4) (cs := [r4]) (x := pathOf l ((k : Int) - 1)) (by simp)
    by_cases q0 : (q : Int) = 0
    · refine ve q0 ?_
      exact ⟨_, _, _, _, _, _, rfl, hLL, hpf, H.bel, hLr, hPr⟩
    refine ve q0 ?_
    by_cases q1 : (q : Int) = 1
    · refine ve q1 ?_
      have H := H.front (c := Ck.own lists f4 [r4] (pathOf l ((k : Int) - 1)))
      have H := H.front (c := Ck.own (bytes 5) f5 [.slice AL b5.length cL] (b5))
      have hLo : (bytes 5).ow w8 f5 [.slice AL b5.length cL] (b5) := H.ok _ (.head _)
      have hLlt : ∀ b ∈ f5, b < w8.heap.size := fun b hb => (H.lo b (List.mem_append_left _ hb)).2
      have hdis : ∀ b ∈ f5, b ∉ f4 := fun b hb hb4 => by
        have := H.nd
        simp only [fps, Ck.own_fp] at this
        exact (List.nodup_append.1 this).2.2 b hb b (List.mem_append_left _ hb4) rfl
      refine x_lst1B sl24 H rfl rfl fun f9 v9 w9 H hb9 => vs ?_
      have H := H.front (c := Ck.own lists f4 [r4] (pathOf l ((k : Int) - 1)))
      have H := H.front (c := Ck.own lists f9 [v9] [b5])
      refine x_appOC sl24 H rfl ?_ ?_ fun f10 v10 w10 H hchg => vs ?_
      · simp only [List.length_cons, List.length_nil]; omega
      · simp only [List.length_cons, List.length_nil]; omega
      have hL9 := Kd.own_mono _ hLo (w' := w9) fun b hb => hb9.block b (hLlt b hb)
      have hL10 := Kd.own_mono _ hL9 (w' := w10) fun b hb => hchg.block b (Nat.lt_of_lt_of_le (hLlt b hb) hb9.size) (hdis b hb)
      refine ⟨_, _, _, _, _, _, rfl, hLL, ?_, H.bel, Kd.own_rd _ hL10 fun b hb => Nat.lt_of_lt_of_le (hLlt b hb) (Nat.le_trans hb9.size hchg.size), H.own (.head _)⟩
      exact few_app hpf hLL
    refine ve q1 ?_
    by_cases q2 : (q : Int) = 2
    · refine ve q2 ?_
      refine x_lst H pl_i64 sl62 [-1, 0, 41, 9223372036854775807] (by simp) fun g9 w9 H => vs ?_
      refine x_call (l1PickInt_ok _ H hv hi4 (by simp)) fun _ w10 ⟨x, i5, h5, e, _, hx, hi5, H⟩ => ?_
      subst e
      refine vs ?_
      exact ⟨_, _, _, _, _, _, rfl, hLL, hpf, H.bel, H.own (d := bytes 5) (fp := f5) (cs := [.slice AL b5.length cL]) (x := b5) (by simp), H.own (d := lists) (fp := f4) (cs := [r4]) (x := pathOf l ((k : Int) - 1)) (by simp)⟩
    refine ve q2 ?_
    exact ⟨_, _, _, _, _, _, rfl, hLL, hpf, H.bel, hLr, hPr⟩
end Go.Proofs.Ytlkplnioaiahhaa.V
