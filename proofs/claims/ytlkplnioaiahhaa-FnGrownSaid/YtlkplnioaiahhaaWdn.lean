/- Draws for growths. -/
import Derived.Test.YtlkplnioaiahhaaWdi
import Derived.Test.YtlkplnioaiahhaaZ1
namespace Go.Proofs.Ytlkplnioaiahhaa.V
open Go Go.RowKit
set_option maxRecDepth 100000
set_option maxHeartbeats 4000000
set_option linter.unusedSimpArgs false
set_option linter.unusedVariables false
set_option pp.deepTerms false
set_option pp.deepTerms.threshold 3

theorem drawGrownOf_ok (w : World) (v : Value) (a : List UInt8) (hv : (bytes 5).rd w w.heap.size [v] a) :
    ACalls Try.prog 14 #[v] w fun r w' => ∃ (u : Value) (l : List (List UInt8)) (fp : List Nat) (i : Int), r = .tuple #[u, .int .i64 i] ∧ Drawn l ∧ (-1 ≤ i ∧ i ≤ 100) ∧ Sep w.heap.size w w' [Ck.own lists fp [u] l] := by
  refine body_of follows Try.func14 rfl rfl _ rfl (by kernel_rfl) (vs ?_)
  refine x_call (l1New_ok w v a hv) fun _ w1 ⟨g, i, h, e, hi, H⟩ => ?_
  subst e
  refine vs ?_
  refine x_call (l23DrawList_ok H hv hi) fun r w2 ⟨l, fp, i1, h1, hd, hi1, H⟩ => ?_
  have hl := hd.1
  obtain ⟨A, c, rfl, _⟩ := sl_open (H.own (.head _))
  refine ve (show w64 ((l.length : Int) + 3) = (l.length : Int) + 3 from w64_id (by omega) (by omega)) ?_
  have H := H.front (c := curB g v i1 h1)
  refine x_call (l1Below_ok ((l.length : Int) + 3) H hv hi1) fun _ w3 ⟨k, i2, h2, e, hk, hi2, H⟩ => ?_
  subst e
  refine ve (show w64 ((k : Int) - 1) = (k : Int) - 1 from w64_id (by omega) (by omega)) ?_
  exact ⟨_, _, _, _, rfl, hd, ⟨by omega, by omega⟩, H.tail⟩
theorem grownOf_few (l : List (List UInt8)) (m : Int) : (grownOf l m).length ≤ 1000 ∧ Few' (grownOf l m) := by
  have := grownOf_len l m
  exact ⟨by omega, fun a ha => by have := this.2 a ha; omega⟩
theorem few_init {p : List (List UInt8)} (h : Few' p) (k : Nat) : Few' (p.take k) := fun a ha => h a (List.mem_of_mem_take ha)

theorem drawGrownOk_ok (w : World) (v : Value) (a : List UInt8) (hv : (bytes 5).rd w w.heap.size [v] a) :
    ACalls Try.prog 16 #[v] w fun r w' => ∃ (v1 v2 v3 : Value) (old root : List UInt8) (p : List (List UInt8)) (m n : Int), r = .tuple #[v1, v2, .int .i64 m, .int .i64 n, v3] ∧ (old.length ≤ 33 ∧ root.length ≤ 33) ∧ Few' p ∧ Below w.heap.size w w' ∧ (bytes 5).rd w' w'.heap.size [v1] old ∧ (bytes 5).rd w' w'.heap.size [v2] root ∧ lists.rd w' w'.heap.size [v3] p := by
  refine body_of follows Try.func16 rfl rfl _ rfl (by kernel_rfl) (vs ?_)
  refine x_call (l1New_ok w v a hv) fun _ w1 ⟨g, i, h, e, hi, H⟩ => ?_
  subst e
  refine vs ?_
  refine x_call (l23DrawList_ok H hv hi) fun r1 w2 ⟨l, f1, i1, h1, hd, hi1, H⟩ => ?_
  have hl := hd.1
  obtain ⟨A, c, rfl, _⟩ := sl_open (H.own (.head _))
  refine ve (show w64 ((l.length : Int) + 1) = (l.length : Int) + 1 from w64_id (by omega) (by omega)) ?_
  have H := H.front (c := curB g v i1 h1)
  refine x_call (l1Below_ok ((l.length : Int) + 1) H hv hi1) fun _ w3 ⟨k, i2, h2, e, hk, hi2, H⟩ => ?_
  subst e
  have hkl : k ≤ l.length := by omega
  refine vs ?_
  refine x_callf H (specGrownOf_ok w3 _ l (k : Int) (H.own (.tail _ (.head _))) hd.few) fun r4 f4 w4 H => vs ?_
  obtain ⟨hp1, hp2⟩ := grownOf_few l (k : Int)
  obtain ⟨p, hpd⟩ : ∃ p, p = grownOf l (k : Int) := ⟨_, rfl⟩
  rw [← hpd] at H hp1 hp2
  obtain ⟨A4, c4, rfl, _⟩ := sl_open (H.own (.head _))
  refine x_to (wr := w4) sl24 rfl (H.own (d := lists) (fp := f1) (cs := [.slice A l.length c]) (x := l) (by simp)) hkl fun v5 hv5 => ?_
  refine vs ?_
  refine x_callf H (specRootOf_ok w4 v5 (l.take k) hv5 (hd.few.take k)) fun r6 f6 w5 H => vs ?_
  refine x_callf H (specRootOf_ok w5 _ l (H.own (d := lists) (fp := f1) (cs := [.slice A l.length c]) (x := l) (by simp)) hd.few) fun r7 f7 w6 H => vs ?_
  have ho : (rootOf (l.take k)).length ≤ 33 := by have := rootOf_len (l.take k); omega
  have hr : (rootOf l).length ≤ 33 := by have := rootOf_len l; omega
  obtain ⟨old, hod⟩ : ∃ x, x = rootOf (l.take k) := ⟨_, rfl⟩
  obtain ⟨root, hrd⟩ : ∃ x, x = rootOf l := ⟨_, rfl⟩
  rw [← hod] at H ho
  rw [← hrd] at H hr
  obtain ⟨A7, c7, rfl, _⟩ := sl_open (H.own (.head _))
  have H := H.front (c := curB g v i2 h2)
  refine x_call (l1Below_ok 6 H hv hi2) fun _ w7 ⟨q, i3, h3, e, hq, hi3, H⟩ => ?_
  subst e
  have Ro := H.own (d := bytes 5) (fp := f6) (cs := [r6]) (x := old) (by simp)
  have Rr := H.own (d := bytes 5) (fp := f7) (cs := [.slice A7 root.length c7]) (x := root) (by simp)
  have Rp := H.own (d := lists) (fp := f4) (cs := [.slice A4 p.length c4]) (x := p) (by simp)
  by_cases q0 : (q : Int) = 0
  · refine ve q0 ?_
    by_cases qp : 0 < (p.length : Int)
    · refine ve qp ?_
      refine ve (show w64 ((p.length : Int) - 1) = ((p.length - 1 : Nat) : Int) by rw [w64_id (by omega) (by omega)]; omega) ?_
      refine x_to (wr := w7) sl24 rfl Rp (hi := p.length - 1) (by omega) fun v8 hv8 => ?_
      refine vs ?_
      exact ⟨_, _, _, old, root, _, _, _, rfl, ⟨ho, hr⟩, few_init hp2 _, H.bel, Ro, Rr, hv8⟩
    · refine ve qp ?_
      exact ⟨_, _, _, old, root, p, _, _, rfl, ⟨ho, hr⟩, hp2, H.bel, Ro, Rr, Rp⟩
  refine ve q0 ?_
  by_cases q1 : (q : Int) = 1
  · refine ve q1 ?_
    have H := H.front (c := Ck.own lists f4 [.slice A4 p.length c4] p)
    have H := H.front (c := Ck.own (bytes 5) f7 [.slice A7 root.length c7] root)
    have hLo : (bytes 5).ow w7 f7 [.slice A7 root.length c7] root := H.ok _ (.head _)
    have hLlt : ∀ b ∈ f7, b < w7.heap.size := fun b hb => (H.lo b (List.mem_append_left _ hb)).2
    have hdis : ∀ b ∈ f7, b ∉ f4 := fun b hb hb4 => by
      have := H.nd
      simp only [fps, Ck.own_fp] at this
      exact (List.nodup_append.1 this).2.2 b hb b (List.mem_append_left _ hb4) rfl
    have hOo : (bytes 5).ow w7 f6 [r6] old := H.ok (Ck.own (bytes 5) f6 [r6] old) (by simp)
    have hOlt : ∀ b ∈ f6, b < w7.heap.size := fun b hb => (H.lo b (mem_fps (c := Ck.own (bytes 5) f6 [r6] old) hb (by simp))).2
    have H2 := H.front (c := Ck.own lists f4 [.slice A4 p.length c4] p)
    have H2 := H2.front (c := Ck.own (bytes 5) f6 [r6] old)
    have hdisO : ∀ b ∈ f6, b ∉ f4 := fun b hb hb4 => by
      have := H2.nd
      simp only [fps, Ck.own_fp] at this
      exact (List.nodup_append.1 this).2.2 b hb b (List.mem_append_left _ hb4) rfl
    refine x_lst1B sl24 H rfl rfl fun f9 v9 w9 H hb9 => vs ?_
    have H := H.front (c := Ck.own lists f4 [.slice A4 p.length c4] p)
    have H := H.front (c := Ck.own lists f9 [v9] [root])
    refine x_appOC sl24 H rfl ?_ ?_ fun f10 v10 w10 H hchg => vs ?_
    · simp only [List.length_cons, List.length_nil]; omega
    · simp only [List.length_cons, List.length_nil]; omega
    have hL9 := Kd.own_mono _ hLo (w' := w9) fun b hb => hb9.block b (hLlt b hb)
    have hL10 := Kd.own_mono _ hL9 (w' := w10) fun b hb => hchg.block b (Nat.lt_of_lt_of_le (hLlt b hb) hb9.size) (hdis b hb)
    have hO9 := Kd.own_mono _ hOo (w' := w9) fun b hb => hb9.block b (hOlt b hb)
    have hO10 := Kd.own_mono _ hO9 (w' := w10) fun b hb => hchg.block b (Nat.lt_of_lt_of_le (hOlt b hb) hb9.size) (hdisO b hb)
    exact ⟨_, _, _, old, root, _, _, _, rfl, ⟨ho, hr⟩, few_app hp2 hr, H.bel, Kd.own_rd _ hO10 fun b hb => Nat.lt_of_lt_of_le (hOlt b hb) (Nat.le_trans hb9.size hchg.size), Kd.own_rd _ hL10 fun b hb => Nat.lt_of_lt_of_le (hLlt b hb) (Nat.le_trans hb9.size hchg.size), H.own (.head _)⟩
  refine ve q1 ?_
  by_cases q2 : (q : Int) = 2
  · refine ve q2 ?_
    refine x_call (l1DrawNear_ok 32 H hv hi3 (by omega)) fun r8 w8 ⟨b8, f8, i4, h4, hb8, hi4, H⟩ => vs ?_
    exact ⟨_, _, _, b8, root, p, _, _, rfl, ⟨by omega, hr⟩, hp2, H.bel, H.own (.head _), H.own (d := bytes 5) (fp := f7) (cs := [.slice A7 root.length c7]) (x := root) (by simp), H.own (d := lists) (fp := f4) (cs := [.slice A4 p.length c4]) (x := p) (by simp)⟩
  refine ve q2 ?_
  by_cases q3 : (q : Int) = 3
  · refine ve q3 ?_
    refine x_call (l1Below_ok _ H hv hi3) fun _ w8 ⟨kk, i4, h4, e, hkk, hi4, H⟩ => ?_
    subst e
    refine vs ?_
    exact ⟨_, _, _, old, root, p, _, _, rfl, ⟨ho, hr⟩, hp2, H.bel, H.own (d := bytes 5) (fp := f6) (cs := [r6]) (x := old) (by simp), H.own (d := bytes 5) (fp := f7) (cs := [.slice A7 root.length c7]) (x := root) (by simp), H.own (d := lists) (fp := f4) (cs := [.slice A4 p.length c4]) (x := p) (by simp)⟩
  refine ve q3 ?_
  exact ⟨_, _, _, old, root, p, _, _, rfl, ⟨ho, hr⟩, hp2, H.bel, Ro, Rr, Rp⟩
end Go.Proofs.Ytlkplnioaiahhaa.V
