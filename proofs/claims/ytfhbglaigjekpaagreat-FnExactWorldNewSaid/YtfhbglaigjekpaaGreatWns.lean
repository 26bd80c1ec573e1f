/- A new world: both sides. Laid by a program. -/
import Derived.Test.YtfhbglaigjekpaaGreatWnw
namespace Go.Proofs.YtfhbglaigjekpaaGreat.V
open Go Go.RowKit
set_option maxRecDepth 100000
set_option maxHeartbeats 4000000
set_option linter.unusedSimpArgs false
set_option linter.unusedVariables false
set_option pp.deepTerms false
set_option pp.deepTerms.threshold 3

theorem specWorldNew_ok (w : World) (v : Value) (a : List UInt8) (u : Value) (b : List UInt8) (h : (bytes 5).rd w w.heap.size [v] a) (h' : (bytes 5).rd w w.heap.size [u] b) (ha : a.length ≤ 1048576) (hb : b.length ≤ 1048576) :
    ACalls Tryz.prog 18 #[v, u] w fun r w' => ∃ cs fp, r = .tuple #[.agg cs.toArray, .bool (worldNew a b).2] ∧ Sep w.heap.size w w' [Ck.own kWorld fp cs (worldNew a b).1] := by
  have H := Sep.start w
  refine body_of follows Tryz.func18 rfl rfl _ rfl (by kernel_rfl) (vs ?_)
  refine x_al H st42 fun g4 w1 H => vs ?_
  refine x_call (specReaderNew_ok w1 u b (H.rd h') (by omega)) fun _ w2 ⟨csr, fr, e, S⟩ => ?_
  subst e
  have H := H.join S
  simp only [List.cons_append, List.nil_append] at H
  obtain ⟨R, hR⟩ : ∃ R, R = readerNew b := ⟨_, rfl⟩
  rw [← hR] at H
  obtain ⟨v7, v9, v10, rfl, r7, _, r9, r10⟩ := kReader_open (H.own (d := kReader) (fp := fr) (cs := csr) (x := R) (by simp))
  have hone := Kd.one _ (H.own (d := kReader) (fp := fr) (cs := [v7, .int .i64 R.f_Epoch, v9, v10]) (x := R) (by simp))
  have o7 := hone v7 (by simp)
  have o9 := hone v9 (by simp)
  have o10 := hone v10 (by simp)
  refine vs ?_
  refine x_al H st38 fun g6 w3 H => vs ?_
  refine x_sta H st38 (vs := [v7, .int .i64 R.f_Epoch, v9, v10]) (h1 := hone) fun w4 H => vs ?_
  have H : Sep w.heap.size w w4 (Ck.box g6 [v7, .int .i64 R.f_Epoch, v9, v10] 38 :: _) := H
  refine cut_to (σ := Option Addr × Nat × Nat × List Nat) (fun y => [(4, .pointer (some ⟨g4, 0, none⟩)), (8, .pointer (some ⟨y.2.2.1, 0, none⟩))])
    (fun y w' => Sep w.heap.size w w' [Ck.box y.2.2.1 [.slice y.1 a.length y.2.1, .int .i64 0, .int .i64 0, .slice none 0 0, .int .i64 0, .slice none 0 0, .int .i64 0, v7, .int .i64 R.f_Epoch, v9, v10, .slice none 0 0, .slice none 0 0] 42, Ck.own kWorld y.2.2.2 [.slice y.1 a.length y.2.1, .int .i64 0, .int .i64 0, .slice none 0 0, .int .i64 0, .slice none 0 0, .int .i64 0, v7, .int .i64 R.f_Epoch, v9, v10, .slice none 0 0, .slice none 0 0] ⟨a, 0, 0, zPost, R, [], []⟩, Ck.box g4 [.slice none 0 0, .int .i64 0, .int .i64 0, .slice none 0 0, .int .i64 0, .slice none 0 0, .int .i64 0, .slice none 0 0, .int .i64 0, .slice none 0 0, .slice none 0 0, .slice none 0 0, .slice none 0 0] 42]) ?_ ?_
  · have J := Sep.start w4
    refine fork_draw w4.heap.size [] fun w5 hh hb5 => ?_
    have J := J.go (hb5 _)
    have J3 := J
    refine rest_pre [(1, true), (4, true)] 6 ?_
    refine vs ?_
    refine q_ldaB H J3 st38 ?_
    refine vs ?_
    refine rest_fork 0 6 5 ?_ ?_
    · refine vs ?_
      refine x_emp J pl_u8 sl22 fun g0 wb J => vs ?_
      refine ⟨kept_base J3 J, ?_⟩
      refine rest_fork 2 6 4 ?_ ?_
      · refine vs ?_
        refine x_app (l := []) J pl_u8 sl22 (J.rd (H.rd h)) ?_ ?_ fun f2 r2 wc J => vs ?_
        · simp only [List.length_nil]; omega
        · simp only [List.length_nil]; omega
        rw [List.nil_append] at J
        refine ⟨kept_base J3 J, ?_⟩
        have hm2 := J.own (d := bytes 5) (fp := f2) (cs := [r2]) (x := a) (by simp)
        obtain ⟨A2, c2, rfl, _⟩ := sl_open hm2
        refine rest_fork 3 6 3 ?_ ?_
        · refine vs ?_
          refine x_call (specPostNewZ _) fun _ wd ⟨e, hbd⟩ => ?_
          subst e
          have J := J.go hbd
          refine vs ?_
          refine ⟨kept_base J3 J, ?_⟩
          refine rest_end [(5, true), (6, false), (7, false)] ?_
          refine vs ?_
          refine q_bld bl42 [.slice A2 a.length c2, .int .i64 0, .int .i64 0, .slice none 0 0, .int .i64 0, .slice none 0 0, .int .i64 0, v7, .int .i64 R.f_Epoch, v9, v10, .slice none 0 0, .slice none 0 0] ?_ (by kernel_rfl)
          refine vs ?_
          refine x_al J st42 fun g8 we J => vs ?_
          refine ⟨kept_base J3 J, ?_⟩
          refine x_sta J st42 (vs := [.slice A2 a.length c2, .int .i64 0, .int .i64 0, .slice none 0 0, .int .i64 0, .slice none 0 0, .int .i64 0, v7, .int .i64 R.f_Epoch, v9, v10, .slice none 0 0, .slice none 0 0]) (h1 := one13 rfl o7 o9 o10) fun wf J => vs ?_
          refine ⟨kept_base J3 J, ?_⟩
          have H := H.join J
          simp only [List.cons_append, List.nil_append] at H
          have H := H.front (c := Ck.own kReader fr [v7, .int .i64 R.f_Epoch, v9, v10] R)
          have H := H.front (c := Ck.own (bytes 5) f2 [.slice A2 a.length c2] a)
          obtain ⟨fw, H⟩ := ownW (r := R) H
          have H : Sep w.heap.size w _ (Ck.own kWorld fw [.slice A2 a.length c2, .int .i64 0, .int .i64 0, .slice none 0 0, .int .i64 0, .slice none 0 0, .int .i64 0, v7, .int .i64 R.f_Epoch, v9, v10, .slice none 0 0, .slice none 0 0] ⟨a, 0, 0, zPost, R, [], []⟩ :: _) := H
          have H := H.front (c := Ck.box g4 [.slice none 0 0, .int .i64 0, .int .i64 0, .slice none 0 0, .int .i64 0, .slice none 0 0, .int .i64 0, .slice none 0 0, .int .i64 0, .slice none 0 0, .slice none 0 0, .slice none 0 0, .slice none 0 0] 42)
          have H := H.front (c := Ck.own kWorld fw [.slice A2 a.length c2, .int .i64 0, .int .i64 0, .slice none 0 0, .int .i64 0, .slice none 0 0, .int .i64 0, v7, .int .i64 R.f_Epoch, v9, v10, .slice none 0 0, .slice none 0 0] ⟨a, 0, 0, zPost, R, [], []⟩)
          have H := H.front (c := Ck.box g8 [.slice A2 a.length c2, .int .i64 0, .int .i64 0, .slice none 0 0, .int .i64 0, .slice none 0 0, .int .i64 0, v7, .int .i64 R.f_Epoch, v9, v10, .slice none 0 0, .slice none 0 0] 42)
          exact ⟨(A2, c2, g8, fw), vs trivial, Sep.left (L := [_, _, _]) H⟩
        · refine vs ?_
          refine x_al J st42 fun g8 we J => vs ?_
          refine ⟨kept_base J3 J, ?_⟩
          refine rest_end [(3, false), (5, true), (7, false)] ?_
          refine vs ?_
          refine x_call (specPostNewZ _) fun _ wd ⟨e, hbd⟩ => ?_
          subst e
          have J := J.go hbd
          refine vs ?_
          refine ⟨kept_base J3 J, ?_⟩
          refine q_bld bl42 [.slice A2 a.length c2, .int .i64 0, .int .i64 0, .slice none 0 0, .int .i64 0, .slice none 0 0, .int .i64 0, v7, .int .i64 R.f_Epoch, v9, v10, .slice none 0 0, .slice none 0 0] ?_ (by kernel_rfl)
          refine vs ?_
          refine x_sta J st42 (vs := [.slice A2 a.length c2, .int .i64 0, .int .i64 0, .slice none 0 0, .int .i64 0, .slice none 0 0, .int .i64 0, v7, .int .i64 R.f_Epoch, v9, v10, .slice none 0 0, .slice none 0 0]) (h1 := one13 rfl o7 o9 o10) fun wf J => vs ?_
          refine ⟨kept_base J3 J, ?_⟩
          have H := H.join J
          simp only [List.cons_append, List.nil_append] at H
          have H := H.front (c := Ck.own kReader fr [v7, .int .i64 R.f_Epoch, v9, v10] R)
          have H := H.front (c := Ck.own (bytes 5) f2 [.slice A2 a.length c2] a)
          obtain ⟨fw, H⟩ := ownW (r := R) H
          have H : Sep w.heap.size w _ (Ck.own kWorld fw [.slice A2 a.length c2, .int .i64 0, .int .i64 0, .slice none 0 0, .int .i64 0, .slice none 0 0, .int .i64 0, v7, .int .i64 R.f_Epoch, v9, v10, .slice none 0 0, .slice none 0 0] ⟨a, 0, 0, zPost, R, [], []⟩ :: _) := H
          have H := H.front (c := Ck.box g4 [.slice none 0 0, .int .i64 0, .int .i64 0, .slice none 0 0, .int .i64 0, .slice none 0 0, .int .i64 0, .slice none 0 0, .int .i64 0, .slice none 0 0, .slice none 0 0, .slice none 0 0, .slice none 0 0] 42)
          have H := H.front (c := Ck.own kWorld fw [.slice A2 a.length c2, .int .i64 0, .int .i64 0, .slice none 0 0, .int .i64 0, .slice none 0 0, .int .i64 0, v7, .int .i64 R.f_Epoch, v9, v10, .slice none 0 0, .slice none 0 0] ⟨a, 0, 0, zPost, R, [], []⟩)
          have H := H.front (c := Ck.box g8 [.slice A2 a.length c2, .int .i64 0, .int .i64 0, .slice none 0 0, .int .i64 0, .slice none 0 0, .int .i64 0, v7, .int .i64 R.f_Epoch, v9, v10, .slice none 0 0, .slice none 0 0] 42)
          exact ⟨(A2, c2, g8, fw), vs trivial, Sep.left (L := [_, _, _]) H⟩
      · refine vs ?_
        refine x_al J st42 fun g8 we J => vs ?_
        refine ⟨kept_base J3 J, ?_⟩
        refine rest_end [(2, false), (3, false), (5, true), (7, false)] ?_
        refine vs ?_
        refine x_app (l := []) J pl_u8 sl22 (J.rd (H.rd h)) ?_ ?_ fun f2 r2 wc J => vs ?_
        · simp only [List.length_nil]; omega
        · simp only [List.length_nil]; omega
        rw [List.nil_append] at J
        refine ⟨kept_base J3 J, ?_⟩
        have hm2 := J.own (d := bytes 5) (fp := f2) (cs := [r2]) (x := a) (by simp)
        obtain ⟨A2, c2, rfl, _⟩ := sl_open hm2
        refine x_call (specPostNewZ _) fun _ wd ⟨e, hbd⟩ => ?_
        subst e
        have J := J.go hbd
        refine vs ?_
        refine ⟨kept_base J3 J, ?_⟩
        refine q_bld bl42 [.slice A2 a.length c2, .int .i64 0, .int .i64 0, .slice none 0 0, .int .i64 0, .slice none 0 0, .int .i64 0, v7, .int .i64 R.f_Epoch, v9, v10, .slice none 0 0, .slice none 0 0] ?_ (by kernel_rfl)
        refine vs ?_
        refine x_sta J st42 (vs := [.slice A2 a.length c2, .int .i64 0, .int .i64 0, .slice none 0 0, .int .i64 0, .slice none 0 0, .int .i64 0, v7, .int .i64 R.f_Epoch, v9, v10, .slice none 0 0, .slice none 0 0]) (h1 := one13 rfl o7 o9 o10) fun wf J => vs ?_
        refine ⟨kept_base J3 J, ?_⟩
        have H := H.join J
        simp only [List.cons_append, List.nil_append] at H
        have H := H.front (c := Ck.own kReader fr [v7, .int .i64 R.f_Epoch, v9, v10] R)
        have H := H.front (c := Ck.own (bytes 5) f2 [.slice A2 a.length c2] a)
        obtain ⟨fw, H⟩ := ownW (r := R) H
        have H : Sep w.heap.size w _ (Ck.own kWorld fw [.slice A2 a.length c2, .int .i64 0, .int .i64 0, .slice none 0 0, .int .i64 0, .slice none 0 0, .int .i64 0, v7, .int .i64 R.f_Epoch, v9, v10, .slice none 0 0, .slice none 0 0] ⟨a, 0, 0, zPost, R, [], []⟩ :: _) := H
        have H := H.front (c := Ck.box g4 [.slice none 0 0, .int .i64 0, .int .i64 0, .slice none 0 0, .int .i64 0, .slice none 0 0, .int .i64 0, .slice none 0 0, .int .i64 0, .slice none 0 0, .slice none 0 0, .slice none 0 0, .slice none 0 0] 42)
        have H := H.front (c := Ck.own kWorld fw [.slice A2 a.length c2, .int .i64 0, .int .i64 0, .slice none 0 0, .int .i64 0, .slice none 0 0, .int .i64 0, v7, .int .i64 R.f_Epoch, v9, v10, .slice none 0 0, .slice none 0 0] ⟨a, 0, 0, zPost, R, [], []⟩)
        have H := H.front (c := Ck.box g8 [.slice A2 a.length c2, .int .i64 0, .int .i64 0, .slice none 0 0, .int .i64 0, .slice none 0 0, .int .i64 0, v7, .int .i64 R.f_Epoch, v9, v10, .slice none 0 0, .slice none 0 0] 42)
        exact ⟨(A2, c2, g8, fw), vs trivial, Sep.left (L := [_, _, _]) H⟩
    · refine vs ?_
      refine x_al J st42 fun g8 we J => vs ?_
      refine ⟨kept_base J3 J, ?_⟩
      refine rest_end [(0, false), (2, false), (3, false), (5, true), (7, false)] ?_
      refine vs ?_
      refine x_emp J pl_u8 sl22 fun g0 wb J => vs ?_
      refine ⟨kept_base J3 J, ?_⟩
      refine x_app (l := []) J pl_u8 sl22 (J.rd (H.rd h)) ?_ ?_ fun f2 r2 wc J => vs ?_
      · simp only [List.length_nil]; omega
      · simp only [List.length_nil]; omega
      rw [List.nil_append] at J
      refine ⟨kept_base J3 J, ?_⟩
      have hm2 := J.own (d := bytes 5) (fp := f2) (cs := [r2]) (x := a) (by simp)
      obtain ⟨A2, c2, rfl, _⟩ := sl_open hm2
      refine x_call (specPostNewZ _) fun _ wd ⟨e, hbd⟩ => ?_
      subst e
      have J := J.go hbd
      refine vs ?_
      refine ⟨kept_base J3 J, ?_⟩
      refine q_bld bl42 [.slice A2 a.length c2, .int .i64 0, .int .i64 0, .slice none 0 0, .int .i64 0, .slice none 0 0, .int .i64 0, v7, .int .i64 R.f_Epoch, v9, v10, .slice none 0 0, .slice none 0 0] ?_ (by kernel_rfl)
      refine vs ?_
      refine x_sta J st42 (vs := [.slice A2 a.length c2, .int .i64 0, .int .i64 0, .slice none 0 0, .int .i64 0, .slice none 0 0, .int .i64 0, v7, .int .i64 R.f_Epoch, v9, v10, .slice none 0 0, .slice none 0 0]) (h1 := one13 rfl o7 o9 o10) fun wf J => vs ?_
      refine ⟨kept_base J3 J, ?_⟩
      have H := H.join J
      simp only [List.cons_append, List.nil_append] at H
      have H := H.front (c := Ck.own kReader fr [v7, .int .i64 R.f_Epoch, v9, v10] R)
      have H := H.front (c := Ck.own (bytes 5) f2 [.slice A2 a.length c2] a)
      obtain ⟨fw, H⟩ := ownW (r := R) H
      have H : Sep w.heap.size w _ (Ck.own kWorld fw [.slice A2 a.length c2, .int .i64 0, .int .i64 0, .slice none 0 0, .int .i64 0, .slice none 0 0, .int .i64 0, v7, .int .i64 R.f_Epoch, v9, v10, .slice none 0 0, .slice none 0 0] ⟨a, 0, 0, zPost, R, [], []⟩ :: _) := H
      have H := H.front (c := Ck.box g4 [.slice none 0 0, .int .i64 0, .int .i64 0, .slice none 0 0, .int .i64 0, .slice none 0 0, .int .i64 0, .slice none 0 0, .int .i64 0, .slice none 0 0, .slice none 0 0, .slice none 0 0, .slice none 0 0] 42)
      have H := H.front (c := Ck.own kWorld fw [.slice A2 a.length c2, .int .i64 0, .int .i64 0, .slice none 0 0, .int .i64 0, .slice none 0 0, .int .i64 0, v7, .int .i64 R.f_Epoch, v9, v10, .slice none 0 0, .slice none 0 0] ⟨a, 0, 0, zPost, R, [], []⟩)
      have H := H.front (c := Ck.box g8 [.slice A2 a.length c2, .int .i64 0, .int .i64 0, .slice none 0 0, .int .i64 0, .slice none 0 0, .int .i64 0, v7, .int .i64 R.f_Epoch, v9, v10, .slice none 0 0, .slice none 0 0] 42)
      exact ⟨(A2, c2, g8, fw), vs trivial, Sep.left (L := [_, _, _]) H⟩
  rintro ⟨A2, c2, g8, fw⟩ s w6 H
  dsimp only at H
  rw [show (⟨a, 0, 0, zPost, R, [], []⟩ : MWorld) = worldY a b from by rw [hR]; rfl] at H
  refine vs ?_
  refine x_lda H st42 ?_
  refine vs ?_
  refine x_callb H (specWorldOk_ok _ _ (worldY a b) (H.own (d := kWorld) (fp := fw) (cs := [.slice A2 a.length c2, .int .i64 0, .int .i64 0, .slice none 0 0, .int .i64 0, .slice none 0 0, .int .i64 0, v7, .int .i64 R.f_Epoch, v9, v10, .slice none 0 0, .slice none 0 0]) (x := (worldY a b)) (by simp)) (smY ha hb)) fun w9 H => ?_
  rw [worldY_Z]
  cases hok : worldOk (worldZ a b) with
  | false =>
    refine vs ?_
    refine x_build bl42 [.slice none 0 0, .int .i64 0, .int .i64 0, .slice none 0 0, .int .i64 0, .slice none 0 0, .int .i64 0, .slice none 0 0, .int .i64 0, .slice none 0 0, .slice none 0 0, .slice none 0 0, .slice none 0 0] ?_
    refine vs ?_
    have H := H.nothing (kWorld_zero w9)
    refine x_sta H st42 (vs := [.slice none 0 0, .int .i64 0, .int .i64 0, .slice none 0 0, .int .i64 0, .slice none 0 0, .int .i64 0, .slice none 0 0, .int .i64 0, .slice none 0 0, .slice none 0 0, .slice none 0 0, .slice none 0 0]) (h1 := Kd.one _ (H.own (.head _))) fun w10 H => vs ?_
    rw [worldNew_no hok]
    exact ⟨_, _, rfl, res_cell H st42 (g := g4), _, _, rfl, H.head⟩
  | true =>
    refine vs ?_
    refine x_lda H st42 ?_
    refine vs ?_
    refine x_sta H st42 (vs := [.slice A2 a.length c2, .int .i64 0, .int .i64 0, .slice none 0 0, .int .i64 0, .slice none 0 0, .int .i64 0, v7, .int .i64 R.f_Epoch, v9, v10, .slice none 0 0, .slice none 0 0]) (h1 := Kd.one _ (H.own (d := kWorld) (fp := fw) (cs := [.slice A2 a.length c2, .int .i64 0, .int .i64 0, .slice none 0 0, .int .i64 0, .slice none 0 0, .int .i64 0, v7, .int .i64 R.f_Epoch, v9, v10, .slice none 0 0, .slice none 0 0]) (x := (worldY a b)) (by simp))) fun w10 H => vs ?_
    have H := H.front (c := Ck.own kWorld fw [.slice A2 a.length c2, .int .i64 0, .int .i64 0, .slice none 0 0, .int .i64 0, .slice none 0 0, .int .i64 0, v7, .int .i64 R.f_Epoch, v9, v10, .slice none 0 0, .slice none 0 0] (worldY a b))
    rw [worldNew_yes hok]
    have ey := worldY_ok hok
    rw [ey] at H
    exact ⟨_, _, rfl, res_cell H st42 (g := g4), _, _, rfl, H.head⟩
end Go.Proofs.YtfhbglaigjekpaaGreat.V
