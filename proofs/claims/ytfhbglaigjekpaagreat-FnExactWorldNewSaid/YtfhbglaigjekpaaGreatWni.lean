/- A new world: both sides. Laid by a program. -/
import Derived.Test.YtfhbglaigjekpaaGreatWnw
namespace Go.Proofs.YtfhbglaigjekpaaGreat.V
open Go Go.RowKit
set_option maxRecDepth 100000
set_option maxHeartbeats 4000000
set_option linter.unusedSimpArgs false
set_option linter.unusedVariables false
set_option pp.deepTerms false
set_option pp.deepTerms.threshold 3

theorem implWorldNew_ok (w : World) (v : Value) (a : List UInt8) (u : Value) (b : List UInt8) (h : (bytes 5).rd w w.heap.size [v] a) (h' : (bytes 5).rd w w.heap.size [u] b) (ha : a.length ≤ 1048576) (hb : b.length ≤ 1048576) :
    ACalls Tryz.prog 20 #[v, u] w fun r w' => ∃ cs fp, r = .tuple #[.agg cs.toArray, .bool (worldNew a b).2] ∧ Sep w.heap.size w w' [Ck.own kWorld fp cs (worldNew a b).1] := by
  have H := Sep.start w
  refine body_of follows Tryz.func20 rfl rfl _ rfl (by kernel_rfl) (vs ?_)
  refine x_al H st42 fun g4 w1 H => vs ?_
  refine x_callf H (cloneBy_ok w1 v a (H.rd h) (by omega)) fun r8 f8 w2 H => vs ?_
  refine x_callf H (cloneBy_ok w2 u b (H.rd h') (by omega)) fun r9 f9 w3 H => vs ?_
  obtain ⟨A8, c8, rfl, _⟩ := sl_open (H.own (.tail _ (.head _)))
  obtain ⟨A9, c9, rfl, _⟩ := sl_open (H.own (.head _))
  refine x_build bl38 [.slice A9 b.length c9, .int .i64 0, .slice none 0 0, .slice none 0 0] ?_
  refine vs ?_
  refine x_build bl42 [.slice A8 a.length c8, .int .i64 0, .int .i64 0, .slice none 0 0, .int .i64 0, .slice none 0 0, .int .i64 0, .slice A9 b.length c9, .int .i64 0, .slice none 0 0, .slice none 0 0, .slice none 0 0, .slice none 0 0] ?_
  refine vs ?_
  have H := ((H.nothing (d := Kd.slice 22 (bytes 5)) (sl_zero w3)).nothing (d := Kd.slice 22 (bytes 5)) (sl_zero w3)).front (h := .there (.there .here))
  obtain ⟨fr, H⟩ := ownReader (readerZ b) H zero_rg
  have H := H.front (c := Ck.own (bytes 5) f8 [.slice A8 a.length c8] a)
  obtain ⟨fw, H⟩ := ownW (r := readerZ b) H
  have H : Sep w.heap.size w w3 (Ck.own kWorld fw [.slice A8 a.length c8, .int .i64 0, .int .i64 0, .slice none 0 0, .int .i64 0, .slice none 0 0, .int .i64 0, .slice A9 b.length c9, .int .i64 0, .slice none 0 0, .slice none 0 0, .slice none 0 0, .slice none 0 0] (worldZ a b) :: _) := H
  refine x_al H st42 fun g6 w4 H => vs ?_
  refine x_sta H st42 (vs := [.slice A8 a.length c8, .int .i64 0, .int .i64 0, .slice none 0 0, .int .i64 0, .slice none 0 0, .int .i64 0, .slice A9 b.length c9, .int .i64 0, .slice none 0 0, .slice none 0 0, .slice none 0 0, .slice none 0 0]) (h1 := Kd.one _ (H.own (.tail _ (.head _)))) fun w5 H => vs ?_
  refine x_lda H st42 ?_
  refine vs ?_
  refine x_callb H (implWorldOk_ok _ _ (worldZ a b) (H.own (d := kWorld) (fp := fw) (cs := [.slice A8 a.length c8, .int .i64 0, .int .i64 0, .slice none 0 0, .int .i64 0, .slice none 0 0, .int .i64 0, .slice A9 b.length c9, .int .i64 0, .slice none 0 0, .slice none 0 0, .slice none 0 0, .slice none 0 0]) (x := (worldZ a b)) (by simp)) (smZ ha hb)) fun w9 H => ?_
  cases hok : worldOk (worldZ a b) with
  | false =>
    refine vs ?_
    refine x_build bl42 [.slice none 0 0, .int .i64 0, .int .i64 0, .slice none 0 0, .int .i64 0, .slice none 0 0, .int .i64 0, .slice none 0 0, .int .i64 0, .slice none 0 0, .slice none 0 0, .slice none 0 0, .slice none 0 0] ?_
    refine vs ?_
    have H := H.nothing (kWorld_zero w9)
    refine x_sta H st42 (vs := [.slice none 0 0, .int .i64 0, .int .i64 0, .slice none 0 0, .int .i64 0, .slice none 0 0, .int .i64 0, .slice none 0 0, .int .i64 0, .slice none 0 0, .slice none 0 0, .slice none 0 0, .slice none 0 0]) (h1 := Kd.one _ (H.own (.head _))) fun w10 H => vs ?_
    rw [worldNew_no hok]
    exact ⟨_, _, rfl, res_cell H st42 (g := g4), _, _, rfl, H.head⟩
  | true =>
    refine vs ?_
    refine x_lda H st42 ?_
    refine vs ?_
    refine x_sta H st42 (vs := [.slice A8 a.length c8, .int .i64 0, .int .i64 0, .slice none 0 0, .int .i64 0, .slice none 0 0, .int .i64 0, .slice A9 b.length c9, .int .i64 0, .slice none 0 0, .slice none 0 0, .slice none 0 0, .slice none 0 0]) (h1 := Kd.one _ (H.own (d := kWorld) (fp := fw) (cs := [.slice A8 a.length c8, .int .i64 0, .int .i64 0, .slice none 0 0, .int .i64 0, .slice none 0 0, .int .i64 0, .slice A9 b.length c9, .int .i64 0, .slice none 0 0, .slice none 0 0, .slice none 0 0, .slice none 0 0]) (x := (worldZ a b)) (by simp))) fun w10 H => vs ?_
    have H := H.front (c := Ck.own kWorld fw [.slice A8 a.length c8, .int .i64 0, .int .i64 0, .slice none 0 0, .int .i64 0, .slice none 0 0, .int .i64 0, .slice A9 b.length c9, .int .i64 0, .slice none 0 0, .slice none 0 0, .slice none 0 0, .slice none 0 0] (worldZ a b))
    rw [worldNew_yes hok]
    exact ⟨_, _, rfl, res_cell H st42 (g := g4), _, _, rfl, H.head⟩
end Go.Proofs.YtfhbglaigjekpaaGreat.V
