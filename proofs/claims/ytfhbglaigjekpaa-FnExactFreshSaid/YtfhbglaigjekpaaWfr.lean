/- The fresh bytes of a world: both sides. -/
import Derived.Test.YtfhbglaigjekpaaWx
import Derived.Test.YtfhbglaigjekpaaWmd
import Derived.Test.YtfhbglaigjekpaaWk
import Derived.Test.YtfhbglaigjekpaaWsb
import Derived.Test.YtfhbglaigjekpaaVh
namespace Go.Proofs.Ytfhbglaigjekpaa.V
open Go Go.RowKit
set_option maxRecDepth 100000
set_option maxHeartbeats 4000000
set_option linter.unusedSimpArgs false
set_option linter.unusedVariables false
set_option pp.deepTerms false
set_option pp.deepTerms.threshold 3

def freshW : List UInt8 := [102, 114, 101, 115, 104]
def named (word : List UInt8) (n : Int) : List UInt8 := word ++ greatB n 2
def freshB (x : MWorld) : List UInt8 := derive [] x.f_Seed (named freshW x.f_Count) 32
theorem implNamed_ok (w : World) (word : List UInt8) (n : Int) (hn : n < 9223372036854775808) (hw : word.length ≤ 1000) :
    ACalls Try.prog 26 #[.string ⟨word.toArray⟩, .int .i64 n] w fun r w' => ∃ fp, Sep w.heap.size w w' [Ck.own (bytes 5) fp [r] (named word n)] := by
  have H := Sep.start w
  refine body_of follows Try.func26 rfl rfl _ rfl (by kernel_rfl) (vs ?_)
  refine x_sbytes Try.underlying9 Try.underlying22 Try.underlying5 H (by omega) fun r0 w1 H hr0 => vs ?_
  have ej : [word, greatB n 2].flatten = named word n := by simp [named]
  have hg := greatB_len n 2
  have J := Sep.start w1
  refine x_callf J (implGreat_ok w1 n 2 hn) fun r1 f1 w2 J => vs ?_
  refine x_lstR (d := bytes 5) J sl26 rfl [_, _] [word, greatB n 2] ⟨J.rd hr0, J.own (.head _), trivial⟩ fun g7 w7 J hr => vs ?_
  have H := H.join J
  simp only [List.append_nil] at H
  refine x_callf H (joined_ok w7 _ _ hr (by rw [ej]; unfold named; rw [List.length_append]; omega)) fun r8 f8 w8 H => vs ?_
  rw [ej] at H
  exact ⟨_, H.head⟩
theorem implFresh_ok (w : World) (cs : List Value) (x : MWorld) (h : kWorld.rd w w.heap.size cs x) :
    ACalls Try.prog 7 #[.agg cs.toArray] w fun r w' => ∃ fp, Sep w.heap.size w w' [Ck.own (bytes 5) fp [r] (freshB x)] := by
  obtain ⟨v0, v3, v5, v7, v9, v10, v11, v12, rfl, h0, hC, hK, hP, hR, hN, hS⟩ := kWorld_open h
  have H := Sep.start w
  refine body_of follows Try.func7 rfl rfl _ rfl (by kernel_rfl) (vs ?_)
  refine x_bx H [v0, .int .i64 x.f_Count, .int .i64 x.f_Known, v3, .int .i64 x.f_Post.f_Time, v5, .int .i64 x.f_Post.f_Sure, v7, .int .i64 x.f_Reader.f_Epoch, v9, v10, v11, v12] fun g1 w1 H => vs ?_
  have J := Sep.start w1
  refine draw_of [(0, true), (1, true), (2, true), (3, true), (4, false), (5, false), (6, true)] w1.heap.size [] fun w2 hh hb2 => vs ?_
  have J := J.go (hb2 _)
  have J3 := J
  refine q_ldB H J3 sc22 ?_
  refine vs ?_
  refine q_ldB H J3 sc3 ?_
  refine vs ?_
  refine x_callf J (implNamed_ok w2 freshW x.f_Count hC.2 (by decide)) fun r3 f3 w3 J => vs ?_
  refine ⟨kept_base J3 J, ?_⟩
  refine x_callf J (implDerive_ok w3 _ [] _ x.f_Seed _ (named freshW x.f_Count) 32 (Kd.own_rd _ (sl_zero w3) (by simp)) (J.rd (H.rd h0)) (J.own (.head _))) fun r4 f4 w4 J => vs ?_
  refine ⟨kept_base J3 J, ?_⟩
  have H := H.join J
  exact ⟨_, H.head⟩
end Go.Proofs.Ytfhbglaigjekpaa.V
