/- A new world: both sides. Laid by a program. -/
import Derived.Test.YtfhbglaigjekpaaGreatWwn
import Derived.Test.YtfhbglaigjekpaaGreatWxw
import Derived.Test.YtfhbglaigjekpaaGreatVh
namespace Go.Proofs.YtfhbglaigjekpaaGreat.V
open Go Go.RowKit
set_option maxRecDepth 100000
set_option maxHeartbeats 4000000
set_option linter.unusedSimpArgs false
set_option linter.unusedVariables false
set_option pp.deepTerms false
set_option pp.deepTerms.threshold 3

def readerZ (a : List UInt8) : MReader := ⟨a, 0, [], []⟩
noncomputable def readerNew (a : List UInt8) : MReader := if readerOk (readerZ a) = true then readerZ a else zReader

theorem specReaderNew_ok (w : World) (v : Value) (a : List UInt8) (h : (bytes 5).rd w w.heap.size [v] a) (hl : a.length ≤ 1099511627776) :
    ACalls Tryz.prog 77 #[v] w fun r w' => ∃ cs fp, r = .tuple #[.agg cs.toArray, .bool (readerOk (readerZ a))] ∧ Sep w.heap.size w w' [Ck.own kReader fp cs (readerNew a)] := by
  have H := Sep.start w
  refine body_of follows Tryz.func77 rfl rfl _ rfl (by kernel_rfl) (vs ?_)
  refine x_al H st38 fun g1 w1 H => vs ?_
  refine x_emp H pl_u8 sl22 fun g2 w1 H => vs ?_
  refine x_app H pl_u8 sl22 (H.rd h) ?_ ?_ fun f0 r0 w2 H => vs ?_
  · simp only [List.length_nil]; omega
  · simp only [List.length_nil]; omega
  obtain ⟨A0, c0, rfl, _⟩ := sl_open (H.own (.head _))
  refine x_build bl38 [_, .int .i64 0, .slice none 0 0, .slice none 0 0] ?_
  refine vs ?_
  have H := ((H.nothing (d := Kd.slice 22 (bytes 5)) (sl_zero w2)).nothing (d := Kd.slice 22 (bytes 5)) (sl_zero w2)).front (h := .there (.there .here))
  obtain ⟨fp, H⟩ := ownReader (readerZ a) H (by show (-9223372036854775808 : Int) ≤ 0 ∧ (0 : Int) < 9223372036854775808; decide)
  refine x_al H st38 fun g3 w3 H => vs ?_
  refine x_sta H st38 (h1 := Kd.one _ (H.own (.tail _ (.head _)))) fun w4 H => vs ?_
  refine x_lda H st38 ?_
  refine vs ?_
  refine x_callb H (specReaderOk_ok w4 _ _ (H.own (.tail _ (.head _)))) fun w5 H => ?_
  cases hok : readerOk (readerZ a) with
  | true =>
    refine vs ?_
    refine x_lda H st38 ?_
    refine vs ?_
    refine x_sta H st38 (h1 := Kd.one _ (H.own (.tail _ (.head _)))) fun w6 H => vs ?_
    have e : readerNew a = readerZ a := by unfold readerNew; rw [if_pos hok]
    rw [e]
    exact ⟨_, _, rfl, res_cell H st38, _, _, rfl, H.only⟩
  | false =>
    refine vs ?_
    refine x_build bl38 [.slice none 0 0, .int .i64 0, .slice none 0 0, .slice none 0 0] ?_
    refine vs ?_
    have H := H.nothing (kReader_zero w5)
    refine x_sta H st38 (h1 := Kd.one _ (H.own (.head _))) fun w6 H => vs ?_
    have e : readerNew a = zReader := by unfold readerNew; rw [if_neg (by rw [hok]; decide)]
    rw [e]
    exact ⟨_, _, rfl, res_cell H st38, _, _, rfl, H.head⟩

/-! ### the next epoch -/
def nextE (x : MReader) : MReader := { x with f_Epoch := w64 (x.f_Epoch + 1) }
noncomputable def nextOk (x : MReader) : Bool := readerOk x && readerOk (nextE x)
noncomputable def nextX (x : MReader) : MReader := if nextOk x = true then nextE x else x
def worldZ (a b : List UInt8) : MWorld := ⟨a, 0, 0, zPost, readerZ b, [], []⟩
noncomputable def worldY (a b : List UInt8) : MWorld := ⟨a, 0, 0, zPost, readerNew b, [], []⟩
noncomputable def worldNew (a b : List UInt8) : MWorld × Bool := if worldOk (worldZ a b) = true then (worldZ a b, true) else (zWorld, false)
theorem worldNew_yes {a b : List UInt8} (h : worldOk (worldZ a b) = true) : worldNew a b = (worldZ a b, true) := by unfold worldNew; rw [if_pos h]
theorem worldNew_no {a b : List UInt8} (h : worldOk (worldZ a b) = false) : worldNew a b = (zWorld, false) := by unfold worldNew; rw [if_neg (by rw [h]; decide)]
theorem zReader_bad : readerOk zReader = false := readerOk_false fun h => by have := h.1; cases this
theorem worldY_Z (a b : List UInt8) : worldOk (worldY a b) = worldOk (worldZ a b) := by
  cases h : readerOk (readerZ b) with
  | true =>
    have e : readerNew b = readerZ b := by unfold readerNew; rw [if_pos h]
    unfold worldY worldZ; rw [e]
  | false =>
    have e : readerNew b = zReader := by unfold readerNew; rw [if_neg (by rw [h]; decide)]
    have e1 := worldOk_no (x := worldY a b) fun hh => by
        have := hh.2.2.2.2.1
        rw [show (worldY a b).f_Reader = readerNew b from rfl, e, zReader_bad] at this; cases this
    have e2 := worldOk_no (x := worldZ a b) fun hh => by
        have := hh.2.2.2.2.1
        rw [show (worldZ a b).f_Reader = readerZ b from rfl, h] at this; cases this
    rw [e1, e2]
theorem worldY_ok {a b : List UInt8} (h : worldOk (worldZ a b) = true) : worldY a b = worldZ a b := by
  have h2 := (worldOk_iff.1 h).2.2.2.2.1
  have e : readerNew b = readerZ b := by unfold readerNew; rw [if_pos (show readerOk (readerZ b) = true from h2)]
  unfold worldY worldZ; rw [e]
theorem smZ {a b : List UInt8} (ha : a.length ≤ 1048576) (hb : b.length ≤ 1048576) : smWorld (worldZ a b) := by
  unfold smWorld worldZ smPost smReader smItemS smByteSS smWireS smSentS zPost readerZ
  refine ⟨ha, ⟨⟨by simp, by simp⟩, by simp⟩, ⟨hb, ⟨by simp, by simp⟩, ⟨by simp, by simp⟩⟩, ⟨by simp, by simp⟩, ⟨by simp, by simp⟩⟩
theorem smY {a b : List UInt8} (ha : a.length ≤ 1048576) (hb : b.length ≤ 1048576) : smWorld (worldY a b) := by
  have hr : smReader (readerNew b) := by
    unfold readerNew
    split
    · exact (smZ ha hb).2.2.1
    · unfold smReader zReader smByteSS; exact ⟨by simp, ⟨by simp, by simp⟩, ⟨by simp, by simp⟩⟩
  have hz := smZ ha hb
  exact ⟨hz.1, hz.2.1, hr, hz.2.2.2.1, hz.2.2.2.2⟩
theorem worldNew_sm {a b : List UInt8} (ha : a.length ≤ 1048576) (hb : b.length ≤ 1048576) : smWorld (worldNew a b).1 := by
  unfold worldNew
  split
  · exact smZ ha hb
  · have hz := smZ (a := []) (b := []) (Nat.zero_le _) (Nat.zero_le _)
    unfold smWorld zWorld smPost smReader smItemS smByteSS smWireS smSentS zPost zReader
    refine ⟨Nat.zero_le _, ⟨⟨by simp, by simp⟩, by simp⟩, ⟨Nat.zero_le _, ⟨by simp, by simp⟩, ⟨by simp, by simp⟩⟩, ⟨by simp, by simp⟩, ⟨by simp, by simp⟩⟩
theorem zero_rg : (-9223372036854775808 : Int) ≤ 0 ∧ (0 : Int) < 9223372036854775808 := by decide
theorem one4z {a b : Value} (ha : a.oneCell' = true) (hb : b.oneCell' = true) : ∀ v ∈ [a, .int .i64 0, b, .int .i64 0], v.oneCell' = true := by
  intro v hv
  simp only [List.mem_cons, List.not_mem_nil, or_false] at hv
  rcases hv with rfl | rfl | rfl | rfl
  · exact ha
  · rfl
  · exact hb
  · rfl
theorem specPostNewZ (w : World) : ACalls Tryz.prog 78 #[] w fun r w' => r = .agg #[.slice none 0 0, .int .i64 0, .slice none 0 0, .int .i64 0] ∧ Below w.heap.size w w' := by
  have H := Sep.start w
  refine body_of follows Tryz.func78 rfl rfl _ rfl (by kernel_rfl) (vs ?_)
  refine x_al H st37 fun g1 w1 H => vs ?_
  refine x_build bl37 [.slice none 0 0, .int .i64 0, .slice none 0 0, .int .i64 0] ?_
  refine vs ?_
  refine x_sta H st37 (vs := [.slice none 0 0, .int .i64 0, .slice none 0 0, .int .i64 0]) (h1 := one4z rfl rfl) fun w2 H => vs ?_
  exact ⟨_, _, rfl, res_cell H st37, rfl, H.bel⟩
/-- A world of its parts. -/
theorem ownW {n : Nat} {w0 w : World} {L : List Ck} {f0 f4 : List Nat} {v0 v4 v6 v7 : Value} {a : List UInt8} {r : MReader} (H : Sep n w0 w (Ck.own (bytes 5) f0 [v0] a :: Ck.own kReader f4 [v4, .int .i64 r.f_Epoch, v6, v7] r :: L)) :
    ∃ fp, Sep n w0 w (Ck.own kWorld fp [v0, .int .i64 0, .int .i64 0, .slice none 0 0, .int .i64 0, .slice none 0 0, .int .i64 0, v4, .int .i64 r.f_Epoch, v6, v7, .slice none 0 0, .slice none 0 0] ⟨a, 0, 0, zPost, r, [], []⟩ :: L) := by
  have H := H.nothing (d := sents) (sl_zero w)
  have H := H.nothing (d := wires) (sl_zero w)
  have H := H.front (c := Ck.own kReader f4 [v4, .int .i64 r.f_Epoch, v6, v7] r)
  have H := H.nothing (kPost_zero w)
  have H := H.front (c := Ck.own (bytes 5) f0 [v0] a)
  exact ownWorld (⟨a, 0, 0, zPost, r, [], []⟩ : MWorld) H zero_rg zero_rg
theorem one13 {a b c d : Value} {n : Int} (ha : a.oneCell' = true) (hb : b.oneCell' = true) (hc : c.oneCell' = true) (hd : d.oneCell' = true) : ∀ v ∈ [a, .int .i64 0, .int .i64 0, .slice none 0 0, .int .i64 0, .slice none 0 0, .int .i64 0, b, .int .i64 n, c, d, .slice none 0 0, .slice none 0 0], v.oneCell' = true := by
  intro v hv
  simp only [List.mem_cons, List.not_mem_nil, or_false] at hv
  rcases hv with rfl | rfl | rfl | rfl | rfl | rfl | rfl | rfl | rfl | rfl | rfl | rfl | rfl <;> first | rfl | assumption
end Go.Proofs.YtfhbglaigjekpaaGreat.V
