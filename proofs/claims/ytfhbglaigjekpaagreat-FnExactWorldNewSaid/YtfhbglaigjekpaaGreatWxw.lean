/- What is marked in data of the program, and held, walked. Laid by a program. -/
import Derived.Test.YtfhbglaigjekpaaGreatWx
namespace Go.Proofs.YtfhbglaigjekpaaGreat.V
open Go Go.RowKit
set_option maxRecDepth 100000
set_option maxHeartbeats 4000000
set_option linter.unusedSimpArgs false
set_option linter.unusedVariables false
set_option pp.deepTerms false
set_option pp.deepTerms.threshold 3

/-! ### Reader -/
def totReader (x : MReader) : Nat := (x.f_Seed).length + totByteSS (x.f_Seen) + totByteSS (x.f_Got)
def mkReader (x : MReader) (k : Nat) : MReader := { x with f_Seed := mkB (x.f_Seed) (k), f_Seen := mkByteSS (x.f_Seen) (k + (x.f_Seed).length), f_Got := mkByteSS (x.f_Got) (k + (x.f_Seed).length + totByteSS (x.f_Seen)) }
theorem totReader_le {x : MReader} (h : smReader x) : totReader x ≤ 2199024304128 := by
  unfold smReader at h
  unfold totReader
  have q0 := h.1
  have q2 := totByteSS_le (h.2.1)
  have q3 := totByteSS_le (h.2.2)
  omega
theorem ownReader {n : Nat} {w0 w : World} {L : List Ck} {f0 f2 f3 : List Nat} {v0 v2 v3 : Value} (x : MReader) (H : Sep n w0 w (Ck.own (Kd.slice 5 Kd.u8) f0 [v0] x.f_Seed :: Ck.own (Kd.slice 22 (Kd.slice 5 Kd.u8)) f2 [v2] x.f_Seen :: Ck.own (Kd.slice 22 (Kd.slice 5 Kd.u8)) f3 [v3] x.f_Got :: L)) (r1 : -9223372036854775808 ≤ x.f_Epoch ∧ x.f_Epoch < 9223372036854775808) : ∃ fp, Sep n w0 w (Ck.own kReader fp [v0, .int .i64 x.f_Epoch, v2, v3] x :: L) := by
  have H := H.front (c := Ck.own (Kd.slice 22 (Kd.slice 5 Kd.u8)) f3 [v3] x.f_Got)
  have H := H.front (c := Ck.own (Kd.slice 22 (Kd.slice 5 Kd.u8)) f2 [v2] x.f_Seen)
  have H := H.pair
  have H := H.plain pl_i64 (x := x.f_Epoch) r1
  have H := H.pair
  have H := H.front (c := Ck.own (Kd.slice 5 Kd.u8) f0 [v0] x.f_Seed)
  have H := H.pair
  exact ⟨_, Sep.iso (y := x) (f := fun c : MReader => (c.f_Seed, c.f_Epoch, c.f_Seen, c.f_Got)) H⟩
theorem apartReader {n : Nat} {w0 w : World} {L : List Ck} {fp : List Nat} {cs : List Value} {x : MReader} (H : Sep n w0 w (Ck.own kReader fp cs x :: L)) : ∃ v0 v2 v3 f0 f2 f3, cs = [v0, .int .i64 x.f_Epoch, v2, v3] ∧ (-9223372036854775808 ≤ x.f_Epoch ∧ x.f_Epoch < 9223372036854775808) ∧ Sep n w0 w (Ck.own (Kd.slice 5 Kd.u8) f0 [v0] x.f_Seed :: Ck.own (Kd.slice 22 (Kd.slice 5 Kd.u8)) f2 [v2] x.f_Seen :: Ck.own (Kd.slice 22 (Kd.slice 5 Kd.u8)) f3 [v3] x.f_Got :: L) := by
  have H : Sep n w0 w (Ck.own (Kd.pair (Kd.slice 5 Kd.u8) (Kd.pair Kd.i64 (Kd.pair (Kd.slice 22 (Kd.slice 5 Kd.u8)) (Kd.slice 22 (Kd.slice 5 Kd.u8))))) fp cs (x.f_Seed, x.f_Epoch, x.f_Seen, x.f_Got) :: L) := H
  obtain ⟨f0, q0, c0, d0, rfl, _, H⟩ := H.unpair
  obtain ⟨v0, rfl⟩ := sl_one (H.own (d := (Kd.slice 5 Kd.u8)) (fp := f0) (cs := c0) (x := x.f_Seed) (.head _))
  have H : Sep n w0 w (Ck.own (Kd.pair Kd.i64 (Kd.pair (Kd.slice 22 (Kd.slice 5 Kd.u8)) (Kd.slice 22 (Kd.slice 5 Kd.u8)))) q0 d0 (x.f_Epoch, x.f_Seen, x.f_Got) :: _) := H.front (.there .here)
  obtain ⟨f1, q1, c1, d1, rfl, _, H⟩ := H.unpair
  obtain ⟨rfl, r1⟩ := (H.own (d := Kd.i64) (fp := f1) (cs := c1) (x := x.f_Epoch) (.head _))
  have H := H.tail
  have H : Sep n w0 w (Ck.own (Kd.pair (Kd.slice 22 (Kd.slice 5 Kd.u8)) (Kd.slice 22 (Kd.slice 5 Kd.u8))) q1 d1 (x.f_Seen, x.f_Got) :: _) := H
  obtain ⟨f2, q2, c2, d2, rfl, _, H⟩ := H.unpair
  obtain ⟨v2, rfl⟩ := sl_one (H.own (d := (Kd.slice 22 (Kd.slice 5 Kd.u8))) (fp := f2) (cs := c2) (x := x.f_Seen) (.head _))
  have H : Sep n w0 w (Ck.own (Kd.slice 22 (Kd.slice 5 Kd.u8)) q2 d2 x.f_Got :: _) := H.front (.there .here)
  obtain ⟨v3, rfl⟩ := sl_one (H.own (d := (Kd.slice 22 (Kd.slice 5 Kd.u8))) (fp := q2) (cs := d2) (x := x.f_Got) (.head _))
  have H := H.front (c := Ck.own (Kd.slice 22 (Kd.slice 5 Kd.u8)) q2 [v3] x.f_Got)
  have H := H.front (c := Ck.own (Kd.slice 22 (Kd.slice 5 Kd.u8)) f2 [v2] x.f_Seen)
  have H := H.front (c := Ck.own (Kd.slice 5 Kd.u8) f0 [v0] x.f_Seed)
  exact ⟨v0, v2, v3, f0, f2, q2, rfl, r1, H⟩
theorem markReader_ok {n : Nat} {w0 w : World} {M : List Ck} {fp : List Nat} {cs : List Value} {x : MReader} (H : Sep n w0 w (Ck.own kReader fp cs x :: M)) (k : Nat) (hk : k + totReader x ≤ 4611686018427387904) :
    ACalls Tryz.prog 81 #[.agg cs.toArray, .int .i64 (k : Int)] w fun r w' => r = .int .i64 ((k + totReader x : Nat) : Int) ∧ ∃ fp', Sep n w0 w' (Ck.own kReader fp' cs (mkReader x k) :: M) := by
  unfold totReader at hk
  have H : Sep n w0 w (Ck.own (Kd.pair (Kd.slice 5 Kd.u8) (Kd.pair Kd.i64 (Kd.pair (Kd.slice 22 (Kd.slice 5 Kd.u8)) (Kd.slice 22 (Kd.slice 5 Kd.u8))))) fp cs (x.f_Seed, x.f_Epoch, x.f_Seen, x.f_Got) :: M) := H
  obtain ⟨f0, q0, c0, d0, rfl, _, H⟩ := H.unpair
  have H : Sep n w0 w (Ck.own (Kd.pair Kd.i64 (Kd.pair (Kd.slice 22 (Kd.slice 5 Kd.u8)) (Kd.slice 22 (Kd.slice 5 Kd.u8)))) q0 d0 (x.f_Epoch, x.f_Seen, x.f_Got) :: _) := H.front (.there .here)
  obtain ⟨f1, q1, c1, d1, rfl, _, H⟩ := H.unpair
  have H : Sep n w0 w (Ck.own (Kd.pair (Kd.slice 22 (Kd.slice 5 Kd.u8)) (Kd.slice 22 (Kd.slice 5 Kd.u8))) q1 d1 (x.f_Seen, x.f_Got) :: _) := H.front (.there .here)
  obtain ⟨f2, q2, c2, d2, rfl, _, H⟩ := H.unpair
  have H : Sep n w0 w (Ck.own (Kd.slice 22 (Kd.slice 5 Kd.u8)) q2 d2 x.f_Got :: _) := H.front (.there .here)
  obtain ⟨v0, rfl⟩ := sl_one (H.own (d := (Kd.slice 5 Kd.u8)) (fp := f0) (cs := c0) (x := x.f_Seed) (.tail _ (.tail _ (.tail _ (.head _)))))
  obtain ⟨rfl, r1⟩ := (H.own (d := Kd.i64) (fp := f1) (cs := c1) (x := x.f_Epoch) (.tail _ (.tail _ (.head _))))
  obtain ⟨v2, rfl⟩ := sl_one (H.own (d := (Kd.slice 22 (Kd.slice 5 Kd.u8))) (fp := f2) (cs := c2) (x := x.f_Seen) (.tail _ (.head _)))
  obtain ⟨v3, rfl⟩ := sl_one (H.own (d := (Kd.slice 22 (Kd.slice 5 Kd.u8))) (fp := q2) (cs := d2) (x := x.f_Got) (.head _))
  refine body_of follows Tryz.func81 rfl rfl _ rfl (by kernel_rfl) (vs ?_)
  refine x_bx H [v0, .int .i64 x.f_Epoch, v2, v3] fun g w1 H => vs ?_
  refine x_ld H sc22 ?_
  refine vs ?_
  have H := H.front (c := Ck.own (Kd.slice 5 Kd.u8) f0 [v0] (x.f_Seed))
  refine x_call (markByteS_ok H (k) (by omega)) fun _ w2 ⟨e0, p0, H⟩ => ?_
  subst e0
  refine vs ?_
  refine x_ld H sc26 ?_
  refine vs ?_
  have H := H.front (c := Ck.own (Kd.slice 22 (Kd.slice 5 Kd.u8)) f2 [v2] (x.f_Seen))
  refine x_call (markByteSS_ok H (k + (x.f_Seed).length) (by omega)) fun _ w3 ⟨e2, p2, H⟩ => ?_
  subst e2
  refine vs ?_
  refine x_ld H sc26 ?_
  refine vs ?_
  have H := H.front (c := Ck.own (Kd.slice 22 (Kd.slice 5 Kd.u8)) q2 [v3] (x.f_Got))
  refine x_call (markByteSS_ok H (k + (x.f_Seed).length + totByteSS (x.f_Seen)) (by omega)) fun _ w4 ⟨e3, p3, H⟩ => ?_
  subst e3
  refine vs ?_
  have H := H.front (c := Ck.own (Kd.slice 22 (Kd.slice 5 Kd.u8)) p3 [v3] (mkByteSS (x.f_Got) (k + (x.f_Seed).length + totByteSS (x.f_Seen))))
  have H := H.front (c := Ck.own (Kd.slice 22 (Kd.slice 5 Kd.u8)) p2 [v2] (mkByteSS (x.f_Seen) (k + (x.f_Seed).length)))
  have H := H.pair
  have H := H.front (c := Ck.own Kd.i64 f1 [.int .i64 x.f_Epoch] (x.f_Epoch))
  have H := H.pair
  have H := H.front (c := Ck.own (Kd.slice 5 Kd.u8) p0 [v0] (mkB (x.f_Seed) (k)))
  have H := H.pair
  have H := Sep.iso (y := mkReader x k) (f := fun c : MReader => (c.f_Seed, c.f_Epoch, c.f_Seen, c.f_Got)) H
  exact ⟨i64_eq (by unfold totReader; omega), _, H.drop2⟩
theorem heldReader_ok (w : World) (cs : List Value) (x : MReader) (k : Nat) (h : kReader.rd w w.heap.size cs (mkReader x k)) (hk : k + totReader x ≤ 4611686018427387904) :
    ACalls Tryz.prog 86 #[.agg cs.toArray, .int .i64 (k : Int)] w fun r w' => r = .int .i64 ((k + totReader x : Nat) : Int) ∧ Below w.heap.size w w' := by
  unfold totReader at hk
  obtain ⟨v0, v2, v3, rfl, h0, h1, h2, h3⟩ := kReader_open h
  have H := Sep.start w
  refine body_of follows Tryz.func86 rfl rfl _ rfl (by kernel_rfl) (vs ?_)
  refine x_bx H [v0, .int .i64 (mkReader x k).f_Epoch, v2, v3] fun g w1 H => vs ?_
  refine x_ld H sc22 ?_
  refine vs ?_
  refine x_callw (heldByteS_ok w1 _ (x.f_Seed) (k) (H.rd h0) (by omega)) ?_
  have nn0 : ¬ ((k + (x.f_Seed).length : Nat) : Int) < 0 := by omega
  refine ve nn0 ?_
  refine x_ld H sc26 ?_
  refine vs ?_
  refine x_callb H (heldByteSS_ok w1 _ (x.f_Seen) (k + (x.f_Seed).length) (H.rd h2) (by omega)) fun w2 H => ?_
  have nn2 : ¬ ((k + (x.f_Seed).length + totByteSS (x.f_Seen) : Nat) : Int) < 0 := by omega
  refine ve nn2 ?_
  refine x_ld H sc26 ?_
  refine vs ?_
  refine x_callb H (heldByteSS_ok w2 _ (x.f_Got) (k + (x.f_Seed).length + totByteSS (x.f_Seen)) (H.rd h3) (by omega)) fun w3 H => ?_
  have nn3 : ¬ ((k + (x.f_Seed).length + totByteSS (x.f_Seen) + totByteSS (x.f_Got) : Nat) : Int) < 0 := by omega
  refine ve nn3 ?_
  exact ⟨i64_eq (by unfold totReader; omega), H.bel⟩

/-! ### Wire -/
def totWire (x : MWire) : Nat := totItem (x.f_Item) + (x.f_Bytes).length
def mkWire (x : MWire) (k : Nat) : MWire := { x with f_Item := mkItem (x.f_Item) (k), f_Bytes := mkB (x.f_Bytes) (k + totItem (x.f_Item)) }
theorem totWire_le {x : MWire} (h : smWire x) : totWire x ≤ 2097152 := by
  unfold smWire at h
  unfold totWire
  have q1 := totItem_le (h.1)
  have q2 := h.2
  omega
theorem ownWire {n : Nat} {w0 w : World} {L : List Ck} {f1 f2 : List Nat} {v1_3 v2 : Value} (x : MWire) (H : Sep n w0 w (Ck.own kItem f1 [.string ⟨(x.f_Item.f_Route).toArray⟩, .int .i64 x.f_Item.f_Topic, .int .i64 x.f_Item.f_Due, v1_3] x.f_Item :: Ck.own (Kd.slice 5 Kd.u8) f2 [v2] x.f_Bytes :: L)) (r0 : True) : ∃ fp, Sep n w0 w (Ck.own kWire fp [.bool x.f_ToPost, .string ⟨(x.f_Item.f_Route).toArray⟩, .int .i64 x.f_Item.f_Topic, .int .i64 x.f_Item.f_Due, v1_3, v2] x :: L) := by
  have H := H.front (c := Ck.own (Kd.slice 5 Kd.u8) f2 [v2] x.f_Bytes)
  have H := H.front (c := Ck.own kItem f1 [.string ⟨(x.f_Item.f_Route).toArray⟩, .int .i64 x.f_Item.f_Topic, .int .i64 x.f_Item.f_Due, v1_3] x.f_Item)
  have H := H.pair
  have H := H.plain pl_bool (x := x.f_ToPost) r0
  have H := H.pair
  exact ⟨_, Sep.iso (y := x) (f := fun c : MWire => (c.f_ToPost, c.f_Item, c.f_Bytes)) H⟩
theorem apartWire {n : Nat} {w0 w : World} {L : List Ck} {fp : List Nat} {cs : List Value} {x : MWire} (H : Sep n w0 w (Ck.own kWire fp cs x :: L)) : ∃ v1_3 v2 f1 f2, cs = [.bool x.f_ToPost, .string ⟨(x.f_Item.f_Route).toArray⟩, .int .i64 x.f_Item.f_Topic, .int .i64 x.f_Item.f_Due, v1_3, v2] ∧ (True) ∧ Sep n w0 w (Ck.own kItem f1 [.string ⟨(x.f_Item.f_Route).toArray⟩, .int .i64 x.f_Item.f_Topic, .int .i64 x.f_Item.f_Due, v1_3] x.f_Item :: Ck.own (Kd.slice 5 Kd.u8) f2 [v2] x.f_Bytes :: L) := by
  have H : Sep n w0 w (Ck.own (Kd.pair Kd.bool (Kd.pair kItem (Kd.slice 5 Kd.u8))) fp cs (x.f_ToPost, x.f_Item, x.f_Bytes) :: L) := H
  obtain ⟨f0, q0, c0, d0, rfl, _, H⟩ := H.unpair
  obtain ⟨rfl, r0⟩ := (H.own (d := Kd.bool) (fp := f0) (cs := c0) (x := x.f_ToPost) (.head _))
  have H := H.tail
  have H : Sep n w0 w (Ck.own (Kd.pair kItem (Kd.slice 5 Kd.u8)) q0 d0 (x.f_Item, x.f_Bytes) :: _) := H
  obtain ⟨f1, q1, c1, d1, rfl, _, H⟩ := H.unpair
  obtain ⟨v1_3, rfl, _⟩ := kItem_open (H.own (d := kItem) (fp := f1) (cs := c1) (x := x.f_Item) (.head _))
  have H : Sep n w0 w (Ck.own (Kd.slice 5 Kd.u8) q1 d1 x.f_Bytes :: _) := H.front (.there .here)
  obtain ⟨v2, rfl⟩ := sl_one (H.own (d := (Kd.slice 5 Kd.u8)) (fp := q1) (cs := d1) (x := x.f_Bytes) (.head _))
  have H := H.front (c := Ck.own (Kd.slice 5 Kd.u8) q1 [v2] x.f_Bytes)
  have H := H.front (c := Ck.own kItem f1 [.string ⟨(x.f_Item.f_Route).toArray⟩, .int .i64 x.f_Item.f_Topic, .int .i64 x.f_Item.f_Due, v1_3] x.f_Item)
  exact ⟨v1_3, v2, f1, q1, rfl, r0, H⟩

/-! ### lists of Wire -/
def toteWire (x : MWire) : Nat := 1 + 1 + 1 + 1 + (x.f_Item.f_Bytes).length + (x.f_Bytes).length
def mkeWire (x : MWire) (k : Nat) : MWire := { x with f_ToPost := decide ((k) % 3 = 0), f_Item := { x.f_Item with f_Route := mkText (k + 1), f_Topic := ((k + 1 + 1 : Nat) : Int), f_Due := ((k + 1 + 1 + 1 : Nat) : Int), f_Bytes := mkB (x.f_Item.f_Bytes) (k + 1 + 1 + 1 + 1) }, f_Bytes := mkB (x.f_Bytes) (k + 1 + 1 + 1 + 1 + (x.f_Item.f_Bytes).length) }
theorem toteWire_eq (x : MWire) : toteWire x = 1 + 1 + 1 + 1 + (x.f_Item.f_Bytes).length + (x.f_Bytes).length := rfl
def totWireS (l : List MWire) : Nat := totL toteWire l
def mkWireS (l : List MWire) (k : Nat) : List MWire := mkL mkeWire toteWire l k
theorem toteWire_le {x : MWire} (h : smWire x) : toteWire x ≤ 2097156 := by
  unfold smWire at h
  unfold toteWire
  have q0 := h.1.2
  have q1 := h.2
  omega
theorem totWireS_le {l : List MWire} (h : smWireS l) : totWireS l ≤ 2199027449856 := by
  refine Nat.le_trans (totL_le (B := 2097156) fun y hy => toteWire_le (h.2 y hy)) ?_
  have := h.1; omega
theorem markWireS_ok {n : Nat} {w0 w : World} {M : List Ck} {fp : List Nat} {v : Value} {l : List MWire} (H : Sep n w0 w (Ck.own (Kd.slice 88 kWire) fp [v] l :: M)) (k : Nat) (hk : k + totWireS l ≤ 4611686018427387904) :
    ACalls Tryz.prog 82 #[v, .int .i64 (k : Int)] w fun r w' => r = .int .i64 ((k + totWireS l : Nat) : Int) ∧ ∃ fp', Sep n w0 w' (Ck.own (Kd.slice 88 kWire) fp' [v] (mkWireS l k) :: M) := by
  unfold totWireS mkWireS at *
  obtain ⟨A, c, rfl, hA⟩ := own_val (show (Kd.slice 88 kWire).ow w fp [v] l from H.ok _ (.head _))
  have hlm := sl_len (H.own (.head _))
  refine body_of follows Tryz.func82 rfl rfl _ rfl (by kernel_rfl) (vs ?_)
  refine loop_at (σ := Nat × List Nat) (fun x => [(0, .slice A l.length c), (1, .int .i64 ((k + totL toteWire (l.take x.1) : Nat) : Int)), (5, .int .i64 (x.1 : Int))])
    (fun x w' => x.1 ≤ l.length ∧ Sep n w0 w' (Ck.own (Kd.slice 88 kWire) x.2 [.slice A l.length c] (mkL mkeWire toteWire (l.take x.1) k ++ l.drop x.1) :: M)) (fun x => l.length - x.1) (0, fp) (vs ?_) ⟨Nat.zero_le _, H⟩ ?_
  · rfl
  rintro ⟨i, fp⟩ s w2 ⟨hi, H⟩
  dsimp only at hi H
  refine vs (ways ?_ ?_)
  · refine vh fun hlt => ?_
    have hi2 : i < l.length := by omega
    obtain ⟨g, c2, pre, post, fpi, es, R, hv, hpre, H1, hes, close⟩ := H.openEl i (by simp [mkL_len]; omega)
    simp only [Value.slice.injEq] at hv
    obtain ⟨rfl, _, rfl⟩ := hv
    have H := H1
    rw [mk_at l k i hi2] at H
    have hb1 := totL_take_succ (tot := toteWire) l i hi2
    have hb2 := totL_take_le (tot := toteWire) l (i + 1)
    have hpre : pre.length = i * 6 := hpre
    have H := H.front (c := Ck.own kWire fpi es l[i]) (.there .here)
    have H : Sep n w0 _ (Ck.own (Kd.pair Kd.bool (Kd.pair kItem (Kd.slice 5 Kd.u8))) fpi es (l[i].f_ToPost, l[i].f_Item, l[i].f_Bytes) :: _) := H
    obtain ⟨f1, q1, c1, d1, rfl, _, H⟩ := H.unpair
    obtain ⟨rfl, r2⟩ := (H.own (d := Kd.bool) (fp := f1) (cs := c1) (x := l[i].f_ToPost) (.head _))
    have H := H.tail
    have H : Sep n w0 _ (Ck.own (Kd.pair kItem (Kd.slice 5 Kd.u8)) q1 d1 (l[i].f_Item, l[i].f_Bytes) :: _) := H
    obtain ⟨f3, q3, c3, d3, rfl, _, H⟩ := H.unpair
    have H : Sep n w0 _ (Ck.own (Kd.pair Kd.str (Kd.pair Kd.i64 (Kd.pair Kd.i64 (Kd.slice 5 Kd.u8)))) f3 c3 (l[i].f_Item.f_Route, l[i].f_Item.f_Topic, l[i].f_Item.f_Due, l[i].f_Item.f_Bytes) :: _) := H
    obtain ⟨f4, q4, c4, d4, rfl, _, H⟩ := H.unpair
    obtain ⟨rfl, r5⟩ := (H.own (d := Kd.str) (fp := f4) (cs := c4) (x := l[i].f_Item.f_Route) (.head _))
    have H := H.tail
    have H : Sep n w0 _ (Ck.own (Kd.pair Kd.i64 (Kd.pair Kd.i64 (Kd.slice 5 Kd.u8))) q4 d4 (l[i].f_Item.f_Topic, l[i].f_Item.f_Due, l[i].f_Item.f_Bytes) :: _) := H
    obtain ⟨f6, q6, c6, d6, rfl, _, H⟩ := H.unpair
    obtain ⟨rfl, r7⟩ := (H.own (d := Kd.i64) (fp := f6) (cs := c6) (x := l[i].f_Item.f_Topic) (.head _))
    have H := H.tail
    have H : Sep n w0 _ (Ck.own (Kd.pair Kd.i64 (Kd.slice 5 Kd.u8)) q6 d6 (l[i].f_Item.f_Due, l[i].f_Item.f_Bytes) :: _) := H
    obtain ⟨f8, q8, c8, d8, rfl, _, H⟩ := H.unpair
    obtain ⟨rfl, r9⟩ := (H.own (d := Kd.i64) (fp := f8) (cs := c8) (x := l[i].f_Item.f_Due) (.head _))
    have H := H.tail
    have H : Sep n w0 _ (Ck.own (Kd.slice 5 Kd.u8) q8 d8 l[i].f_Item.f_Bytes :: _) := H
    obtain ⟨u10, rfl⟩ := sl_one (H.own (d := (Kd.slice 5 Kd.u8)) (fp := q8) (cs := d8) (x := l[i].f_Item.f_Bytes) (.head _))
    have H : Sep n w0 _ (Ck.own (Kd.slice 5 Kd.u8) q3 d3 l[i].f_Bytes :: _) := H.front (.there (.here))
    obtain ⟨u11, rfl⟩ := sl_one (H.own (d := (Kd.slice 5 Kd.u8)) (fp := q3) (cs := d3) (x := l[i].f_Bytes) (.head _))
    have H := H.front (c := Ck.box g (pre ++ [.bool l[i].f_ToPost, .string ⟨(l[i].f_Item.f_Route).toArray⟩, .int .i64 l[i].f_Item.f_Topic, .int .i64 l[i].f_Item.f_Due, u10, u11] ++ post) 88)
    rw [toteWire_eq l[i]] at hb1
    refine x_rem (b := 3) ?_
    refine ve (And.intro (show (((k + totL toteWire (l.take i) : Nat) : Int)).tmod 3 = (((k + totL toteWire (l.take i)) % 3 : Nat) : Int) from rfl) (show ((((k + totL toteWire (l.take i)) % 3 : Nat) : Int) = 0) = ((k + totL toteWire (l.take i)) % 3 = 0) from propext ⟨fun h => by omega, fun h => by omega⟩)) ?_
    refine x_index sl39 rfl (by omega) hlt (vs ?_)
    refine x_stE (j := 0) (v := .bool (decide ((k + totL toteWire (l.take i)) % 3 = 0))) H sc4 fun w3 H => ?_
    have H : Sep n w0 w3 (Ck.box g (pre ++ [.bool (decide ((k + totL toteWire (l.take i)) % 3 = 0)), .string ⟨(l[i].f_Item.f_Route).toArray⟩, .int .i64 l[i].f_Item.f_Topic, .int .i64 l[i].f_Item.f_Due, u10, u11] ++ post) 88 :: _) := H.front
    have ek0 : w64 (((k + totL toteWire (l.take i) : Nat) : Int) + 1) = ((k + totL toteWire (l.take i) + 1 : Nat) : Int) := by unfold w64; omega
    refine ve ek0 ?_
    clear ek0
    refine x_callb H (markText_ok _ (k + totL toteWire (l.take i) + 1) (by omega)) fun w4 H => vs ?_
    refine x_index sl39 rfl (by omega) hlt (vs ?_)
    refine x_stE (j := 1) (v := .string ⟨(mkText (k + totL toteWire (l.take i) + 1)).toArray⟩) H sc9 fun w5 H => ?_
    have H : Sep n w0 w5 (Ck.box g (pre ++ [.bool (decide ((k + totL toteWire (l.take i)) % 3 = 0)), .string ⟨(mkText (k + totL toteWire (l.take i) + 1)).toArray⟩, .int .i64 l[i].f_Item.f_Topic, .int .i64 l[i].f_Item.f_Due, u10, u11] ++ post) 88 :: _) := H.front
    have ek1 : w64 (((k + totL toteWire (l.take i) + 1 : Nat) : Int) + 1) = ((k + totL toteWire (l.take i) + 1 + 1 : Nat) : Int) := by unfold w64; omega
    refine ve ek1 ?_
    clear ek1
    refine x_index sl39 rfl (by omega) hlt (vs ?_)
    refine x_stE (j := 2) (v := .int .i64 ((k + totL toteWire (l.take i) + 1 + 1 : Nat) : Int)) H sc3 fun w6 H => ?_
    have H : Sep n w0 w6 (Ck.box g (pre ++ [.bool (decide ((k + totL toteWire (l.take i)) % 3 = 0)), .string ⟨(mkText (k + totL toteWire (l.take i) + 1)).toArray⟩, .int .i64 ((k + totL toteWire (l.take i) + 1 + 1 : Nat) : Int), .int .i64 l[i].f_Item.f_Due, u10, u11] ++ post) 88 :: _) := H.front
    have ek2 : w64 (((k + totL toteWire (l.take i) + 1 + 1 : Nat) : Int) + 1) = ((k + totL toteWire (l.take i) + 1 + 1 + 1 : Nat) : Int) := by unfold w64; omega
    refine ve ek2 ?_
    clear ek2
    refine x_index sl39 rfl (by omega) hlt (vs ?_)
    refine x_stE (j := 3) (v := .int .i64 ((k + totL toteWire (l.take i) + 1 + 1 + 1 : Nat) : Int)) H sc3 fun w7 H => ?_
    have H : Sep n w0 w7 (Ck.box g (pre ++ [.bool (decide ((k + totL toteWire (l.take i)) % 3 = 0)), .string ⟨(mkText (k + totL toteWire (l.take i) + 1)).toArray⟩, .int .i64 ((k + totL toteWire (l.take i) + 1 + 1 : Nat) : Int), .int .i64 ((k + totL toteWire (l.take i) + 1 + 1 + 1 : Nat) : Int), u10, u11] ++ post) 88 :: _) := H.front
    have ek3 : w64 (((k + totL toteWire (l.take i) + 1 + 1 + 1 : Nat) : Int) + 1) = ((k + totL toteWire (l.take i) + 1 + 1 + 1 + 1 : Nat) : Int) := by unfold w64; omega
    refine ve ek3 ?_
    clear ek3
    refine x_index sl39 rfl (by omega) hlt (vs ?_)
    refine x_ldE (j := 4) H sc22 ?_
    refine vs ?_
    have H := H.front (c := Ck.own (Kd.slice 5 Kd.u8) q8 [u10] l[i].f_Item.f_Bytes)
    refine x_call (markByteS_ok H (k + totL toteWire (l.take i) + 1 + 1 + 1 + 1) (by omega)) fun _ w8 ⟨e4, p4, H⟩ => ?_
    subst e4
    refine vs ?_
    refine x_index sl39 rfl (by omega) hlt (vs ?_)
    refine x_ldE (j := 5) H sc22 ?_
    refine vs ?_
    have H := H.front (c := Ck.own (Kd.slice 5 Kd.u8) q3 [u11] l[i].f_Bytes)
    refine x_call (markByteS_ok H (k + totL toteWire (l.take i) + 1 + 1 + 1 + 1 + (l[i].f_Item.f_Bytes).length) (by omega)) fun _ w9 ⟨e5, p5, H⟩ => ?_
    subst e5
    refine vs ?_
    have H := H.front (c := Ck.own (Kd.slice 5 Kd.u8) p5 [u11] (mkB (l[i].f_Bytes) (k + totL toteWire (l.take i) + 1 + 1 + 1 + 1 + (l[i].f_Item.f_Bytes).length)))
    have H := H.front (c := Ck.own (Kd.slice 5 Kd.u8) p4 [u10] (mkB (l[i].f_Item.f_Bytes) (k + totL toteWire (l.take i) + 1 + 1 + 1 + 1)))
    have H := Sep.plain pl_i64 (x := ((k + totL toteWire (l.take i) + 1 + 1 + 1 : Nat) : Int)) H (by constructor <;> omega)
    have H := H.pair
    have H := Sep.plain pl_i64 (x := ((k + totL toteWire (l.take i) + 1 + 1 : Nat) : Int)) H (by constructor <;> omega)
    have H := H.pair
    have H := Sep.plain pl_str (x := mkText (k + totL toteWire (l.take i) + 1)) H (mkText_len _ (by omega))
    have H := H.pair
    have H := Sep.iso (y := (mkeWire l[i] (k + totL toteWire (l.take i))).f_Item) (f := fun c : MItem => (c.f_Route, c.f_Topic, c.f_Due, c.f_Bytes)) H
    have H := H.pair
    have H := Sep.plain pl_bool (x := decide ((k + totL toteWire (l.take i)) % 3 = 0)) H trivial
    have H := H.pair
    have H := Sep.iso (y := (mkeWire l[i] (k + totL toteWire (l.take i)))) (f := fun c : MWire => (c.f_ToPost, c.f_Item, c.f_Bytes)) H
    have H := H.front (c := Ck.box g (pre ++ [.bool (decide ((k + totL toteWire (l.take i)) % 3 = 0)), .string ⟨(mkText (k + totL toteWire (l.take i) + 1)).toArray⟩, .int .i64 ((k + totL toteWire (l.take i) + 1 + 1 : Nat) : Int), .int .i64 ((k + totL toteWire (l.take i) + 1 + 1 + 1 : Nat) : Int), u10, u11] ++ post) 88)
    obtain ⟨f9, H⟩ := close H
    rw [mk_step l k i hi2] at H
    have hb3 : totL toteWire (l.take (i + 1)) = totL toteWire (l.take i) + toteWire l[i] := totL_take_succ l i hi2
    rw [toteWire_eq l[i]] at hb3
    exact ⟨(i + 1, f9), ⟨i64_eq (by show ((_ : Nat) : Int) = ((k + totL toteWire (l.take (i + 1)) : Nat) : Int); omega), i64_eq (by show w64 ((i : Int) + 1) = ((i + 1 : Nat) : Int); unfold w64; omega)⟩, ⟨hi2, H⟩, by show l.length - (i + 1) < l.length - i; omega⟩
  · refine vh fun hlt => ?_
    obtain rfl : i = l.length := by omega
    rw [List.take_length, List.drop_length, List.append_nil] at H
    rw [List.take_length]
    exact ⟨rfl, fp, H⟩
theorem heldWireS_ok (w : World) (v : Value) (l : List MWire) (k : Nat) (h : (Kd.slice 88 kWire).rd w w.heap.size [v] (mkWireS l k)) (hk : k + totWireS l ≤ 4611686018427387904) :
    ACalls Tryz.prog 87 #[v, .int .i64 (k : Int)] w fun r w' => r = .int .i64 ((k + totWireS l : Nat) : Int) ∧ Below w.heap.size w w' := by
  unfold totWireS mkWireS at *
  have hlm := sl_len h
  have hlen := mkL_len (mk := mkeWire) (tot := toteWire) l k
  obtain ⟨A, c, rfl, hc1, hc2, ha⟩ := sl_open h
  refine body_of follows Tryz.func87 rfl rfl _ rfl (by kernel_rfl) (vs ?_)
  refine loop_at (σ := Nat) (fun i => [(0, .slice A (mkL mkeWire toteWire l k).length c), (1, .int .i64 ((k + totL toteWire (l.take i) : Nat) : Int)), (5, .int .i64 (i : Int))])
    (fun i w' => i ≤ l.length ∧ Sep w.heap.size w w' []) (fun i => l.length - i) 0 (vs ?_) ⟨Nat.zero_le _, Sep.start w⟩ ?_
  · rfl
  rintro i s w2 ⟨hi, H⟩
  refine vs (ways ?_ ?_)
  · refine vh fun hlt => ?_
    have hi2 : i < l.length := by omega
    have hi3 : i < (mkL mkeWire toteWire l k).length := by omega
    have hb1 := totL_take_succ (tot := toteWire) l i hi2
    have hb2 := totL_take_le (tot := toteWire) l (i + 1)
    rw [toteWire_eq l[i]] at hb1
    obtain ⟨had, _, es, hr, hc0⟩ := ha i hi3
    rw [mkL_get] at hr
    have hr0 := hr
    obtain ⟨u1_3, u2, rfl, uh0, uh1, uh2⟩ := kWire_open hr
    obtain ⟨uz1_3, ezu1, uz1h0, uz1h1, uz1h2, uz1h3⟩ := kItem_open uh1
    simp only [List.cons.injEq, and_true, true_and] at ezu1
    obtain rfl := ezu1
    refine x_ele H sl39 rfl i hi3 ha rfl fun ad0 es0 hb0 hr0 hc0 => vs ?_
    rw [mkL_get] at hr0
    obtain ⟨y0_1_3, y0_2, rfl, y0h0, y0h1, y0h2⟩ := kWire_open hr0
    refine x_lf0 (v := .bool (decide ((k + totL toteWire (l.take i)) % 3 = 0))) sc4 hc0 (by decide) rfl ?_
    refine vs ?_
    refine x_rem (b := 3) ?_
    refine ve (And.intro (show (((k + totL toteWire (l.take i) : Nat) : Int)).tmod 3 = (((k + totL toteWire (l.take i)) % 3 : Nat) : Int) from rfl) (show ((((k + totL toteWire (l.take i)) % 3 : Nat) : Int) = 0) = ((k + totL toteWire (l.take i)) % 3 = 0) from propext ⟨fun h => by omega, fun h => by omega⟩)) ?_
    have ek0 : w64 (((k + totL toteWire (l.take i) : Nat) : Int) + 1) = ((k + totL toteWire (l.take i) + 1 : Nat) : Int) := by unfold w64; omega
    refine ve ek0 ?_
    clear ek0
    refine draw_of [(0, true), (1, true), (2, true), (3, true), (4, true), (5, true), (6, true), (7, false), (8, true)] w.heap.size [] fun w3 hh1 hb9 => vs ?_
    have H := H.go (hb9 _)
    have H3 := H
    refine q_ele H sl39 rfl i hi3 ha rfl fun ad1 es1 hb1 hr1 hc1 => vs ?_
    rw [mkL_get] at hr1
    obtain ⟨y1_1_3, y1_2, rfl, y1h0, y1h1, y1h2⟩ := kWire_open hr1
    first | rw [Kd.add_add] | skip
    refine q_lfj (v := .string ⟨(mkText (k + totL toteWire (l.take i) + 1)).toArray⟩) sc9 hc1 (by decide) hb1 rfl ?_
    refine vs ?_
    refine x_callb H (markText_ok _ (k + totL toteWire (l.take i) + 1) (by omega)) fun w4 H => ?_
    refine ⟨kept_base H3 H, ?_⟩
    have ek1 : w64 (((k + totL toteWire (l.take i) + 1 : Nat) : Int) + 1) = ((k + totL toteWire (l.take i) + 1 + 1 : Nat) : Int) := by unfold w64; omega
    refine ve ek1 ?_
    clear ek1
    refine x_ele H sl39 rfl i hi3 ha rfl fun ad2 es2 hb2 hr2 hc2 => vs ?_
    rw [mkL_get] at hr2
    obtain ⟨y2_1_3, y2_2, rfl, y2h0, y2h1, y2h2⟩ := kWire_open hr2
    first | rw [Kd.add_add] | skip
    refine x_lfj (v := .int .i64 ((k + totL toteWire (l.take i) + 1 + 1 : Nat) : Int)) sc3 hc2 (by decide) rfl ?_
    have ek2 : w64 (((k + totL toteWire (l.take i) + 1 + 1 : Nat) : Int) + 1) = ((k + totL toteWire (l.take i) + 1 + 1 + 1 : Nat) : Int) := by unfold w64; omega
    refine ve ek2 ?_
    clear ek2
    refine x_ele H sl39 rfl i hi3 ha rfl fun ad3 es3 hb3 hr3 hc3 => vs ?_
    rw [mkL_get] at hr3
    obtain ⟨y3_1_3, y3_2, rfl, y3h0, y3h1, y3h2⟩ := kWire_open hr3
    first | rw [Kd.add_add] | skip
    refine x_lfj (v := .int .i64 ((k + totL toteWire (l.take i) + 1 + 1 + 1 : Nat) : Int)) sc3 hc3 (by decide) rfl ?_
    have ek3 : w64 (((k + totL toteWire (l.take i) + 1 + 1 + 1 : Nat) : Int) + 1) = ((k + totL toteWire (l.take i) + 1 + 1 + 1 + 1 : Nat) : Int) := by unfold w64; omega
    refine ve ek3 ?_
    clear ek3
    refine x_ele H sl39 rfl i hi3 ha rfl fun ad4 es4 hb4 hr4 hc4 => vs ?_
    rw [mkL_get] at hr4
    obtain ⟨y4_1_3, y4_2, rfl, y4h0, y4h1, y4h2⟩ := kWire_open hr4
    first | rw [Kd.add_add] | skip
    refine x_lfj sc22 hc4 (by decide) rfl ?_
    refine vs ?_
    obtain ⟨z4_3, ez4, z4h0, z4h1, z4h2, z4h3⟩ := kItem_open y4h1
    simp only [List.cons.injEq, and_true, true_and] at ez4
    obtain rfl := ez4
    refine x_callw (heldByteS_ok w4 _ (l[i].f_Item.f_Bytes) (k + totL toteWire (l.take i) + 1 + 1 + 1 + 1) (H.rd z4h3) (by omega)) ?_
    have nn4 : ¬ ((k + totL toteWire (l.take i) + 1 + 1 + 1 + 1 + (l[i].f_Item.f_Bytes).length : Nat) : Int) < 0 := by omega
    refine ve nn4 ?_
    refine x_ele H sl39 rfl i hi3 ha rfl fun ad5 es5 hb5 hr5 hc5 => vs ?_
    rw [mkL_get] at hr5
    obtain ⟨y5_1_3, y5_2, rfl, y5h0, y5h1, y5h2⟩ := kWire_open hr5
    refine x_lfj sc22 hc5 (by decide) rfl ?_
    refine vs ?_
    refine x_callw (heldByteS_ok w4 _ (l[i].f_Bytes) (k + totL toteWire (l.take i) + 1 + 1 + 1 + 1 + (l[i].f_Item.f_Bytes).length) (H.rd y5h2) (by omega)) ?_
    have nn5 : ¬ ((k + totL toteWire (l.take i) + 1 + 1 + 1 + 1 + (l[i].f_Item.f_Bytes).length + (l[i].f_Bytes).length : Nat) : Int) < 0 := by omega
    refine ve nn5 ?_
    have hb3 : totL toteWire (l.take (i + 1)) = totL toteWire (l.take i) + toteWire l[i] := totL_take_succ l i hi2
    rw [toteWire_eq l[i]] at hb3
    exact ⟨i + 1, ⟨i64_eq (by omega), i64_eq (by unfold w64; omega)⟩, ⟨hi2, H⟩, by omega⟩
  · refine vh fun hlt => ?_
    obtain rfl : i = l.length := by omega
    rw [List.take_length]
    exact ⟨rfl, H.bel⟩

/-! ### Sent -/
def totSent (x : MSent) : Nat := (x.f_Note).length + (x.f_Bytes).length
def mkSent (x : MSent) (k : Nat) : MSent := { x with f_Note := mkB (x.f_Note) (k), f_Bytes := mkB (x.f_Bytes) (k + (x.f_Note).length) }
theorem totSent_le {x : MSent} (h : smSent x) : totSent x ≤ 2097152 := by
  unfold smSent at h
  unfold totSent
  have q2 := h.2.1
  have q3 := h.2.2
  omega
theorem ownSent {n : Nat} {w0 w : World} {L : List Ck} {f2 f3 : List Nat} {v2 v3 : Value} (x : MSent) (H : Sep n w0 w (Ck.own (Kd.slice 5 Kd.u8) f2 [v2] x.f_Note :: Ck.own (Kd.slice 5 Kd.u8) f3 [v3] x.f_Bytes :: L)) (r0 : (x.f_Route).length ≤ 9223372036854775807) (r1 : -9223372036854775808 ≤ x.f_Epoch ∧ x.f_Epoch < 9223372036854775808) : ∃ fp, Sep n w0 w (Ck.own kSent fp [.string ⟨(x.f_Route).toArray⟩, .int .i64 x.f_Epoch, v2, v3] x :: L) := by
  have H := H.front (c := Ck.own (Kd.slice 5 Kd.u8) f3 [v3] x.f_Bytes)
  have H := H.front (c := Ck.own (Kd.slice 5 Kd.u8) f2 [v2] x.f_Note)
  have H := H.pair
  have H := H.plain pl_i64 (x := x.f_Epoch) r1
  have H := H.pair
  have H := H.plain pl_str (x := x.f_Route) r0
  have H := H.pair
  exact ⟨_, Sep.iso (y := x) (f := fun c : MSent => (c.f_Route, c.f_Epoch, c.f_Note, c.f_Bytes)) H⟩
theorem apartSent {n : Nat} {w0 w : World} {L : List Ck} {fp : List Nat} {cs : List Value} {x : MSent} (H : Sep n w0 w (Ck.own kSent fp cs x :: L)) : ∃ v2 v3 f2 f3, cs = [.string ⟨(x.f_Route).toArray⟩, .int .i64 x.f_Epoch, v2, v3] ∧ ((x.f_Route).length ≤ 9223372036854775807) ∧ (-9223372036854775808 ≤ x.f_Epoch ∧ x.f_Epoch < 9223372036854775808) ∧ Sep n w0 w (Ck.own (Kd.slice 5 Kd.u8) f2 [v2] x.f_Note :: Ck.own (Kd.slice 5 Kd.u8) f3 [v3] x.f_Bytes :: L) := by
  have H : Sep n w0 w (Ck.own (Kd.pair Kd.str (Kd.pair Kd.i64 (Kd.pair (Kd.slice 5 Kd.u8) (Kd.slice 5 Kd.u8)))) fp cs (x.f_Route, x.f_Epoch, x.f_Note, x.f_Bytes) :: L) := H
  obtain ⟨f0, q0, c0, d0, rfl, _, H⟩ := H.unpair
  obtain ⟨rfl, r0⟩ := (H.own (d := Kd.str) (fp := f0) (cs := c0) (x := x.f_Route) (.head _))
  have H := H.tail
  have H : Sep n w0 w (Ck.own (Kd.pair Kd.i64 (Kd.pair (Kd.slice 5 Kd.u8) (Kd.slice 5 Kd.u8))) q0 d0 (x.f_Epoch, x.f_Note, x.f_Bytes) :: _) := H
  obtain ⟨f1, q1, c1, d1, rfl, _, H⟩ := H.unpair
  obtain ⟨rfl, r1⟩ := (H.own (d := Kd.i64) (fp := f1) (cs := c1) (x := x.f_Epoch) (.head _))
  have H := H.tail
  have H : Sep n w0 w (Ck.own (Kd.pair (Kd.slice 5 Kd.u8) (Kd.slice 5 Kd.u8)) q1 d1 (x.f_Note, x.f_Bytes) :: _) := H
  obtain ⟨f2, q2, c2, d2, rfl, _, H⟩ := H.unpair
  obtain ⟨v2, rfl⟩ := sl_one (H.own (d := (Kd.slice 5 Kd.u8)) (fp := f2) (cs := c2) (x := x.f_Note) (.head _))
  have H : Sep n w0 w (Ck.own (Kd.slice 5 Kd.u8) q2 d2 x.f_Bytes :: _) := H.front (.there .here)
  obtain ⟨v3, rfl⟩ := sl_one (H.own (d := (Kd.slice 5 Kd.u8)) (fp := q2) (cs := d2) (x := x.f_Bytes) (.head _))
  have H := H.front (c := Ck.own (Kd.slice 5 Kd.u8) q2 [v3] x.f_Bytes)
  have H := H.front (c := Ck.own (Kd.slice 5 Kd.u8) f2 [v2] x.f_Note)
  exact ⟨v2, v3, f2, q2, rfl, r0, r1, H⟩

/-! ### lists of Sent -/
def toteSent (x : MSent) : Nat := 1 + 1 + (x.f_Note).length + (x.f_Bytes).length
def mkeSent (x : MSent) (k : Nat) : MSent := { x with f_Route := mkText (k), f_Epoch := ((k + 1 : Nat) : Int), f_Note := mkB (x.f_Note) (k + 1 + 1), f_Bytes := mkB (x.f_Bytes) (k + 1 + 1 + (x.f_Note).length) }
theorem toteSent_eq (x : MSent) : toteSent x = 1 + 1 + (x.f_Note).length + (x.f_Bytes).length := rfl
def totSentS (l : List MSent) : Nat := totL toteSent l
def mkSentS (l : List MSent) (k : Nat) : List MSent := mkL mkeSent toteSent l k
theorem toteSent_le {x : MSent} (h : smSent x) : toteSent x ≤ 2097154 := by
  unfold smSent at h
  unfold toteSent
  have q0 := h.2.1
  have q1 := h.2.2
  omega
theorem totSentS_le {l : List MSent} (h : smSentS l) : totSentS l ≤ 2199025352704 := by
  refine Nat.le_trans (totL_le (B := 2097154) fun y hy => toteSent_le (h.2 y hy)) ?_
  have := h.1; omega
theorem markSentS_ok {n : Nat} {w0 w : World} {M : List Ck} {fp : List Nat} {v : Value} {l : List MSent} (H : Sep n w0 w (Ck.own (Kd.slice 78 kSent) fp [v] l :: M)) (k : Nat) (hk : k + totSentS l ≤ 4611686018427387904) :
    ACalls Tryz.prog 83 #[v, .int .i64 (k : Int)] w fun r w' => r = .int .i64 ((k + totSentS l : Nat) : Int) ∧ ∃ fp', Sep n w0 w' (Ck.own (Kd.slice 78 kSent) fp' [v] (mkSentS l k) :: M) := by
  unfold totSentS mkSentS at *
  obtain ⟨A, c, rfl, hA⟩ := own_val (show (Kd.slice 78 kSent).ow w fp [v] l from H.ok _ (.head _))
  have hlm := sl_len (H.own (.head _))
  refine body_of follows Tryz.func83 rfl rfl _ rfl (by kernel_rfl) (vs ?_)
  refine loop_at (σ := Nat × List Nat) (fun x => [(0, .slice A l.length c), (1, .int .i64 ((k + totL toteSent (l.take x.1) : Nat) : Int)), (5, .int .i64 (x.1 : Int))])
    (fun x w' => x.1 ≤ l.length ∧ Sep n w0 w' (Ck.own (Kd.slice 78 kSent) x.2 [.slice A l.length c] (mkL mkeSent toteSent (l.take x.1) k ++ l.drop x.1) :: M)) (fun x => l.length - x.1) (0, fp) (vs ?_) ⟨Nat.zero_le _, H⟩ ?_
  · rfl
  rintro ⟨i, fp⟩ s w2 ⟨hi, H⟩
  dsimp only at hi H
  refine vs (ways ?_ ?_)
  · refine vh fun hlt => ?_
    have hi2 : i < l.length := by omega
    obtain ⟨g, c2, pre, post, fpi, es, R, hv, hpre, H1, hes, close⟩ := H.openEl i (by simp [mkL_len]; omega)
    simp only [Value.slice.injEq] at hv
    obtain ⟨rfl, _, rfl⟩ := hv
    have H := H1
    rw [mk_at l k i hi2] at H
    have hb1 := totL_take_succ (tot := toteSent) l i hi2
    have hb2 := totL_take_le (tot := toteSent) l (i + 1)
    have hpre : pre.length = i * 4 := hpre
    have H := H.front (c := Ck.own kSent fpi es l[i]) (.there .here)
    have H : Sep n w0 _ (Ck.own (Kd.pair Kd.str (Kd.pair Kd.i64 (Kd.pair (Kd.slice 5 Kd.u8) (Kd.slice 5 Kd.u8)))) fpi es (l[i].f_Route, l[i].f_Epoch, l[i].f_Note, l[i].f_Bytes) :: _) := H
    obtain ⟨f1, q1, c1, d1, rfl, _, H⟩ := H.unpair
    obtain ⟨rfl, r2⟩ := (H.own (d := Kd.str) (fp := f1) (cs := c1) (x := l[i].f_Route) (.head _))
    have H := H.tail
    have H : Sep n w0 _ (Ck.own (Kd.pair Kd.i64 (Kd.pair (Kd.slice 5 Kd.u8) (Kd.slice 5 Kd.u8))) q1 d1 (l[i].f_Epoch, l[i].f_Note, l[i].f_Bytes) :: _) := H
    obtain ⟨f3, q3, c3, d3, rfl, _, H⟩ := H.unpair
    obtain ⟨rfl, r4⟩ := (H.own (d := Kd.i64) (fp := f3) (cs := c3) (x := l[i].f_Epoch) (.head _))
    have H := H.tail
    have H : Sep n w0 _ (Ck.own (Kd.pair (Kd.slice 5 Kd.u8) (Kd.slice 5 Kd.u8)) q3 d3 (l[i].f_Note, l[i].f_Bytes) :: _) := H
    obtain ⟨f5, q5, c5, d5, rfl, _, H⟩ := H.unpair
    obtain ⟨u6, rfl⟩ := sl_one (H.own (d := (Kd.slice 5 Kd.u8)) (fp := f5) (cs := c5) (x := l[i].f_Note) (.head _))
    have H : Sep n w0 _ (Ck.own (Kd.slice 5 Kd.u8) q5 d5 l[i].f_Bytes :: _) := H.front (.there .here)
    obtain ⟨u7, rfl⟩ := sl_one (H.own (d := (Kd.slice 5 Kd.u8)) (fp := q5) (cs := d5) (x := l[i].f_Bytes) (.head _))
    have H := H.front (c := Ck.box g (pre ++ [.string ⟨(l[i].f_Route).toArray⟩, .int .i64 l[i].f_Epoch, u6, u7] ++ post) 78)
    rw [toteSent_eq l[i]] at hb1
    refine x_callb H (markText_ok _ (k + totL toteSent (l.take i)) (by omega)) fun w3 H => vs ?_
    refine x_index sl40 rfl (by omega) hlt (vs ?_)
    refine x_stE (j := 0) (v := .string ⟨(mkText (k + totL toteSent (l.take i))).toArray⟩) H sc9 fun w4 H => ?_
    have H : Sep n w0 w4 (Ck.box g (pre ++ [.string ⟨(mkText (k + totL toteSent (l.take i))).toArray⟩, .int .i64 l[i].f_Epoch, u6, u7] ++ post) 78 :: _) := H.front
    have ek0 : w64 (((k + totL toteSent (l.take i) : Nat) : Int) + 1) = ((k + totL toteSent (l.take i) + 1 : Nat) : Int) := by unfold w64; omega
    refine ve ek0 ?_
    clear ek0
    refine x_index sl40 rfl (by omega) hlt (vs ?_)
    refine x_stE (j := 1) (v := .int .i64 ((k + totL toteSent (l.take i) + 1 : Nat) : Int)) H sc3 fun w5 H => ?_
    have H : Sep n w0 w5 (Ck.box g (pre ++ [.string ⟨(mkText (k + totL toteSent (l.take i))).toArray⟩, .int .i64 ((k + totL toteSent (l.take i) + 1 : Nat) : Int), u6, u7] ++ post) 78 :: _) := H.front
    have ek1 : w64 (((k + totL toteSent (l.take i) + 1 : Nat) : Int) + 1) = ((k + totL toteSent (l.take i) + 1 + 1 : Nat) : Int) := by unfold w64; omega
    refine ve ek1 ?_
    clear ek1
    refine x_index sl40 rfl (by omega) hlt (vs ?_)
    refine x_ldE (j := 2) H sc22 ?_
    refine vs ?_
    have H := H.front (c := Ck.own (Kd.slice 5 Kd.u8) f5 [u6] l[i].f_Note)
    refine x_call (markByteS_ok H (k + totL toteSent (l.take i) + 1 + 1) (by omega)) fun _ w6 ⟨e2, p2, H⟩ => ?_
    subst e2
    refine vs ?_
    refine x_index sl40 rfl (by omega) hlt (vs ?_)
    refine x_ldE (j := 3) H sc22 ?_
    refine vs ?_
    have H := H.front (c := Ck.own (Kd.slice 5 Kd.u8) q5 [u7] l[i].f_Bytes)
    refine x_call (markByteS_ok H (k + totL toteSent (l.take i) + 1 + 1 + (l[i].f_Note).length) (by omega)) fun _ w7 ⟨e3, p3, H⟩ => ?_
    subst e3
    refine vs ?_
    have H := H.front (c := Ck.own (Kd.slice 5 Kd.u8) p3 [u7] (mkB (l[i].f_Bytes) (k + totL toteSent (l.take i) + 1 + 1 + (l[i].f_Note).length)))
    have H := H.front (c := Ck.own (Kd.slice 5 Kd.u8) p2 [u6] (mkB (l[i].f_Note) (k + totL toteSent (l.take i) + 1 + 1)))
    have H := H.pair
    have H := Sep.plain pl_i64 (x := ((k + totL toteSent (l.take i) + 1 : Nat) : Int)) H (by constructor <;> omega)
    have H := H.pair
    have H := Sep.plain pl_str (x := mkText (k + totL toteSent (l.take i))) H (mkText_len _ (by omega))
    have H := H.pair
    have H := Sep.iso (y := (mkeSent l[i] (k + totL toteSent (l.take i)))) (f := fun c : MSent => (c.f_Route, c.f_Epoch, c.f_Note, c.f_Bytes)) H
    have H := H.front (c := Ck.box g (pre ++ [.string ⟨(mkText (k + totL toteSent (l.take i))).toArray⟩, .int .i64 ((k + totL toteSent (l.take i) + 1 : Nat) : Int), u6, u7] ++ post) 78)
    obtain ⟨f9, H⟩ := close H
    rw [mk_step l k i hi2] at H
    have hb3 : totL toteSent (l.take (i + 1)) = totL toteSent (l.take i) + toteSent l[i] := totL_take_succ l i hi2
    rw [toteSent_eq l[i]] at hb3
    exact ⟨(i + 1, f9), ⟨i64_eq (by show ((_ : Nat) : Int) = ((k + totL toteSent (l.take (i + 1)) : Nat) : Int); omega), i64_eq (by show w64 ((i : Int) + 1) = ((i + 1 : Nat) : Int); unfold w64; omega)⟩, ⟨hi2, H⟩, by show l.length - (i + 1) < l.length - i; omega⟩
  · refine vh fun hlt => ?_
    obtain rfl : i = l.length := by omega
    rw [List.take_length, List.drop_length, List.append_nil] at H
    rw [List.take_length]
    exact ⟨rfl, fp, H⟩
theorem heldSentS_ok (w : World) (v : Value) (l : List MSent) (k : Nat) (h : (Kd.slice 78 kSent).rd w w.heap.size [v] (mkSentS l k)) (hk : k + totSentS l ≤ 4611686018427387904) :
    ACalls Tryz.prog 88 #[v, .int .i64 (k : Int)] w fun r w' => r = .int .i64 ((k + totSentS l : Nat) : Int) ∧ Below w.heap.size w w' := by
  unfold totSentS mkSentS at *
  have hlm := sl_len h
  have hlen := mkL_len (mk := mkeSent) (tot := toteSent) l k
  obtain ⟨A, c, rfl, hc1, hc2, ha⟩ := sl_open h
  refine body_of follows Tryz.func88 rfl rfl _ rfl (by kernel_rfl) (vs ?_)
  refine loop_at (σ := Nat) (fun i => [(0, .slice A (mkL mkeSent toteSent l k).length c), (1, .int .i64 ((k + totL toteSent (l.take i) : Nat) : Int)), (5, .int .i64 (i : Int))])
    (fun i w' => i ≤ l.length ∧ Sep w.heap.size w w' []) (fun i => l.length - i) 0 (vs ?_) ⟨Nat.zero_le _, Sep.start w⟩ ?_
  · rfl
  rintro i s w2 ⟨hi, H⟩
  refine vs (ways ?_ ?_)
  · refine vh fun hlt => ?_
    have hi2 : i < l.length := by omega
    have hi3 : i < (mkL mkeSent toteSent l k).length := by omega
    have hb1 := totL_take_succ (tot := toteSent) l i hi2
    have hb2 := totL_take_le (tot := toteSent) l (i + 1)
    rw [toteSent_eq l[i]] at hb1
    obtain ⟨had, _, es, hr, hc0⟩ := ha i hi3
    rw [mkL_get] at hr
    have hr0 := hr
    obtain ⟨u2, u3, rfl, uh0, uh1, uh2, uh3⟩ := kSent_open hr
    refine draw_of [(0, true), (1, true), (2, true), (3, true), (4, true), (5, true), (6, false), (7, true)] w.heap.size [] fun w3 hh0 hb9 => vs ?_
    have H := H.go (hb9 _)
    have H3 := H
    refine q_ele H sl40 rfl i hi3 ha rfl fun ad0 es0 hb0 hr0 hc0 => vs ?_
    rw [mkL_get] at hr0
    obtain ⟨y0_2, y0_3, rfl, y0h0, y0h1, y0h2, y0h3⟩ := kSent_open hr0
    refine q_lf0 (v := .string ⟨(mkText (k + totL toteSent (l.take i))).toArray⟩) sc9 hc0 (by decide) hb0 rfl ?_
    refine vs ?_
    refine x_callb H (markText_ok _ (k + totL toteSent (l.take i)) (by omega)) fun w4 H => ?_
    refine ⟨kept_base H3 H, ?_⟩
    have ek0 : w64 (((k + totL toteSent (l.take i) : Nat) : Int) + 1) = ((k + totL toteSent (l.take i) + 1 : Nat) : Int) := by unfold w64; omega
    refine ve ek0 ?_
    clear ek0
    refine x_ele H sl40 rfl i hi3 ha rfl fun ad1 es1 hb1 hr1 hc1 => vs ?_
    rw [mkL_get] at hr1
    obtain ⟨y1_2, y1_3, rfl, y1h0, y1h1, y1h2, y1h3⟩ := kSent_open hr1
    refine x_lfj (v := .int .i64 ((k + totL toteSent (l.take i) + 1 : Nat) : Int)) sc3 hc1 (by decide) rfl ?_
    have ek1 : w64 (((k + totL toteSent (l.take i) + 1 : Nat) : Int) + 1) = ((k + totL toteSent (l.take i) + 1 + 1 : Nat) : Int) := by unfold w64; omega
    refine ve ek1 ?_
    clear ek1
    refine x_ele H sl40 rfl i hi3 ha rfl fun ad2 es2 hb2 hr2 hc2 => vs ?_
    rw [mkL_get] at hr2
    obtain ⟨y2_2, y2_3, rfl, y2h0, y2h1, y2h2, y2h3⟩ := kSent_open hr2
    refine x_lfj sc22 hc2 (by decide) rfl ?_
    refine vs ?_
    refine x_callw (heldByteS_ok w4 _ (l[i].f_Note) (k + totL toteSent (l.take i) + 1 + 1) (H.rd y2h2) (by omega)) ?_
    have nn2 : ¬ ((k + totL toteSent (l.take i) + 1 + 1 + (l[i].f_Note).length : Nat) : Int) < 0 := by omega
    refine ve nn2 ?_
    refine x_ele H sl40 rfl i hi3 ha rfl fun ad3 es3 hb3 hr3 hc3 => vs ?_
    rw [mkL_get] at hr3
    obtain ⟨y3_2, y3_3, rfl, y3h0, y3h1, y3h2, y3h3⟩ := kSent_open hr3
    refine x_lfj sc22 hc3 (by decide) rfl ?_
    refine vs ?_
    refine x_callw (heldByteS_ok w4 _ (l[i].f_Bytes) (k + totL toteSent (l.take i) + 1 + 1 + (l[i].f_Note).length) (H.rd y3h3) (by omega)) ?_
    have nn3 : ¬ ((k + totL toteSent (l.take i) + 1 + 1 + (l[i].f_Note).length + (l[i].f_Bytes).length : Nat) : Int) < 0 := by omega
    refine ve nn3 ?_
    have hb3 : totL toteSent (l.take (i + 1)) = totL toteSent (l.take i) + toteSent l[i] := totL_take_succ l i hi2
    rw [toteSent_eq l[i]] at hb3
    exact ⟨i + 1, ⟨i64_eq (by omega), i64_eq (by unfold w64; omega)⟩, ⟨hi2, H⟩, by omega⟩
  · refine vh fun hlt => ?_
    obtain rfl : i = l.length := by omega
    rw [List.take_length]
    exact ⟨rfl, H.bel⟩

/-! ### World -/
def totWorld (x : MWorld) : Nat := (x.f_Seed).length + totPost (x.f_Post) + totReader (x.f_Reader) + totWireS (x.f_Net) + totSentS (x.f_Sent)
def mkWorld (x : MWorld) (k : Nat) : MWorld := { x with f_Seed := mkB (x.f_Seed) (k), f_Post := mkPost (x.f_Post) (k + (x.f_Seed).length), f_Reader := mkReader (x.f_Reader) (k + (x.f_Seed).length + totPost (x.f_Post)), f_Net := mkWireS (x.f_Net) (k + (x.f_Seed).length + totPost (x.f_Post) + totReader (x.f_Reader)), f_Sent := mkSentS (x.f_Sent) (k + (x.f_Seed).length + totPost (x.f_Post) + totReader (x.f_Reader) + totWireS (x.f_Net)) }
theorem totWorld_le {x : MWorld} (h : smWorld x) : totWorld x ≤ 7696593977344 := by
  unfold smWorld at h
  unfold totWorld
  have q0 := h.1
  have q3 := totPost_le (h.2.1)
  have q4 := totReader_le (h.2.2.1)
  have q5 := totWireS_le (h.2.2.2.1)
  have q6 := totSentS_le (h.2.2.2.2)
  omega
theorem ownWorld {n : Nat} {w0 w : World} {L : List Ck} {f0 f3 f4 f5 f6 : List Nat} {v0 v3_0 v3_2 v4_0 v4_2 v4_3 v5 v6 : Value} (x : MWorld) (H : Sep n w0 w (Ck.own (Kd.slice 5 Kd.u8) f0 [v0] x.f_Seed :: Ck.own kPost f3 [v3_0, .int .i64 x.f_Post.f_Time, v3_2, .int .i64 x.f_Post.f_Sure] x.f_Post :: Ck.own kReader f4 [v4_0, .int .i64 x.f_Reader.f_Epoch, v4_2, v4_3] x.f_Reader :: Ck.own (Kd.slice 88 kWire) f5 [v5] x.f_Net :: Ck.own (Kd.slice 78 kSent) f6 [v6] x.f_Sent :: L)) (r1 : -9223372036854775808 ≤ x.f_Count ∧ x.f_Count < 9223372036854775808) (r2 : -9223372036854775808 ≤ x.f_Known ∧ x.f_Known < 9223372036854775808) : ∃ fp, Sep n w0 w (Ck.own kWorld fp [v0, .int .i64 x.f_Count, .int .i64 x.f_Known, v3_0, .int .i64 x.f_Post.f_Time, v3_2, .int .i64 x.f_Post.f_Sure, v4_0, .int .i64 x.f_Reader.f_Epoch, v4_2, v4_3, v5, v6] x :: L) := by
  have H := H.front (c := Ck.own (Kd.slice 78 kSent) f6 [v6] x.f_Sent)
  have H := H.front (c := Ck.own (Kd.slice 88 kWire) f5 [v5] x.f_Net)
  have H := H.pair
  have H := H.front (c := Ck.own kReader f4 [v4_0, .int .i64 x.f_Reader.f_Epoch, v4_2, v4_3] x.f_Reader)
  have H := H.pair
  have H := H.front (c := Ck.own kPost f3 [v3_0, .int .i64 x.f_Post.f_Time, v3_2, .int .i64 x.f_Post.f_Sure] x.f_Post)
  have H := H.pair
  have H := H.plain pl_i64 (x := x.f_Known) r2
  have H := H.pair
  have H := H.plain pl_i64 (x := x.f_Count) r1
  have H := H.pair
  have H := H.front (c := Ck.own (Kd.slice 5 Kd.u8) f0 [v0] x.f_Seed)
  have H := H.pair
  exact ⟨_, Sep.iso (y := x) (f := fun c : MWorld => (c.f_Seed, c.f_Count, c.f_Known, c.f_Post, c.f_Reader, c.f_Net, c.f_Sent)) H⟩
theorem apartWorld {n : Nat} {w0 w : World} {L : List Ck} {fp : List Nat} {cs : List Value} {x : MWorld} (H : Sep n w0 w (Ck.own kWorld fp cs x :: L)) : ∃ v0 v3_0 v3_2 v4_0 v4_2 v4_3 v5 v6 f0 f3 f4 f5 f6, cs = [v0, .int .i64 x.f_Count, .int .i64 x.f_Known, v3_0, .int .i64 x.f_Post.f_Time, v3_2, .int .i64 x.f_Post.f_Sure, v4_0, .int .i64 x.f_Reader.f_Epoch, v4_2, v4_3, v5, v6] ∧ (-9223372036854775808 ≤ x.f_Count ∧ x.f_Count < 9223372036854775808) ∧ (-9223372036854775808 ≤ x.f_Known ∧ x.f_Known < 9223372036854775808) ∧ Sep n w0 w (Ck.own (Kd.slice 5 Kd.u8) f0 [v0] x.f_Seed :: Ck.own kPost f3 [v3_0, .int .i64 x.f_Post.f_Time, v3_2, .int .i64 x.f_Post.f_Sure] x.f_Post :: Ck.own kReader f4 [v4_0, .int .i64 x.f_Reader.f_Epoch, v4_2, v4_3] x.f_Reader :: Ck.own (Kd.slice 88 kWire) f5 [v5] x.f_Net :: Ck.own (Kd.slice 78 kSent) f6 [v6] x.f_Sent :: L) := by
  have H : Sep n w0 w (Ck.own (Kd.pair (Kd.slice 5 Kd.u8) (Kd.pair Kd.i64 (Kd.pair Kd.i64 (Kd.pair kPost (Kd.pair kReader (Kd.pair (Kd.slice 88 kWire) (Kd.slice 78 kSent))))))) fp cs (x.f_Seed, x.f_Count, x.f_Known, x.f_Post, x.f_Reader, x.f_Net, x.f_Sent) :: L) := H
  obtain ⟨f0, q0, c0, d0, rfl, _, H⟩ := H.unpair
  obtain ⟨v0, rfl⟩ := sl_one (H.own (d := (Kd.slice 5 Kd.u8)) (fp := f0) (cs := c0) (x := x.f_Seed) (.head _))
  have H : Sep n w0 w (Ck.own (Kd.pair Kd.i64 (Kd.pair Kd.i64 (Kd.pair kPost (Kd.pair kReader (Kd.pair (Kd.slice 88 kWire) (Kd.slice 78 kSent)))))) q0 d0 (x.f_Count, x.f_Known, x.f_Post, x.f_Reader, x.f_Net, x.f_Sent) :: _) := H.front (.there .here)
  obtain ⟨f1, q1, c1, d1, rfl, _, H⟩ := H.unpair
  obtain ⟨rfl, r1⟩ := (H.own (d := Kd.i64) (fp := f1) (cs := c1) (x := x.f_Count) (.head _))
  have H := H.tail
  have H : Sep n w0 w (Ck.own (Kd.pair Kd.i64 (Kd.pair kPost (Kd.pair kReader (Kd.pair (Kd.slice 88 kWire) (Kd.slice 78 kSent))))) q1 d1 (x.f_Known, x.f_Post, x.f_Reader, x.f_Net, x.f_Sent) :: _) := H
  obtain ⟨f2, q2, c2, d2, rfl, _, H⟩ := H.unpair
  obtain ⟨rfl, r2⟩ := (H.own (d := Kd.i64) (fp := f2) (cs := c2) (x := x.f_Known) (.head _))
  have H := H.tail
  have H : Sep n w0 w (Ck.own (Kd.pair kPost (Kd.pair kReader (Kd.pair (Kd.slice 88 kWire) (Kd.slice 78 kSent)))) q2 d2 (x.f_Post, x.f_Reader, x.f_Net, x.f_Sent) :: _) := H
  obtain ⟨f3, q3, c3, d3, rfl, _, H⟩ := H.unpair
  obtain ⟨v3_0, v3_2, rfl, _⟩ := kPost_open (H.own (d := kPost) (fp := f3) (cs := c3) (x := x.f_Post) (.head _))
  have H : Sep n w0 w (Ck.own (Kd.pair kReader (Kd.pair (Kd.slice 88 kWire) (Kd.slice 78 kSent))) q3 d3 (x.f_Reader, x.f_Net, x.f_Sent) :: _) := H.front (.there .here)
  obtain ⟨f4, q4, c4, d4, rfl, _, H⟩ := H.unpair
  obtain ⟨v4_0, v4_2, v4_3, rfl, _⟩ := kReader_open (H.own (d := kReader) (fp := f4) (cs := c4) (x := x.f_Reader) (.head _))
  have H : Sep n w0 w (Ck.own (Kd.pair (Kd.slice 88 kWire) (Kd.slice 78 kSent)) q4 d4 (x.f_Net, x.f_Sent) :: _) := H.front (.there .here)
  obtain ⟨f5, q5, c5, d5, rfl, _, H⟩ := H.unpair
  obtain ⟨v5, rfl⟩ := sl_one (H.own (d := (Kd.slice 88 kWire)) (fp := f5) (cs := c5) (x := x.f_Net) (.head _))
  have H : Sep n w0 w (Ck.own (Kd.slice 78 kSent) q5 d5 x.f_Sent :: _) := H.front (.there .here)
  obtain ⟨v6, rfl⟩ := sl_one (H.own (d := (Kd.slice 78 kSent)) (fp := q5) (cs := d5) (x := x.f_Sent) (.head _))
  have H := H.front (c := Ck.own (Kd.slice 78 kSent) q5 [v6] x.f_Sent)
  have H := H.front (c := Ck.own (Kd.slice 88 kWire) f5 [v5] x.f_Net)
  have H := H.front (c := Ck.own kReader f4 [v4_0, .int .i64 x.f_Reader.f_Epoch, v4_2, v4_3] x.f_Reader)
  have H := H.front (c := Ck.own kPost f3 [v3_0, .int .i64 x.f_Post.f_Time, v3_2, .int .i64 x.f_Post.f_Sure] x.f_Post)
  have H := H.front (c := Ck.own (Kd.slice 5 Kd.u8) f0 [v0] x.f_Seed)
  exact ⟨v0, v3_0, v3_2, v4_0, v4_2, v4_3, v5, v6, f0, f3, f4, f5, q5, rfl, r1, r2, H⟩
theorem markWorld_ok {n : Nat} {w0 w : World} {M : List Ck} {fp : List Nat} {cs : List Value} {x : MWorld} (H : Sep n w0 w (Ck.own kWorld fp cs x :: M)) (k : Nat) (hk : k + totWorld x ≤ 4611686018427387904) :
    ACalls Tryz.prog 23 #[.agg cs.toArray, .int .i64 (k : Int)] w fun r w' => r = .int .i64 ((k + totWorld x : Nat) : Int) ∧ ∃ fp', Sep n w0 w' (Ck.own kWorld fp' cs (mkWorld x k) :: M) := by
  unfold totWorld at hk
  have H : Sep n w0 w (Ck.own (Kd.pair (Kd.slice 5 Kd.u8) (Kd.pair Kd.i64 (Kd.pair Kd.i64 (Kd.pair kPost (Kd.pair kReader (Kd.pair (Kd.slice 88 kWire) (Kd.slice 78 kSent))))))) fp cs (x.f_Seed, x.f_Count, x.f_Known, x.f_Post, x.f_Reader, x.f_Net, x.f_Sent) :: M) := H
  obtain ⟨f0, q0, c0, d0, rfl, _, H⟩ := H.unpair
  have H : Sep n w0 w (Ck.own (Kd.pair Kd.i64 (Kd.pair Kd.i64 (Kd.pair kPost (Kd.pair kReader (Kd.pair (Kd.slice 88 kWire) (Kd.slice 78 kSent)))))) q0 d0 (x.f_Count, x.f_Known, x.f_Post, x.f_Reader, x.f_Net, x.f_Sent) :: _) := H.front (.there .here)
  obtain ⟨f1, q1, c1, d1, rfl, _, H⟩ := H.unpair
  have H : Sep n w0 w (Ck.own (Kd.pair Kd.i64 (Kd.pair kPost (Kd.pair kReader (Kd.pair (Kd.slice 88 kWire) (Kd.slice 78 kSent))))) q1 d1 (x.f_Known, x.f_Post, x.f_Reader, x.f_Net, x.f_Sent) :: _) := H.front (.there .here)
  obtain ⟨f2, q2, c2, d2, rfl, _, H⟩ := H.unpair
  have H : Sep n w0 w (Ck.own (Kd.pair kPost (Kd.pair kReader (Kd.pair (Kd.slice 88 kWire) (Kd.slice 78 kSent)))) q2 d2 (x.f_Post, x.f_Reader, x.f_Net, x.f_Sent) :: _) := H.front (.there .here)
  obtain ⟨f3, q3, c3, d3, rfl, _, H⟩ := H.unpair
  have H : Sep n w0 w (Ck.own (Kd.pair kReader (Kd.pair (Kd.slice 88 kWire) (Kd.slice 78 kSent))) q3 d3 (x.f_Reader, x.f_Net, x.f_Sent) :: _) := H.front (.there .here)
  obtain ⟨f4, q4, c4, d4, rfl, _, H⟩ := H.unpair
  have H : Sep n w0 w (Ck.own (Kd.pair (Kd.slice 88 kWire) (Kd.slice 78 kSent)) q4 d4 (x.f_Net, x.f_Sent) :: _) := H.front (.there .here)
  obtain ⟨f5, q5, c5, d5, rfl, _, H⟩ := H.unpair
  have H : Sep n w0 w (Ck.own (Kd.slice 78 kSent) q5 d5 x.f_Sent :: _) := H.front (.there .here)
  obtain ⟨v0, rfl⟩ := sl_one (H.own (d := (Kd.slice 5 Kd.u8)) (fp := f0) (cs := c0) (x := x.f_Seed) (.tail _ (.tail _ (.tail _ (.tail _ (.tail _ (.tail _ (.head _))))))))
  obtain ⟨rfl, r1⟩ := (H.own (d := Kd.i64) (fp := f1) (cs := c1) (x := x.f_Count) (.tail _ (.tail _ (.tail _ (.tail _ (.tail _ (.head _)))))))
  obtain ⟨rfl, r2⟩ := (H.own (d := Kd.i64) (fp := f2) (cs := c2) (x := x.f_Known) (.tail _ (.tail _ (.tail _ (.tail _ (.head _))))))
  obtain ⟨v3_0, v3_2, rfl, _⟩ := kPost_open (H.own (d := kPost) (fp := f3) (cs := c3) (x := x.f_Post) (.tail _ (.tail _ (.tail _ (.head _)))))
  obtain ⟨v4_0, v4_2, v4_3, rfl, _⟩ := kReader_open (H.own (d := kReader) (fp := f4) (cs := c4) (x := x.f_Reader) (.tail _ (.tail _ (.head _))))
  obtain ⟨v5, rfl⟩ := sl_one (H.own (d := (Kd.slice 88 kWire)) (fp := f5) (cs := c5) (x := x.f_Net) (.tail _ (.head _)))
  obtain ⟨v6, rfl⟩ := sl_one (H.own (d := (Kd.slice 78 kSent)) (fp := q5) (cs := d5) (x := x.f_Sent) (.head _))
  refine body_of follows Tryz.func23 rfl rfl _ rfl (by kernel_rfl) (vs ?_)
  refine x_bx H [v0, .int .i64 x.f_Count, .int .i64 x.f_Known, v3_0, .int .i64 x.f_Post.f_Time, v3_2, .int .i64 x.f_Post.f_Sure, v4_0, .int .i64 x.f_Reader.f_Epoch, v4_2, v4_3, v5, v6] fun g w1 H => vs ?_
  refine x_ld H sc22 ?_
  refine vs ?_
  have H := H.front (c := Ck.own (Kd.slice 5 Kd.u8) f0 [v0] (x.f_Seed))
  refine x_call (markByteS_ok H (k) (by omega)) fun _ w2 ⟨e0, p0, H⟩ => ?_
  subst e0
  refine vs ?_
  refine x_ldp H [v3_0, .int .i64 x.f_Post.f_Time, v3_2, .int .i64 x.f_Post.f_Sure] st37 ?_
  refine vs ?_
  have H := H.front (c := Ck.own kPost f3 [v3_0, .int .i64 x.f_Post.f_Time, v3_2, .int .i64 x.f_Post.f_Sure] (x.f_Post))
  refine x_call (markPost_ok H (k + (x.f_Seed).length) (by omega)) fun _ w3 ⟨e3, p3, H⟩ => ?_
  subst e3
  refine vs ?_
  refine x_ldp H [v4_0, .int .i64 x.f_Reader.f_Epoch, v4_2, v4_3] st38 ?_
  refine vs ?_
  have H := H.front (c := Ck.own kReader f4 [v4_0, .int .i64 x.f_Reader.f_Epoch, v4_2, v4_3] (x.f_Reader))
  refine x_call (markReader_ok H (k + (x.f_Seed).length + totPost (x.f_Post)) (by omega)) fun _ w4 ⟨e4, p4, H⟩ => ?_
  subst e4
  refine vs ?_
  refine x_ld H sc39 ?_
  refine vs ?_
  have H := H.front (c := Ck.own (Kd.slice 88 kWire) f5 [v5] (x.f_Net))
  refine x_call (markWireS_ok H (k + (x.f_Seed).length + totPost (x.f_Post) + totReader (x.f_Reader)) (by omega)) fun _ w5 ⟨e5, p5, H⟩ => ?_
  subst e5
  refine vs ?_
  refine x_ld H sc40 ?_
  refine vs ?_
  have H := H.front (c := Ck.own (Kd.slice 78 kSent) q5 [v6] (x.f_Sent))
  refine x_call (markSentS_ok H (k + (x.f_Seed).length + totPost (x.f_Post) + totReader (x.f_Reader) + totWireS (x.f_Net)) (by omega)) fun _ w6 ⟨e6, p6, H⟩ => ?_
  subst e6
  refine vs ?_
  have H := H.front (c := Ck.own (Kd.slice 78 kSent) p6 [v6] (mkSentS (x.f_Sent) (k + (x.f_Seed).length + totPost (x.f_Post) + totReader (x.f_Reader) + totWireS (x.f_Net))))
  have H := H.front (c := Ck.own (Kd.slice 88 kWire) p5 [v5] (mkWireS (x.f_Net) (k + (x.f_Seed).length + totPost (x.f_Post) + totReader (x.f_Reader))))
  have H := H.pair
  have H := H.front (c := Ck.own kReader p4 [v4_0, .int .i64 x.f_Reader.f_Epoch, v4_2, v4_3] (mkReader (x.f_Reader) (k + (x.f_Seed).length + totPost (x.f_Post))))
  have H := H.pair
  have H := H.front (c := Ck.own kPost p3 [v3_0, .int .i64 x.f_Post.f_Time, v3_2, .int .i64 x.f_Post.f_Sure] (mkPost (x.f_Post) (k + (x.f_Seed).length)))
  have H := H.pair
  have H := H.front (c := Ck.own Kd.i64 f2 [.int .i64 x.f_Known] (x.f_Known))
  have H := H.pair
  have H := H.front (c := Ck.own Kd.i64 f1 [.int .i64 x.f_Count] (x.f_Count))
  have H := H.pair
  have H := H.front (c := Ck.own (Kd.slice 5 Kd.u8) p0 [v0] (mkB (x.f_Seed) (k)))
  have H := H.pair
  have H := Sep.iso (y := mkWorld x k) (f := fun c : MWorld => (c.f_Seed, c.f_Count, c.f_Known, c.f_Post, c.f_Reader, c.f_Net, c.f_Sent)) H
  exact ⟨i64_eq (by unfold totWorld; omega), _, H.drop2⟩
theorem heldWorld_ok (w : World) (cs : List Value) (x : MWorld) (k : Nat) (h : kWorld.rd w w.heap.size cs (mkWorld x k)) (hk : k + totWorld x ≤ 4611686018427387904) :
    ACalls Tryz.prog 24 #[.agg cs.toArray, .int .i64 (k : Int)] w fun r w' => r = .int .i64 ((k + totWorld x : Nat) : Int) ∧ Below w.heap.size w w' := by
  unfold totWorld at hk
  obtain ⟨v0, v3_0, v3_2, v4_0, v4_2, v4_3, v5, v6, rfl, h0, h1, h2, h3, h4, h5, h6⟩ := kWorld_open h
  have H := Sep.start w
  refine body_of follows Tryz.func24 rfl rfl _ rfl (by kernel_rfl) (vs ?_)
  refine x_bx H [v0, .int .i64 (mkWorld x k).f_Count, .int .i64 (mkWorld x k).f_Known, v3_0, .int .i64 (mkWorld x k).f_Post.f_Time, v3_2, .int .i64 (mkWorld x k).f_Post.f_Sure, v4_0, .int .i64 (mkWorld x k).f_Reader.f_Epoch, v4_2, v4_3, v5, v6] fun g w1 H => vs ?_
  refine x_ld H sc22 ?_
  refine vs ?_
  refine x_callw (heldByteS_ok w1 _ (x.f_Seed) (k) (H.rd h0) (by omega)) ?_
  have nn0 : ¬ ((k + (x.f_Seed).length : Nat) : Int) < 0 := by omega
  refine ve nn0 ?_
  refine x_ldp H [v3_0, .int .i64 (mkWorld x k).f_Post.f_Time, v3_2, .int .i64 (mkWorld x k).f_Post.f_Sure] st37 ?_
  refine vs ?_
  refine x_callb H (heldPost_ok w1 _ (x.f_Post) (k + (x.f_Seed).length) (H.rd h3) (by omega)) fun w2 H => ?_
  have nn3 : ¬ ((k + (x.f_Seed).length + totPost (x.f_Post) : Nat) : Int) < 0 := by omega
  refine ve nn3 ?_
  refine x_ldp H [v4_0, .int .i64 (mkWorld x k).f_Reader.f_Epoch, v4_2, v4_3] st38 ?_
  refine vs ?_
  refine x_callb H (heldReader_ok w2 _ (x.f_Reader) (k + (x.f_Seed).length + totPost (x.f_Post)) (H.rd h4) (by omega)) fun w3 H => ?_
  have nn4 : ¬ ((k + (x.f_Seed).length + totPost (x.f_Post) + totReader (x.f_Reader) : Nat) : Int) < 0 := by omega
  refine ve nn4 ?_
  refine x_ld H sc39 ?_
  refine vs ?_
  refine x_callb H (heldWireS_ok w3 _ (x.f_Net) (k + (x.f_Seed).length + totPost (x.f_Post) + totReader (x.f_Reader)) (H.rd h5) (by omega)) fun w4 H => ?_
  have nn5 : ¬ ((k + (x.f_Seed).length + totPost (x.f_Post) + totReader (x.f_Reader) + totWireS (x.f_Net) : Nat) : Int) < 0 := by omega
  refine ve nn5 ?_
  refine x_ld H sc40 ?_
  refine vs ?_
  refine x_callb H (heldSentS_ok w4 _ (x.f_Sent) (k + (x.f_Seed).length + totPost (x.f_Post) + totReader (x.f_Reader) + totWireS (x.f_Net)) (H.rd h6) (by omega)) fun w5 H => ?_
  have nn6 : ¬ ((k + (x.f_Seed).length + totPost (x.f_Post) + totReader (x.f_Reader) + totWireS (x.f_Net) + totSentS (x.f_Sent) : Nat) : Int) < 0 := by omega
  refine ve nn6 ?_
  exact ⟨i64_eq (by unfold totWorld; omega), H.bel⟩
end Go.Proofs.YtfhbglaigjekpaaGreat.V
