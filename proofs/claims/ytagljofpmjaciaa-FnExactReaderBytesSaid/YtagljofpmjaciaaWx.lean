/- What is marked in data of the program, and held, walked. Laid by a program. -/
import Derived.Test.YtagljofpmjaciaaWt
import Derived.Test.YtagljofpmjaciaaWm
import Derived.Test.YtagljofpmjaciaaVt
namespace Go.Proofs.Ytagljofpmjaciaa.V
open Go Go.RowKit
set_option maxRecDepth 100000
set_option maxHeartbeats 4000000
set_option linter.unusedSimpArgs false
set_option linter.unusedVariables false
set_option pp.deepTerms false
set_option pp.deepTerms.threshold 3

/-! ### lists of ByteS -/
def totByteSS (l : List (List UInt8)) : Nat := totL List.length l
def mkByteSS (l : List (List UInt8)) (k : Nat) : List (List UInt8) := mkL mkB List.length l k
theorem totByteSS_le {l : List (List UInt8)} (h : smByteSS l) : totByteSS l ≤ 1099511627776 := by
  refine Nat.le_trans (totL_le (B := 1048576) fun y hy => h.2 y hy) ?_
  have := h.1; omega
theorem markByteSS_ok {n : Nat} {w0 w : World} {M : List Ck} {fp : List Nat} {v : Value} {l : List (List UInt8)} (H : Sep n w0 w (Ck.own (Kd.slice 22 (Kd.slice 5 Kd.u8)) fp [v] l :: M)) (k : Nat) (hk : k + totByteSS l ≤ 4611686018427387904) :
    ACalls Try.prog 87 #[v, .int .i64 (k : Int)] w fun r w' => r = .int .i64 ((k + totByteSS l : Nat) : Int) ∧ ∃ fp', Sep n w0 w' (Ck.own (Kd.slice 22 (Kd.slice 5 Kd.u8)) fp' [v] (mkByteSS l k) :: M) := by
  unfold totByteSS mkByteSS at *
  obtain ⟨A, c, rfl, hA⟩ := own_val (show (Kd.slice 22 (Kd.slice 5 Kd.u8)).ow w fp [v] l from H.ok _ (.head _))
  have hlm := sl_len (H.own (.head _))
  refine body_of follows Try.func87 rfl rfl _ rfl (by kernel_rfl) (vs ?_)
  refine loop_at (σ := Nat × List Nat) (fun x => [(0, .slice A l.length c), (1, .int .i64 ((k + totL List.length (l.take x.1) : Nat) : Int)), (5, .int .i64 (x.1 : Int))])
    (fun x w' => x.1 ≤ l.length ∧ Sep n w0 w' (Ck.own (Kd.slice 22 (Kd.slice 5 Kd.u8)) x.2 [.slice A l.length c] (mkL mkB List.length (l.take x.1) k ++ l.drop x.1) :: M)) (fun x => l.length - x.1) (0, fp) (vs ?_) ⟨Nat.zero_le _, H⟩ ?_
  · rfl
  rintro ⟨i, fp⟩ s w2 ⟨hi, H⟩
  dsimp only at hi H
  refine vs (ways ?_ ?_)
  · refine vh fun hlt => ?_
    have hi2 : i < l.length := by omega
    obtain ⟨g, c2, pre, post, fpi, es, R, hv, hpre, H1, hes, close⟩ := H.openEl i (by simp [mkL_len]; omega)
    simp only [Value.slice.injEq] at hv
    obtain ⟨rfl, _, rfl⟩ := hv
    have H := H1
    rw [mk_at l k i hi2] at H
    have hb1 := totL_take_succ (tot := List.length) l i hi2
    have hb2 := totL_take_le (tot := List.length) l (i + 1)
    have hpre : pre.length = i := hpre.trans (Nat.mul_one i)
    obtain ⟨u, rfl⟩ := sl_one (H.own (.tail _ (.head _)))
    refine x_index sl31 rfl (by omega) hlt (vs ?_)
    refine x_ldE (j := 0) H sc22 ?_
    refine vs ?_
    have H := H.front (c := Ck.own (Kd.slice 5 Kd.u8) fpi [u] l[i])
    refine x_call (markByteS_ok H (k + totL List.length (l.take i)) (by omega)) fun _ w3 ⟨e, f2, H⟩ => ?_
    subst e
    refine vs ?_
    have H := H.front (c := Ck.box g (pre ++ [u] ++ post) 22) (.there .here)
    obtain ⟨f3, H⟩ := close H
    rw [mk_step l k i hi2] at H
    exact ⟨(i + 1, f3), ⟨i64_eq (by show ((_ : Nat) : Int) = ((k + totL List.length (l.take (i + 1)) : Nat) : Int); omega), i64_eq (by show w64 ((i : Int) + 1) = ((i + 1 : Nat) : Int); unfold w64; omega)⟩, ⟨hi2, H⟩, by show l.length - (i + 1) < l.length - i; omega⟩
  · refine vh fun hlt => ?_
    obtain rfl : i = l.length := by omega
    rw [List.take_length, List.drop_length, List.append_nil] at H
    rw [List.take_length]
    exact ⟨rfl, fp, H⟩

/-! ### Chain -/
def totChain (x : MChain) : Nat := (x.f_Key).length
def mkChain (x : MChain) (k : Nat) : MChain := { x with f_Key := mkB (x.f_Key) (k) }
theorem totChain_le {x : MChain} (h : smChain x) : totChain x ≤ 1048576 := by
  unfold smChain at h
  unfold totChain
  have q0 := h
  omega
theorem ownChain {n : Nat} {w0 w : World} {L : List Ck} {f0 : List Nat} {v0 : Value} (x : MChain) (H : Sep n w0 w (Ck.own (Kd.slice 5 Kd.u8) f0 [v0] x.f_Key :: L)) (r1 : -9223372036854775808 ≤ x.f_N ∧ x.f_N < 9223372036854775808) : ∃ fp, Sep n w0 w (Ck.own kChain fp [v0, .int .i64 x.f_N] x :: L) := by
  have H := H.plain pl_i64 (x := x.f_N) r1
  have H := H.front (c := Ck.own (Kd.slice 5 Kd.u8) f0 [v0] x.f_Key)
  have H := H.pair
  exact ⟨_, Sep.iso (y := x) (f := fun c : MChain => (c.f_Key, c.f_N)) H⟩
theorem apartChain {n : Nat} {w0 w : World} {L : List Ck} {fp : List Nat} {cs : List Value} {x : MChain} (H : Sep n w0 w (Ck.own kChain fp cs x :: L)) : ∃ v0 f0, cs = [v0, .int .i64 x.f_N] ∧ (-9223372036854775808 ≤ x.f_N ∧ x.f_N < 9223372036854775808) ∧ Sep n w0 w (Ck.own (Kd.slice 5 Kd.u8) f0 [v0] x.f_Key :: L) := by
  have H : Sep n w0 w (Ck.own (Kd.pair (Kd.slice 5 Kd.u8) Kd.i64) fp cs (x.f_Key, x.f_N) :: L) := H
  obtain ⟨f0, q0, c0, d0, rfl, _, H⟩ := H.unpair
  obtain ⟨v0, rfl⟩ := sl_one (H.own (d := (Kd.slice 5 Kd.u8)) (fp := f0) (cs := c0) (x := x.f_Key) (.head _))
  have H : Sep n w0 w (Ck.own Kd.i64 q0 d0 x.f_N :: _) := H.front (.there .here)
  obtain ⟨rfl, r1⟩ := (H.own (d := Kd.i64) (fp := q0) (cs := d0) (x := x.f_N) (.head _))
  have H := H.tail
  have H := H.front (c := Ck.own (Kd.slice 5 Kd.u8) f0 [v0] x.f_Key)
  exact ⟨v0, f0, rfl, r1, H⟩
theorem markChain_ok {n : Nat} {w0 w : World} {M : List Ck} {fp : List Nat} {cs : List Value} {x : MChain} (H : Sep n w0 w (Ck.own kChain fp cs x :: M)) (k : Nat) (hk : k + totChain x ≤ 4611686018427387904) :
    ACalls Try.prog 47 #[.agg cs.toArray, .int .i64 (k : Int)] w fun r w' => r = .int .i64 ((k + totChain x : Nat) : Int) ∧ ∃ fp', Sep n w0 w' (Ck.own kChain fp' cs (mkChain x k) :: M) := by
  unfold totChain at hk
  have H : Sep n w0 w (Ck.own (Kd.pair (Kd.slice 5 Kd.u8) Kd.i64) fp cs (x.f_Key, x.f_N) :: M) := H
  obtain ⟨f0, q0, c0, d0, rfl, _, H⟩ := H.unpair
  have H : Sep n w0 w (Ck.own Kd.i64 q0 d0 x.f_N :: _) := H.front (.there .here)
  obtain ⟨v0, rfl⟩ := sl_one (H.own (d := (Kd.slice 5 Kd.u8)) (fp := f0) (cs := c0) (x := x.f_Key) (.tail _ (.head _)))
  obtain ⟨rfl, r1⟩ := (H.own (d := Kd.i64) (fp := q0) (cs := d0) (x := x.f_N) (.head _))
  refine body_of follows Try.func47 rfl rfl _ rfl (by kernel_rfl) (vs ?_)
  refine x_bx H [v0, .int .i64 x.f_N] fun g w1 H => vs ?_
  refine x_ld H sc22 ?_
  refine vs ?_
  have H := H.front (c := Ck.own (Kd.slice 5 Kd.u8) f0 [v0] (x.f_Key))
  refine x_call (markByteS_ok H (k) (by omega)) fun _ w2 ⟨e0, p0, H⟩ => ?_
  subst e0
  refine vs ?_
  have H := H.front (c := Ck.own Kd.i64 q0 [.int .i64 x.f_N] (x.f_N))
  have H := H.front (c := Ck.own (Kd.slice 5 Kd.u8) p0 [v0] (mkB (x.f_Key) (k)))
  have H := H.pair
  have H := Sep.iso (y := mkChain x k) (f := fun c : MChain => (c.f_Key, c.f_N)) H
  exact ⟨i64_eq (by unfold totChain; omega), _, H.drop2⟩
theorem heldChain_ok (w : World) (cs : List Value) (x : MChain) (k : Nat) (h : kChain.rd w w.heap.size cs (mkChain x k)) (hk : k + totChain x ≤ 4611686018427387904) :
    ACalls Try.prog 48 #[.agg cs.toArray, .int .i64 (k : Int)] w fun r w' => r = .int .i64 ((k + totChain x : Nat) : Int) ∧ Below w.heap.size w w' := by
  unfold totChain at hk
  obtain ⟨v0, rfl, h0, h1⟩ := kChain_open h
  have H := Sep.start w
  refine body_of follows Try.func48 rfl rfl _ rfl (by kernel_rfl) (vs ?_)
  refine x_bx H [v0, .int .i64 (mkChain x k).f_N] fun g w1 H => vs ?_
  refine x_ld H sc22 ?_
  refine vs ?_
  refine x_callw (heldByteS_ok w1 _ (x.f_Key) (k) (H.rd h0) (by omega)) ?_
  have nn0 : ¬ ((k + (x.f_Key).length : Nat) : Int) < 0 := by omega
  refine ve nn0 ?_
  exact ⟨i64_eq (by unfold totChain; omega), H.bel⟩

/-! ### Reader -/
def totReader (x : MReader) : Nat := (x.f_Seed).length + totByteSS (x.f_Seen) + totByteSS (x.f_Got)
def mkReader (x : MReader) (k : Nat) : MReader := { x with f_Seed := mkB (x.f_Seed) (k), f_Seen := mkByteSS (x.f_Seen) (k + (x.f_Seed).length), f_Got := mkByteSS (x.f_Got) (k + (x.f_Seed).length + totByteSS (x.f_Seen)) }
theorem totReader_le {x : MReader} (h : smReader x) : totReader x ≤ 2199024304128 := by
  unfold smReader at h
  unfold totReader
  have q0 := h.1
  have q2 := totByteSS_le (h.2.1)
  have q3 := totByteSS_le (h.2.2)
  omega
theorem ownReader {n : Nat} {w0 w : World} {L : List Ck} {f0 f2 f3 : List Nat} {v0 v2 v3 : Value} (x : MReader) (H : Sep n w0 w (Ck.own (Kd.slice 5 Kd.u8) f0 [v0] x.f_Seed :: Ck.own (Kd.slice 22 (Kd.slice 5 Kd.u8)) f2 [v2] x.f_Seen :: Ck.own (Kd.slice 22 (Kd.slice 5 Kd.u8)) f3 [v3] x.f_Got :: L)) (r1 : -9223372036854775808 ≤ x.f_Epoch ∧ x.f_Epoch < 9223372036854775808) : ∃ fp, Sep n w0 w (Ck.own kReader fp [v0, .int .i64 x.f_Epoch, v2, v3] x :: L) := by
  have H := H.front (c := Ck.own (Kd.slice 22 (Kd.slice 5 Kd.u8)) f3 [v3] x.f_Got)
  have H := H.front (c := Ck.own (Kd.slice 22 (Kd.slice 5 Kd.u8)) f2 [v2] x.f_Seen)
  have H := H.pair
  have H := H.plain pl_i64 (x := x.f_Epoch) r1
  have H := H.pair
  have H := H.front (c := Ck.own (Kd.slice 5 Kd.u8) f0 [v0] x.f_Seed)
  have H := H.pair
  exact ⟨_, Sep.iso (y := x) (f := fun c : MReader => (c.f_Seed, c.f_Epoch, c.f_Seen, c.f_Got)) H⟩
theorem apartReader {n : Nat} {w0 w : World} {L : List Ck} {fp : List Nat} {cs : List Value} {x : MReader} (H : Sep n w0 w (Ck.own kReader fp cs x :: L)) : ∃ v0 v2 v3 f0 f2 f3, cs = [v0, .int .i64 x.f_Epoch, v2, v3] ∧ (-9223372036854775808 ≤ x.f_Epoch ∧ x.f_Epoch < 9223372036854775808) ∧ Sep n w0 w (Ck.own (Kd.slice 5 Kd.u8) f0 [v0] x.f_Seed :: Ck.own (Kd.slice 22 (Kd.slice 5 Kd.u8)) f2 [v2] x.f_Seen :: Ck.own (Kd.slice 22 (Kd.slice 5 Kd.u8)) f3 [v3] x.f_Got :: L) := by
  have H : Sep n w0 w (Ck.own (Kd.pair (Kd.slice 5 Kd.u8) (Kd.pair Kd.i64 (Kd.pair (Kd.slice 22 (Kd.slice 5 Kd.u8)) (Kd.slice 22 (Kd.slice 5 Kd.u8))))) fp cs (x.f_Seed, x.f_Epoch, x.f_Seen, x.f_Got) :: L) := H
  obtain ⟨f0, q0, c0, d0, rfl, _, H⟩ := H.unpair
  obtain ⟨v0, rfl⟩ := sl_one (H.own (d := (Kd.slice 5 Kd.u8)) (fp := f0) (cs := c0) (x := x.f_Seed) (.head _))
  have H : Sep n w0 w (Ck.own (Kd.pair Kd.i64 (Kd.pair (Kd.slice 22 (Kd.slice 5 Kd.u8)) (Kd.slice 22 (Kd.slice 5 Kd.u8)))) q0 d0 (x.f_Epoch, x.f_Seen, x.f_Got) :: _) := H.front (.there .here)
  obtain ⟨f1, q1, c1, d1, rfl, _, H⟩ := H.unpair
  obtain ⟨rfl, r1⟩ := (H.own (d := Kd.i64) (fp := f1) (cs := c1) (x := x.f_Epoch) (.head _))
  have H := H.tail
  have H : Sep n w0 w (Ck.own (Kd.pair (Kd.slice 22 (Kd.slice 5 Kd.u8)) (Kd.slice 22 (Kd.slice 5 Kd.u8))) q1 d1 (x.f_Seen, x.f_Got) :: _) := H
  obtain ⟨f2, q2, c2, d2, rfl, _, H⟩ := H.unpair
  obtain ⟨v2, rfl⟩ := sl_one (H.own (d := (Kd.slice 22 (Kd.slice 5 Kd.u8))) (fp := f2) (cs := c2) (x := x.f_Seen) (.head _))
  have H : Sep n w0 w (Ck.own (Kd.slice 22 (Kd.slice 5 Kd.u8)) q2 d2 x.f_Got :: _) := H.front (.there .here)
  obtain ⟨v3, rfl⟩ := sl_one (H.own (d := (Kd.slice 22 (Kd.slice 5 Kd.u8))) (fp := q2) (cs := d2) (x := x.f_Got) (.head _))
  have H := H.front (c := Ck.own (Kd.slice 22 (Kd.slice 5 Kd.u8)) q2 [v3] x.f_Got)
  have H := H.front (c := Ck.own (Kd.slice 22 (Kd.slice 5 Kd.u8)) f2 [v2] x.f_Seen)
  have H := H.front (c := Ck.own (Kd.slice 5 Kd.u8) f0 [v0] x.f_Seed)
  exact ⟨v0, v2, v3, f0, f2, q2, rfl, r1, H⟩
theorem markReader_ok {n : Nat} {w0 w : World} {M : List Ck} {fp : List Nat} {cs : List Value} {x : MReader} (H : Sep n w0 w (Ck.own kReader fp cs x :: M)) (k : Nat) (hk : k + totReader x ≤ 4611686018427387904) :
    ACalls Try.prog 29 #[.agg cs.toArray, .int .i64 (k : Int)] w fun r w' => r = .int .i64 ((k + totReader x : Nat) : Int) ∧ ∃ fp', Sep n w0 w' (Ck.own kReader fp' cs (mkReader x k) :: M) := by
  unfold totReader at hk
  have H : Sep n w0 w (Ck.own (Kd.pair (Kd.slice 5 Kd.u8) (Kd.pair Kd.i64 (Kd.pair (Kd.slice 22 (Kd.slice 5 Kd.u8)) (Kd.slice 22 (Kd.slice 5 Kd.u8))))) fp cs (x.f_Seed, x.f_Epoch, x.f_Seen, x.f_Got) :: M) := H
  obtain ⟨f0, q0, c0, d0, rfl, _, H⟩ := H.unpair
  have H : Sep n w0 w (Ck.own (Kd.pair Kd.i64 (Kd.pair (Kd.slice 22 (Kd.slice 5 Kd.u8)) (Kd.slice 22 (Kd.slice 5 Kd.u8)))) q0 d0 (x.f_Epoch, x.f_Seen, x.f_Got) :: _) := H.front (.there .here)
  obtain ⟨f1, q1, c1, d1, rfl, _, H⟩ := H.unpair
  have H : Sep n w0 w (Ck.own (Kd.pair (Kd.slice 22 (Kd.slice 5 Kd.u8)) (Kd.slice 22 (Kd.slice 5 Kd.u8))) q1 d1 (x.f_Seen, x.f_Got) :: _) := H.front (.there .here)
  obtain ⟨f2, q2, c2, d2, rfl, _, H⟩ := H.unpair
  have H : Sep n w0 w (Ck.own (Kd.slice 22 (Kd.slice 5 Kd.u8)) q2 d2 x.f_Got :: _) := H.front (.there .here)
  obtain ⟨v0, rfl⟩ := sl_one (H.own (d := (Kd.slice 5 Kd.u8)) (fp := f0) (cs := c0) (x := x.f_Seed) (.tail _ (.tail _ (.tail _ (.head _)))))
  obtain ⟨rfl, r1⟩ := (H.own (d := Kd.i64) (fp := f1) (cs := c1) (x := x.f_Epoch) (.tail _ (.tail _ (.head _))))
  obtain ⟨v2, rfl⟩ := sl_one (H.own (d := (Kd.slice 22 (Kd.slice 5 Kd.u8))) (fp := f2) (cs := c2) (x := x.f_Seen) (.tail _ (.head _)))
  obtain ⟨v3, rfl⟩ := sl_one (H.own (d := (Kd.slice 22 (Kd.slice 5 Kd.u8))) (fp := q2) (cs := d2) (x := x.f_Got) (.head _))
  refine body_of follows Try.func29 rfl rfl _ rfl (by kernel_rfl) (vs ?_)
  refine x_bx H [v0, .int .i64 x.f_Epoch, v2, v3] fun g w1 H => vs ?_
  refine x_ld H sc22 ?_
  refine vs ?_
  have H := H.front (c := Ck.own (Kd.slice 5 Kd.u8) f0 [v0] (x.f_Seed))
  refine x_call (markByteS_ok H (k) (by omega)) fun _ w2 ⟨e0, p0, H⟩ => ?_
  subst e0
  refine vs ?_
  refine x_ld H sc31 ?_
  refine vs ?_
  have H := H.front (c := Ck.own (Kd.slice 22 (Kd.slice 5 Kd.u8)) f2 [v2] (x.f_Seen))
  refine x_call (markByteSS_ok H (k + (x.f_Seed).length) (by omega)) fun _ w3 ⟨e2, p2, H⟩ => ?_
  subst e2
  refine vs ?_
  refine x_ld H sc31 ?_
  refine vs ?_
  have H := H.front (c := Ck.own (Kd.slice 22 (Kd.slice 5 Kd.u8)) q2 [v3] (x.f_Got))
  refine x_call (markByteSS_ok H (k + (x.f_Seed).length + totByteSS (x.f_Seen)) (by omega)) fun _ w4 ⟨e3, p3, H⟩ => ?_
  subst e3
  refine vs ?_
  have H := H.front (c := Ck.own (Kd.slice 22 (Kd.slice 5 Kd.u8)) p3 [v3] (mkByteSS (x.f_Got) (k + (x.f_Seed).length + totByteSS (x.f_Seen))))
  have H := H.front (c := Ck.own (Kd.slice 22 (Kd.slice 5 Kd.u8)) p2 [v2] (mkByteSS (x.f_Seen) (k + (x.f_Seed).length)))
  have H := H.pair
  have H := H.front (c := Ck.own Kd.i64 f1 [.int .i64 x.f_Epoch] (x.f_Epoch))
  have H := H.pair
  have H := H.front (c := Ck.own (Kd.slice 5 Kd.u8) p0 [v0] (mkB (x.f_Seed) (k)))
  have H := H.pair
  have H := Sep.iso (y := mkReader x k) (f := fun c : MReader => (c.f_Seed, c.f_Epoch, c.f_Seen, c.f_Got)) H
  exact ⟨i64_eq (by unfold totReader; omega), _, H.drop2⟩

/-! ### lists of Kept -/
def toteKept (x : MKept) : Nat := 1 + (x.f_Key).length
def mkeKept (x : MKept) (k : Nat) : MKept := { x with f_N := ((k : Nat) : Int), f_Key := mkB (x.f_Key) (k + 1) }
theorem toteKept_eq (x : MKept) : toteKept x = 1 + (x.f_Key).length := rfl
def totKeptS (l : List MKept) : Nat := totL toteKept l
def mkKeptS (l : List MKept) (k : Nat) : List MKept := mkL mkeKept toteKept l k
theorem toteKept_le {x : MKept} (h : smKept x) : toteKept x ≤ 1048577 := by
  unfold smKept at h
  unfold toteKept
  have q0 := h
  omega
theorem totKeptS_le {l : List MKept} (h : smKeptS l) : totKeptS l ≤ 1099512676352 := by
  refine Nat.le_trans (totL_le (B := 1048577) fun y hy => toteKept_le (h.2 y hy)) ?_
  have := h.1; omega
theorem markKeptS_ok {n : Nat} {w0 w : World} {M : List Ck} {fp : List Nat} {v : Value} {l : List MKept} (H : Sep n w0 w (Ck.own (Kd.slice 105 kKept) fp [v] l :: M)) (k : Nat) (hk : k + totKeptS l ≤ 4611686018427387904) :
    ACalls Try.prog 112 #[v, .int .i64 (k : Int)] w fun r w' => r = .int .i64 ((k + totKeptS l : Nat) : Int) ∧ ∃ fp', Sep n w0 w' (Ck.own (Kd.slice 105 kKept) fp' [v] (mkKeptS l k) :: M) := by
  unfold totKeptS mkKeptS at *
  obtain ⟨A, c, rfl, hA⟩ := own_val (show (Kd.slice 105 kKept).ow w fp [v] l from H.ok _ (.head _))
  have hlm := sl_len (H.own (.head _))
  refine body_of follows Try.func112 rfl rfl _ rfl (by kernel_rfl) (vs ?_)
  refine loop_at (σ := Nat × List Nat) (fun x => [(0, .slice A l.length c), (1, .int .i64 ((k + totL toteKept (l.take x.1) : Nat) : Int)), (5, .int .i64 (x.1 : Int))])
    (fun x w' => x.1 ≤ l.length ∧ Sep n w0 w' (Ck.own (Kd.slice 105 kKept) x.2 [.slice A l.length c] (mkL mkeKept toteKept (l.take x.1) k ++ l.drop x.1) :: M)) (fun x => l.length - x.1) (0, fp) (vs ?_) ⟨Nat.zero_le _, H⟩ ?_
  · rfl
  rintro ⟨i, fp⟩ s w2 ⟨hi, H⟩
  dsimp only at hi H
  refine vs (ways ?_ ?_)
  · refine vh fun hlt => ?_
    have hi2 : i < l.length := by omega
    obtain ⟨g, c2, pre, post, fpi, es, R, hv, hpre, H1, hes, close⟩ := H.openEl i (by simp [mkL_len]; omega)
    simp only [Value.slice.injEq] at hv
    obtain ⟨rfl, _, rfl⟩ := hv
    have H := H1
    rw [mk_at l k i hi2] at H
    have hb1 := totL_take_succ (tot := toteKept) l i hi2
    have hb2 := totL_take_le (tot := toteKept) l (i + 1)
    have hpre : pre.length = i * 2 := hpre
    have H := H.front (c := Ck.own kKept fpi es l[i]) (.there .here)
    have H : Sep n w0 _ (Ck.own (Kd.pair Kd.i64 (Kd.slice 5 Kd.u8)) fpi es (l[i].f_N, l[i].f_Key) :: _) := H
    obtain ⟨f1, q1, c1, d1, rfl, _, H⟩ := H.unpair
    obtain ⟨rfl, r2⟩ := (H.own (d := Kd.i64) (fp := f1) (cs := c1) (x := l[i].f_N) (.head _))
    have H := H.tail
    have H : Sep n w0 _ (Ck.own (Kd.slice 5 Kd.u8) q1 d1 l[i].f_Key :: _) := H
    obtain ⟨u3, rfl⟩ := sl_one (H.own (d := (Kd.slice 5 Kd.u8)) (fp := q1) (cs := d1) (x := l[i].f_Key) (.head _))
    have H := H.front (c := Ck.box g (pre ++ [.int .i64 l[i].f_N, u3] ++ post) 105)
    rw [toteKept_eq l[i]] at hb1
    refine x_index sl48 rfl (by omega) hlt (vs ?_)
    refine x_stE (j := 0) (v := .int .i64 ((k + totL toteKept (l.take i) : Nat) : Int)) H sc3 fun w3 H => ?_
    have H : Sep n w0 w3 (Ck.box g (pre ++ [.int .i64 ((k + totL toteKept (l.take i) : Nat) : Int), u3] ++ post) 105 :: _) := H.front
    have ek0 : w64 (((k + totL toteKept (l.take i) : Nat) : Int) + 1) = ((k + totL toteKept (l.take i) + 1 : Nat) : Int) := by unfold w64; omega
    refine ve ek0 ?_
    clear ek0
    refine x_index sl48 rfl (by omega) hlt (vs ?_)
    refine x_ldE (j := 1) H sc22 ?_
    refine vs ?_
    have H := H.front (c := Ck.own (Kd.slice 5 Kd.u8) q1 [u3] l[i].f_Key)
    refine x_call (markByteS_ok H (k + totL toteKept (l.take i) + 1) (by omega)) fun _ w4 ⟨e1, p1, H⟩ => ?_
    subst e1
    refine vs ?_
    have H := H.front (c := Ck.own (Kd.slice 5 Kd.u8) p1 [u3] (mkB (l[i].f_Key) (k + totL toteKept (l.take i) + 1)))
    have H := Sep.plain pl_i64 (x := ((k + totL toteKept (l.take i) : Nat) : Int)) H (by constructor <;> omega)
    have H := H.pair
    have H := Sep.iso (y := (mkeKept l[i] (k + totL toteKept (l.take i)))) (f := fun c : MKept => (c.f_N, c.f_Key)) H
    have H := H.front (c := Ck.box g (pre ++ [.int .i64 ((k + totL toteKept (l.take i) : Nat) : Int), u3] ++ post) 105)
    obtain ⟨f9, H⟩ := close H
    rw [mk_step l k i hi2] at H
    have hb3 : totL toteKept (l.take (i + 1)) = totL toteKept (l.take i) + toteKept l[i] := totL_take_succ l i hi2
    rw [toteKept_eq l[i]] at hb3
    exact ⟨(i + 1, f9), ⟨i64_eq (by show ((_ : Nat) : Int) = ((k + totL toteKept (l.take (i + 1)) : Nat) : Int); omega), i64_eq (by show w64 ((i : Int) + 1) = ((i + 1 : Nat) : Int); unfold w64; omega)⟩, ⟨hi2, H⟩, by show l.length - (i + 1) < l.length - i; omega⟩
  · refine vh fun hlt => ?_
    obtain rfl : i = l.length := by omega
    rw [List.take_length, List.drop_length, List.append_nil] at H
    rw [List.take_length]
    exact ⟨rfl, fp, H⟩
theorem heldKeptS_ok (w : World) (v : Value) (l : List MKept) (k : Nat) (h : (Kd.slice 105 kKept).rd w w.heap.size [v] (mkKeptS l k)) (hk : k + totKeptS l ≤ 4611686018427387904) :
    ACalls Try.prog 113 #[v, .int .i64 (k : Int)] w fun r w' => r = .int .i64 ((k + totKeptS l : Nat) : Int) ∧ Below w.heap.size w w' := by
  unfold totKeptS mkKeptS at *
  have hlm := sl_len h
  have hlen := mkL_len (mk := mkeKept) (tot := toteKept) l k
  obtain ⟨A, c, rfl, hc1, hc2, ha⟩ := sl_open h
  refine body_of follows Try.func113 rfl rfl _ rfl (by kernel_rfl) (vs ?_)
  refine loop_at (σ := Nat) (fun i => [(0, .slice A (mkL mkeKept toteKept l k).length c), (1, .int .i64 ((k + totL toteKept (l.take i) : Nat) : Int)), (5, .int .i64 (i : Int))])
    (fun i w' => i ≤ l.length ∧ Sep w.heap.size w w' []) (fun i => l.length - i) 0 (vs ?_) ⟨Nat.zero_le _, Sep.start w⟩ ?_
  · rfl
  rintro i s w2 ⟨hi, H⟩
  refine vs (ways ?_ ?_)
  · refine vh fun hlt => ?_
    have hi2 : i < l.length := by omega
    have hi3 : i < (mkL mkeKept toteKept l k).length := by omega
    have hb1 := totL_take_succ (tot := toteKept) l i hi2
    have hb2 := totL_take_le (tot := toteKept) l (i + 1)
    rw [toteKept_eq l[i]] at hb1
    obtain ⟨had, _, es, hr, hc0⟩ := ha i hi3
    rw [mkL_get] at hr
    have hr0 := hr
    obtain ⟨u1, rfl, uh0, uh1⟩ := kKept_open hr
    refine x_ele H sl48 rfl i hi3 ha rfl fun ad0 es0 hb0 hr0 hc0 => vs ?_
    rw [mkL_get] at hr0
    obtain ⟨y0_1, rfl, y0h0, y0h1⟩ := kKept_open hr0
    refine x_lf0 (v := .int .i64 ((k + totL toteKept (l.take i) : Nat) : Int)) sc3 hc0 (by decide) rfl ?_
    have ek0 : w64 (((k + totL toteKept (l.take i) : Nat) : Int) + 1) = ((k + totL toteKept (l.take i) + 1 : Nat) : Int) := by unfold w64; omega
    refine ve ek0 ?_
    clear ek0
    refine x_ele H sl48 rfl i hi3 ha rfl fun ad1 es1 hb1 hr1 hc1 => vs ?_
    rw [mkL_get] at hr1
    obtain ⟨y1_1, rfl, y1h0, y1h1⟩ := kKept_open hr1
    refine x_lfj sc22 hc1 (by decide) rfl ?_
    refine vs ?_
    refine x_callw (heldByteS_ok w2 _ (l[i].f_Key) (k + totL toteKept (l.take i) + 1) (H.rd y1h1) (by omega)) ?_
    have nn1 : ¬ ((k + totL toteKept (l.take i) + 1 + (l[i].f_Key).length : Nat) : Int) < 0 := by omega
    refine ve nn1 ?_
    have hb3 : totL toteKept (l.take (i + 1)) = totL toteKept (l.take i) + toteKept l[i] := totL_take_succ l i hi2
    rw [toteKept_eq l[i]] at hb3
    exact ⟨i + 1, ⟨i64_eq (by omega), i64_eq (by unfold w64; omega)⟩, ⟨hi2, H⟩, by omega⟩
  · refine vh fun hlt => ?_
    obtain rfl : i = l.length := by omega
    rw [List.take_length]
    exact ⟨rfl, H.bel⟩

/-! ### Catch -/
def totCatch (x : MCatch) : Nat := totChain (x.f_Chain) + totKeptS (x.f_List)
def mkCatch (x : MCatch) (k : Nat) : MCatch := { x with f_Chain := mkChain (x.f_Chain) (k), f_List := mkKeptS (x.f_List) (k + totChain (x.f_Chain)) }
theorem totCatch_le {x : MCatch} (h : smCatch x) : totCatch x ≤ 1099513724928 := by
  unfold smCatch at h
  unfold totCatch
  have q0 := totChain_le (h.1)
  have q1 := totKeptS_le (h.2)
  omega
theorem ownCatch {n : Nat} {w0 w : World} {L : List Ck} {f0 f1 : List Nat} {v0_0 v1 : Value} (x : MCatch) (H : Sep n w0 w (Ck.own kChain f0 [v0_0, .int .i64 x.f_Chain.f_N] x.f_Chain :: Ck.own (Kd.slice 105 kKept) f1 [v1] x.f_List :: L)) : ∃ fp, Sep n w0 w (Ck.own kCatch fp [v0_0, .int .i64 x.f_Chain.f_N, v1] x :: L) := by
  have H := H.front (c := Ck.own (Kd.slice 105 kKept) f1 [v1] x.f_List)
  have H := H.front (c := Ck.own kChain f0 [v0_0, .int .i64 x.f_Chain.f_N] x.f_Chain)
  have H := H.pair
  exact ⟨_, Sep.iso (y := x) (f := fun c : MCatch => (c.f_Chain, c.f_List)) H⟩
theorem apartCatch {n : Nat} {w0 w : World} {L : List Ck} {fp : List Nat} {cs : List Value} {x : MCatch} (H : Sep n w0 w (Ck.own kCatch fp cs x :: L)) : ∃ v0_0 v1 f0 f1, cs = [v0_0, .int .i64 x.f_Chain.f_N, v1] ∧ Sep n w0 w (Ck.own kChain f0 [v0_0, .int .i64 x.f_Chain.f_N] x.f_Chain :: Ck.own (Kd.slice 105 kKept) f1 [v1] x.f_List :: L) := by
  have H : Sep n w0 w (Ck.own (Kd.pair kChain (Kd.slice 105 kKept)) fp cs (x.f_Chain, x.f_List) :: L) := H
  obtain ⟨f0, q0, c0, d0, rfl, _, H⟩ := H.unpair
  obtain ⟨v0_0, rfl, _⟩ := kChain_open (H.own (d := kChain) (fp := f0) (cs := c0) (x := x.f_Chain) (.head _))
  have H : Sep n w0 w (Ck.own (Kd.slice 105 kKept) q0 d0 x.f_List :: _) := H.front (.there .here)
  obtain ⟨v1, rfl⟩ := sl_one (H.own (d := (Kd.slice 105 kKept)) (fp := q0) (cs := d0) (x := x.f_List) (.head _))
  have H := H.front (c := Ck.own (Kd.slice 105 kKept) q0 [v1] x.f_List)
  have H := H.front (c := Ck.own kChain f0 [v0_0, .int .i64 x.f_Chain.f_N] x.f_Chain)
  exact ⟨v0_0, v1, f0, q0, rfl, H⟩
theorem markCatch_ok {n : Nat} {w0 w : World} {M : List Ck} {fp : List Nat} {cs : List Value} {x : MCatch} (H : Sep n w0 w (Ck.own kCatch fp cs x :: M)) (k : Nat) (hk : k + totCatch x ≤ 4611686018427387904) :
    ACalls Try.prog 64 #[.agg cs.toArray, .int .i64 (k : Int)] w fun r w' => r = .int .i64 ((k + totCatch x : Nat) : Int) ∧ ∃ fp', Sep n w0 w' (Ck.own kCatch fp' cs (mkCatch x k) :: M) := by
  unfold totCatch at hk
  have H : Sep n w0 w (Ck.own (Kd.pair kChain (Kd.slice 105 kKept)) fp cs (x.f_Chain, x.f_List) :: M) := H
  obtain ⟨f0, q0, c0, d0, rfl, _, H⟩ := H.unpair
  have H : Sep n w0 w (Ck.own (Kd.slice 105 kKept) q0 d0 x.f_List :: _) := H.front (.there .here)
  obtain ⟨v0_0, rfl, _⟩ := kChain_open (H.own (d := kChain) (fp := f0) (cs := c0) (x := x.f_Chain) (.tail _ (.head _)))
  obtain ⟨v1, rfl⟩ := sl_one (H.own (d := (Kd.slice 105 kKept)) (fp := q0) (cs := d0) (x := x.f_List) (.head _))
  refine body_of follows Try.func64 rfl rfl _ rfl (by kernel_rfl) (vs ?_)
  refine x_bx H [v0_0, .int .i64 x.f_Chain.f_N, v1] fun g w1 H => vs ?_
  refine x_ldp H [v0_0, .int .i64 x.f_Chain.f_N] st43 ?_
  refine vs ?_
  have H := H.front (c := Ck.own kChain f0 [v0_0, .int .i64 x.f_Chain.f_N] (x.f_Chain))
  refine x_call (markChain_ok H (k) (by omega)) fun _ w2 ⟨e0, p0, H⟩ => ?_
  subst e0
  refine vs ?_
  refine x_ld H sc48 ?_
  refine vs ?_
  have H := H.front (c := Ck.own (Kd.slice 105 kKept) q0 [v1] (x.f_List))
  refine x_call (markKeptS_ok H (k + totChain (x.f_Chain)) (by omega)) fun _ w3 ⟨e1, p1, H⟩ => ?_
  subst e1
  refine vs ?_
  have H := H.front (c := Ck.own (Kd.slice 105 kKept) p1 [v1] (mkKeptS (x.f_List) (k + totChain (x.f_Chain))))
  have H := H.front (c := Ck.own kChain p0 [v0_0, .int .i64 x.f_Chain.f_N] (mkChain (x.f_Chain) (k)))
  have H := H.pair
  have H := Sep.iso (y := mkCatch x k) (f := fun c : MCatch => (c.f_Chain, c.f_List)) H
  exact ⟨i64_eq (by unfold totCatch; omega), _, H.drop2⟩
theorem heldCatch_ok (w : World) (cs : List Value) (x : MCatch) (k : Nat) (h : kCatch.rd w w.heap.size cs (mkCatch x k)) (hk : k + totCatch x ≤ 4611686018427387904) :
    ACalls Try.prog 65 #[.agg cs.toArray, .int .i64 (k : Int)] w fun r w' => r = .int .i64 ((k + totCatch x : Nat) : Int) ∧ Below w.heap.size w w' := by
  unfold totCatch at hk
  obtain ⟨v0_0, v1, rfl, h0, h1⟩ := kCatch_open h
  have H := Sep.start w
  refine body_of follows Try.func65 rfl rfl _ rfl (by kernel_rfl) (vs ?_)
  refine x_bx H [v0_0, .int .i64 (mkCatch x k).f_Chain.f_N, v1] fun g w1 H => vs ?_
  refine x_ldp H [v0_0, .int .i64 (mkCatch x k).f_Chain.f_N] st43 ?_
  refine vs ?_
  refine x_callb H (heldChain_ok w1 _ (x.f_Chain) (k) (H.rd h0) (by omega)) fun w2 H => ?_
  have nn0 : ¬ ((k + totChain (x.f_Chain) : Nat) : Int) < 0 := by omega
  refine ve nn0 ?_
  refine x_ld H sc48 ?_
  refine vs ?_
  refine x_callb H (heldKeptS_ok w2 _ (x.f_List) (k + totChain (x.f_Chain)) (H.rd h1) (by omega)) fun w3 H => ?_
  have nn1 : ¬ ((k + totChain (x.f_Chain) + totKeptS (x.f_List) : Nat) : Int) < 0 := by omega
  refine ve nn1 ?_
  exact ⟨i64_eq (by unfold totCatch; omega), H.bel⟩
end Go.Proofs.Ytagljofpmjaciaa.V
