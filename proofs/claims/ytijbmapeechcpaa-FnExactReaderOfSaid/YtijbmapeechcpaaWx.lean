/- What is marked in data of the program, and held, walked. Laid by a program. -/
import Derived.Test.YtijbmapeechcpaaWt
import Derived.Test.YtijbmapeechcpaaWm
import Derived.Test.YtijbmapeechcpaaVt
namespace Go.Proofs.Ytijbmapeechcpaa.V
open Go Go.RowKit
set_option maxRecDepth 100000
set_option maxHeartbeats 4000000
set_option linter.unusedSimpArgs false
set_option linter.unusedVariables false
set_option pp.deepTerms false
set_option pp.deepTerms.threshold 3

/-! ### lists of ByteS -/
def totByteSS (l : List (List UInt8)) : Nat := totL List.length l
def mkByteSS (l : List (List UInt8)) (k : Nat) : List (List UInt8) := mkL mkB List.length l k
theorem totByteSS_le {l : List (List UInt8)} (h : smByteSS l) : totByteSS l ≤ 1099511627776 := by
  refine Nat.le_trans (totL_le (B := 1048576) fun y hy => h.2 y hy) ?_
  have := h.1; omega
theorem markByteSS_ok {n : Nat} {w0 w : World} {M : List Ck} {fp : List Nat} {v : Value} {l : List (List UInt8)} (H : Sep n w0 w (Ck.own (Kd.slice 22 (Kd.slice 5 Kd.u8)) fp [v] l :: M)) (k : Nat) (hk : k + totByteSS l ≤ 4611686018427387904) :
    ACalls Try.prog 19 #[v, .int .i64 (k : Int)] w fun r w' => r = .int .i64 ((k + totByteSS l : Nat) : Int) ∧ ∃ fp', Sep n w0 w' (Ck.own (Kd.slice 22 (Kd.slice 5 Kd.u8)) fp' [v] (mkByteSS l k) :: M) := by
  unfold totByteSS mkByteSS at *
  obtain ⟨A, c, rfl, hA⟩ := own_val (show (Kd.slice 22 (Kd.slice 5 Kd.u8)).ow w fp [v] l from H.ok _ (.head _))
  have hlm := sl_len (H.own (.head _))
  refine body_of follows Try.func19 rfl rfl _ rfl (by kernel_rfl) (vs ?_)
  refine loop_at (σ := Nat × List Nat) (fun x => [(0, .slice A l.length c), (1, .int .i64 ((k + totL List.length (l.take x.1) : Nat) : Int)), (5, .int .i64 (x.1 : Int))])
    (fun x w' => x.1 ≤ l.length ∧ Sep n w0 w' (Ck.own (Kd.slice 22 (Kd.slice 5 Kd.u8)) x.2 [.slice A l.length c] (mkL mkB List.length (l.take x.1) k ++ l.drop x.1) :: M)) (fun x => l.length - x.1) (0, fp) (vs ?_) ⟨Nat.zero_le _, H⟩ ?_
  · rfl
  rintro ⟨i, fp⟩ s w2 ⟨hi, H⟩
  dsimp only at hi H
  refine vs (ways ?_ ?_)
  · refine vh fun hlt => ?_
    have hi2 : i < l.length := by omega
    obtain ⟨g, c2, pre, post, fpi, es, R, hv, hpre, H1, hes, close⟩ := H.openEl i (by simp [mkL_len]; omega)
    simp only [Value.slice.injEq] at hv
    obtain ⟨rfl, _, rfl⟩ := hv
    have H := H1
    rw [mk_at l k i hi2] at H
    have hb1 := totL_take_succ (tot := List.length) l i hi2
    have hb2 := totL_take_le (tot := List.length) l (i + 1)
    have hpre : pre.length = i := hpre.trans (Nat.mul_one i)
    obtain ⟨u, rfl⟩ := sl_one (H.own (.tail _ (.head _)))
    refine x_index sl23 rfl (by omega) hlt (vs ?_)
    refine x_ldE (j := 0) H sc22 ?_
    refine vs ?_
    have H := H.front (c := Ck.own (Kd.slice 5 Kd.u8) fpi [u] l[i])
    refine x_call (markByteS_ok H (k + totL List.length (l.take i)) (by omega)) fun _ w3 ⟨e, f2, H⟩ => ?_
    subst e
    refine vs ?_
    have H := H.front (c := Ck.box g (pre ++ [u] ++ post) 22) (.there .here)
    obtain ⟨f3, H⟩ := close H
    rw [mk_step l k i hi2] at H
    exact ⟨(i + 1, f3), ⟨i64_eq (by show ((_ : Nat) : Int) = ((k + totL List.length (l.take (i + 1)) : Nat) : Int); omega), i64_eq (by show w64 ((i : Int) + 1) = ((i + 1 : Nat) : Int); unfold w64; omega)⟩, ⟨hi2, H⟩, by show l.length - (i + 1) < l.length - i; omega⟩
  · refine vh fun hlt => ?_
    obtain rfl : i = l.length := by omega
    rw [List.take_length, List.drop_length, List.append_nil] at H
    rw [List.take_length]
    exact ⟨rfl, fp, H⟩
theorem heldByteSS_ok (w : World) (v : Value) (l : List (List UInt8)) (k : Nat) (h : (Kd.slice 22 (Kd.slice 5 Kd.u8)).rd w w.heap.size [v] (mkByteSS l k)) (hk : k + totByteSS l ≤ 4611686018427387904) :
    ACalls Try.prog 21 #[v, .int .i64 (k : Int)] w fun r w' => r = .int .i64 ((k + totByteSS l : Nat) : Int) ∧ Below w.heap.size w w' := by
  unfold totByteSS mkByteSS at *
  have hlm := sl_len h
  have hlen := mkL_len (mk := mkB) (tot := List.length) l k
  obtain ⟨A, c, rfl, hc1, hc2, ha⟩ := sl_open h
  refine body_of follows Try.func21 rfl rfl _ rfl (by kernel_rfl) (vs ?_)
  refine loop_at (σ := Nat) (fun i => [(0, .slice A (mkL mkB List.length l k).length c), (1, .int .i64 ((k + totL List.length (l.take i) : Nat) : Int)), (5, .int .i64 (i : Int))])
    (fun i w' => i ≤ l.length ∧ Sep w.heap.size w w' []) (fun i => l.length - i) 0 (vs ?_) ⟨Nat.zero_le _, Sep.start w⟩ ?_
  · rfl
  rintro i s w2 ⟨hi, H⟩
  refine vs (ways ?_ ?_)
  · refine vh fun hlt => ?_
    have hi2 : i < l.length := by omega
    have hi3 : i < (mkL mkB List.length l k).length := by omega
    have hb1 := totL_take_succ (tot := List.length) l i hi2
    have hb2 := totL_take_le (tot := List.length) l (i + 1)
    refine x_ele H sl23 rfl i hi3 ha rfl fun ad es hb hr hc => vs ?_
    obtain ⟨u, rfl⟩ := sl_one hr
    rw [mkL_get] at hr
    refine x_ld1 sc22 hc rfl (vs ?_)
    refine x_callw (heldByteS_ok w2 _ (l[i]) (k + totL List.length (l.take i)) (H.rd hr) (by omega)) ?_
    have nn : ¬ ((k + totL List.length (l.take i) + (l[i]).length : Nat) : Int) < 0 := by omega
    refine ve nn ?_
    exact ⟨i + 1, ⟨i64_eq (by omega), i64_eq (by unfold w64; omega)⟩, ⟨hi2, H⟩, by omega⟩
  · refine vh fun hlt => ?_
    obtain rfl : i = l.length := by omega
    rw [List.take_length]
    exact ⟨rfl, H.bel⟩

/-! ### Reader -/
def totReader (x : MReader) : Nat := (x.f_Seed).length + totByteSS (x.f_Seen) + totByteSS (x.f_Got)
def mkReader (x : MReader) (k : Nat) : MReader := { x with f_Seed := mkB (x.f_Seed) (k), f_Seen := mkByteSS (x.f_Seen) (k + (x.f_Seed).length), f_Got := mkByteSS (x.f_Got) (k + (x.f_Seed).length + totByteSS (x.f_Seen)) }
theorem totReader_le {x : MReader} (h : smReader x) : totReader x ≤ 2199024304128 := by
  unfold smReader at h
  unfold totReader
  have q0 := h.1
  have q2 := totByteSS_le (h.2.1)
  have q3 := totByteSS_le (h.2.2)
  omega
theorem ownReader {n : Nat} {w0 w : World} {L : List Ck} {f0 f2 f3 : List Nat} {v0 v2 v3 : Value} (x : MReader) (H : Sep n w0 w (Ck.own (Kd.slice 5 Kd.u8) f0 [v0] x.f_Seed :: Ck.own (Kd.slice 22 (Kd.slice 5 Kd.u8)) f2 [v2] x.f_Seen :: Ck.own (Kd.slice 22 (Kd.slice 5 Kd.u8)) f3 [v3] x.f_Got :: L)) (r1 : -9223372036854775808 ≤ x.f_Epoch ∧ x.f_Epoch < 9223372036854775808) : ∃ fp, Sep n w0 w (Ck.own kReader fp [v0, .int .i64 x.f_Epoch, v2, v3] x :: L) := by
  have H := H.front (c := Ck.own (Kd.slice 22 (Kd.slice 5 Kd.u8)) f3 [v3] x.f_Got)
  have H := H.front (c := Ck.own (Kd.slice 22 (Kd.slice 5 Kd.u8)) f2 [v2] x.f_Seen)
  have H := H.pair
  have H := H.plain pl_i64 (x := x.f_Epoch) r1
  have H := H.pair
  have H := H.front (c := Ck.own (Kd.slice 5 Kd.u8) f0 [v0] x.f_Seed)
  have H := H.pair
  exact ⟨_, Sep.iso (y := x) (f := fun c : MReader => (c.f_Seed, c.f_Epoch, c.f_Seen, c.f_Got)) H⟩
theorem apartReader {n : Nat} {w0 w : World} {L : List Ck} {fp : List Nat} {cs : List Value} {x : MReader} (H : Sep n w0 w (Ck.own kReader fp cs x :: L)) : ∃ v0 v2 v3 f0 f2 f3, cs = [v0, .int .i64 x.f_Epoch, v2, v3] ∧ (-9223372036854775808 ≤ x.f_Epoch ∧ x.f_Epoch < 9223372036854775808) ∧ Sep n w0 w (Ck.own (Kd.slice 5 Kd.u8) f0 [v0] x.f_Seed :: Ck.own (Kd.slice 22 (Kd.slice 5 Kd.u8)) f2 [v2] x.f_Seen :: Ck.own (Kd.slice 22 (Kd.slice 5 Kd.u8)) f3 [v3] x.f_Got :: L) := by
  have H : Sep n w0 w (Ck.own (Kd.pair (Kd.slice 5 Kd.u8) (Kd.pair Kd.i64 (Kd.pair (Kd.slice 22 (Kd.slice 5 Kd.u8)) (Kd.slice 22 (Kd.slice 5 Kd.u8))))) fp cs (x.f_Seed, x.f_Epoch, x.f_Seen, x.f_Got) :: L) := H
  obtain ⟨f0, q0, c0, d0, rfl, _, H⟩ := H.unpair
  obtain ⟨v0, rfl⟩ := sl_one (H.own (d := (Kd.slice 5 Kd.u8)) (fp := f0) (cs := c0) (x := x.f_Seed) (.head _))
  have H : Sep n w0 w (Ck.own (Kd.pair Kd.i64 (Kd.pair (Kd.slice 22 (Kd.slice 5 Kd.u8)) (Kd.slice 22 (Kd.slice 5 Kd.u8)))) q0 d0 (x.f_Epoch, x.f_Seen, x.f_Got) :: _) := H.front (.there .here)
  obtain ⟨f1, q1, c1, d1, rfl, _, H⟩ := H.unpair
  obtain ⟨rfl, r1⟩ := (H.own (d := Kd.i64) (fp := f1) (cs := c1) (x := x.f_Epoch) (.head _))
  have H := H.tail
  have H : Sep n w0 w (Ck.own (Kd.pair (Kd.slice 22 (Kd.slice 5 Kd.u8)) (Kd.slice 22 (Kd.slice 5 Kd.u8))) q1 d1 (x.f_Seen, x.f_Got) :: _) := H
  obtain ⟨f2, q2, c2, d2, rfl, _, H⟩ := H.unpair
  obtain ⟨v2, rfl⟩ := sl_one (H.own (d := (Kd.slice 22 (Kd.slice 5 Kd.u8))) (fp := f2) (cs := c2) (x := x.f_Seen) (.head _))
  have H : Sep n w0 w (Ck.own (Kd.slice 22 (Kd.slice 5 Kd.u8)) q2 d2 x.f_Got :: _) := H.front (.there .here)
  obtain ⟨v3, rfl⟩ := sl_one (H.own (d := (Kd.slice 22 (Kd.slice 5 Kd.u8))) (fp := q2) (cs := d2) (x := x.f_Got) (.head _))
  have H := H.front (c := Ck.own (Kd.slice 22 (Kd.slice 5 Kd.u8)) q2 [v3] x.f_Got)
  have H := H.front (c := Ck.own (Kd.slice 22 (Kd.slice 5 Kd.u8)) f2 [v2] x.f_Seen)
  have H := H.front (c := Ck.own (Kd.slice 5 Kd.u8) f0 [v0] x.f_Seed)
  exact ⟨v0, v2, v3, f0, f2, q2, rfl, r1, H⟩
theorem markReader_ok {n : Nat} {w0 w : World} {M : List Ck} {fp : List Nat} {cs : List Value} {x : MReader} (H : Sep n w0 w (Ck.own kReader fp cs x :: M)) (k : Nat) (hk : k + totReader x ≤ 4611686018427387904) :
    ACalls Try.prog 10 #[.agg cs.toArray, .int .i64 (k : Int)] w fun r w' => r = .int .i64 ((k + totReader x : Nat) : Int) ∧ ∃ fp', Sep n w0 w' (Ck.own kReader fp' cs (mkReader x k) :: M) := by
  unfold totReader at hk
  have H : Sep n w0 w (Ck.own (Kd.pair (Kd.slice 5 Kd.u8) (Kd.pair Kd.i64 (Kd.pair (Kd.slice 22 (Kd.slice 5 Kd.u8)) (Kd.slice 22 (Kd.slice 5 Kd.u8))))) fp cs (x.f_Seed, x.f_Epoch, x.f_Seen, x.f_Got) :: M) := H
  obtain ⟨f0, q0, c0, d0, rfl, _, H⟩ := H.unpair
  have H : Sep n w0 w (Ck.own (Kd.pair Kd.i64 (Kd.pair (Kd.slice 22 (Kd.slice 5 Kd.u8)) (Kd.slice 22 (Kd.slice 5 Kd.u8)))) q0 d0 (x.f_Epoch, x.f_Seen, x.f_Got) :: _) := H.front (.there .here)
  obtain ⟨f1, q1, c1, d1, rfl, _, H⟩ := H.unpair
  have H : Sep n w0 w (Ck.own (Kd.pair (Kd.slice 22 (Kd.slice 5 Kd.u8)) (Kd.slice 22 (Kd.slice 5 Kd.u8))) q1 d1 (x.f_Seen, x.f_Got) :: _) := H.front (.there .here)
  obtain ⟨f2, q2, c2, d2, rfl, _, H⟩ := H.unpair
  have H : Sep n w0 w (Ck.own (Kd.slice 22 (Kd.slice 5 Kd.u8)) q2 d2 x.f_Got :: _) := H.front (.there .here)
  obtain ⟨v0, rfl⟩ := sl_one (H.own (d := (Kd.slice 5 Kd.u8)) (fp := f0) (cs := c0) (x := x.f_Seed) (.tail _ (.tail _ (.tail _ (.head _)))))
  obtain ⟨rfl, r1⟩ := (H.own (d := Kd.i64) (fp := f1) (cs := c1) (x := x.f_Epoch) (.tail _ (.tail _ (.head _))))
  obtain ⟨v2, rfl⟩ := sl_one (H.own (d := (Kd.slice 22 (Kd.slice 5 Kd.u8))) (fp := f2) (cs := c2) (x := x.f_Seen) (.tail _ (.head _)))
  obtain ⟨v3, rfl⟩ := sl_one (H.own (d := (Kd.slice 22 (Kd.slice 5 Kd.u8))) (fp := q2) (cs := d2) (x := x.f_Got) (.head _))
  refine body_of follows Try.func10 rfl rfl _ rfl (by kernel_rfl) (vs ?_)
  refine x_bx H [v0, .int .i64 x.f_Epoch, v2, v3] fun g w1 H => vs ?_
  refine x_ld H sc22 ?_
  refine vs ?_
  have H := H.front (c := Ck.own (Kd.slice 5 Kd.u8) f0 [v0] (x.f_Seed))
  refine x_call (markByteS_ok H (k) (by omega)) fun _ w2 ⟨e0, p0, H⟩ => ?_
  subst e0
  refine vs ?_
  refine x_ld H sc23 ?_
  refine vs ?_
  have H := H.front (c := Ck.own (Kd.slice 22 (Kd.slice 5 Kd.u8)) f2 [v2] (x.f_Seen))
  refine x_call (markByteSS_ok H (k + (x.f_Seed).length) (by omega)) fun _ w3 ⟨e2, p2, H⟩ => ?_
  subst e2
  refine vs ?_
  refine x_ld H sc23 ?_
  refine vs ?_
  have H := H.front (c := Ck.own (Kd.slice 22 (Kd.slice 5 Kd.u8)) q2 [v3] (x.f_Got))
  refine x_call (markByteSS_ok H (k + (x.f_Seed).length + totByteSS (x.f_Seen)) (by omega)) fun _ w4 ⟨e3, p3, H⟩ => ?_
  subst e3
  refine vs ?_
  have H := H.front (c := Ck.own (Kd.slice 22 (Kd.slice 5 Kd.u8)) p3 [v3] (mkByteSS (x.f_Got) (k + (x.f_Seed).length + totByteSS (x.f_Seen))))
  have H := H.front (c := Ck.own (Kd.slice 22 (Kd.slice 5 Kd.u8)) p2 [v2] (mkByteSS (x.f_Seen) (k + (x.f_Seed).length)))
  have H := H.pair
  have H := H.front (c := Ck.own Kd.i64 f1 [.int .i64 x.f_Epoch] (x.f_Epoch))
  have H := H.pair
  have H := H.front (c := Ck.own (Kd.slice 5 Kd.u8) p0 [v0] (mkB (x.f_Seed) (k)))
  have H := H.pair
  have H := Sep.iso (y := mkReader x k) (f := fun c : MReader => (c.f_Seed, c.f_Epoch, c.f_Seen, c.f_Got)) H
  exact ⟨i64_eq (by unfold totReader; omega), _, H.drop2⟩
theorem heldReader_ok (w : World) (cs : List Value) (x : MReader) (k : Nat) (h : kReader.rd w w.heap.size cs (mkReader x k)) (hk : k + totReader x ≤ 4611686018427387904) :
    ACalls Try.prog 11 #[.agg cs.toArray, .int .i64 (k : Int)] w fun r w' => r = .int .i64 ((k + totReader x : Nat) : Int) ∧ Below w.heap.size w w' := by
  unfold totReader at hk
  obtain ⟨v0, v2, v3, rfl, h0, h1, h2, h3⟩ := kReader_open h
  have H := Sep.start w
  refine body_of follows Try.func11 rfl rfl _ rfl (by kernel_rfl) (vs ?_)
  refine x_bx H [v0, .int .i64 (mkReader x k).f_Epoch, v2, v3] fun g w1 H => vs ?_
  refine x_ld H sc22 ?_
  refine vs ?_
  refine x_callw (heldByteS_ok w1 _ (x.f_Seed) (k) (H.rd h0) (by omega)) ?_
  have nn0 : ¬ ((k + (x.f_Seed).length : Nat) : Int) < 0 := by omega
  refine ve nn0 ?_
  refine x_ld H sc23 ?_
  refine vs ?_
  refine x_callb H (heldByteSS_ok w1 _ (x.f_Seen) (k + (x.f_Seed).length) (H.rd h2) (by omega)) fun w2 H => ?_
  have nn2 : ¬ ((k + (x.f_Seed).length + totByteSS (x.f_Seen) : Nat) : Int) < 0 := by omega
  refine ve nn2 ?_
  refine x_ld H sc23 ?_
  refine vs ?_
  refine x_callb H (heldByteSS_ok w2 _ (x.f_Got) (k + (x.f_Seed).length + totByteSS (x.f_Seen)) (H.rd h3) (by omega)) fun w3 H => ?_
  have nn3 : ¬ ((k + (x.f_Seed).length + totByteSS (x.f_Seen) + totByteSS (x.f_Got) : Nat) : Int) < 0 := by omega
  refine ve nn3 ?_
  exact ⟨i64_eq (by unfold totReader; omega), H.bel⟩
end Go.Proofs.Ytijbmapeechcpaa.V
