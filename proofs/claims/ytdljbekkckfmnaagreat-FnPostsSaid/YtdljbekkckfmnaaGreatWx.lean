/- What is marked in data of the program, and held, walked. Laid by a program. -/
import Derived.Test.YtdljbekkckfmnaaGreatWt
import Derived.Test.YtdljbekkckfmnaaGreatWm
import Derived.Test.YtdljbekkckfmnaaGreatWmt
import Derived.Test.YtdljbekkckfmnaaGreatVt
namespace Go.Proofs.YtdljbekkckfmnaaGreat.V
open Go Go.RowKit
set_option maxRecDepth 100000
set_option maxHeartbeats 4000000
set_option linter.unusedSimpArgs false
set_option linter.unusedVariables false
set_option pp.deepTerms false
set_option pp.deepTerms.threshold 3

/-! ### lists of ByteS -/
def totByteSS (l : List (List UInt8)) : Nat := totL List.length l
def mkByteSS (l : List (List UInt8)) (k : Nat) : List (List UInt8) := mkL mkB List.length l k
theorem totByteSS_le {l : List (List UInt8)} (h : smByteSS l) : totByteSS l ≤ 1099511627776 := by
  refine Nat.le_trans (totL_le (B := 1048576) fun y hy => h.2 y hy) ?_
  have := h.1; omega
theorem markByteSS_ok {n : Nat} {w0 w : World} {M : List Ck} {fp : List Nat} {v : Value} {l : List (List UInt8)} (H : Sep n w0 w (Ck.own (Kd.slice 22 (Kd.slice 5 Kd.u8)) fp [v] l :: M)) (k : Nat) (hk : k + totByteSS l ≤ 4611686018427387904) :
    ACalls Tryz.prog 48 #[v, .int .i64 (k : Int)] w fun r w' => r = .int .i64 ((k + totByteSS l : Nat) : Int) ∧ ∃ fp', Sep n w0 w' (Ck.own (Kd.slice 22 (Kd.slice 5 Kd.u8)) fp' [v] (mkByteSS l k) :: M) := by
  unfold totByteSS mkByteSS at *
  obtain ⟨A, c, rfl, hA⟩ := own_val (show (Kd.slice 22 (Kd.slice 5 Kd.u8)).ow w fp [v] l from H.ok _ (.head _))
  have hlm := sl_len (H.own (.head _))
  refine body_of follows Tryz.func48 rfl rfl _ rfl (by kernel_rfl) (vs ?_)
  refine loop_at (σ := Nat × List Nat) (fun x => [(0, .slice A l.length c), (1, .int .i64 ((k + totL List.length (l.take x.1) : Nat) : Int)), (5, .int .i64 (x.1 : Int))])
    (fun x w' => x.1 ≤ l.length ∧ Sep n w0 w' (Ck.own (Kd.slice 22 (Kd.slice 5 Kd.u8)) x.2 [.slice A l.length c] (mkL mkB List.length (l.take x.1) k ++ l.drop x.1) :: M)) (fun x => l.length - x.1) (0, fp) (vs ?_) ⟨Nat.zero_le _, H⟩ ?_
  · rfl
  rintro ⟨i, fp⟩ s w2 ⟨hi, H⟩
  dsimp only at hi H
  refine vs (ways ?_ ?_)
  · refine vh fun hlt => ?_
    have hi2 : i < l.length := by omega
    obtain ⟨g, c2, pre, post, fpi, es, R, hv, hpre, H1, hes, close⟩ := H.openEl i (by simp [mkL_len]; omega)
    simp only [Value.slice.injEq] at hv
    obtain ⟨rfl, _, rfl⟩ := hv
    have H := H1
    rw [mk_at l k i hi2] at H
    have hb1 := totL_take_succ (tot := List.length) l i hi2
    have hb2 := totL_take_le (tot := List.length) l (i + 1)
    have hpre : pre.length = i := hpre.trans (Nat.mul_one i)
    obtain ⟨u, rfl⟩ := sl_one (H.own (.tail _ (.head _)))
    refine x_index sl38 rfl (by omega) hlt (vs ?_)
    refine x_ldE (j := 0) H sc22 ?_
    refine vs ?_
    have H := H.front (c := Ck.own (Kd.slice 5 Kd.u8) fpi [u] l[i])
    refine x_call (markByteS_ok H (k + totL List.length (l.take i)) (by omega)) fun _ w3 ⟨e, f2, H⟩ => ?_
    subst e
    refine vs ?_
    have H := H.front (c := Ck.box g (pre ++ [u] ++ post) 22) (.there .here)
    obtain ⟨f3, H⟩ := close H
    rw [mk_step l k i hi2] at H
    exact ⟨(i + 1, f3), ⟨i64_eq (by show ((_ : Nat) : Int) = ((k + totL List.length (l.take (i + 1)) : Nat) : Int); omega), i64_eq (by show w64 ((i : Int) + 1) = ((i + 1 : Nat) : Int); unfold w64; omega)⟩, ⟨hi2, H⟩, by show l.length - (i + 1) < l.length - i; omega⟩
  · refine vh fun hlt => ?_
    obtain rfl : i = l.length := by omega
    rw [List.take_length, List.drop_length, List.append_nil] at H
    rw [List.take_length]
    exact ⟨rfl, fp, H⟩
theorem heldByteSS_ok (w : World) (v : Value) (l : List (List UInt8)) (k : Nat) (h : (Kd.slice 22 (Kd.slice 5 Kd.u8)).rd w w.heap.size [v] (mkByteSS l k)) (hk : k + totByteSS l ≤ 4611686018427387904) :
    ACalls Tryz.prog 49 #[v, .int .i64 (k : Int)] w fun r w' => r = .int .i64 ((k + totByteSS l : Nat) : Int) ∧ Below w.heap.size w w' := by
  unfold totByteSS mkByteSS at *
  have hlm := sl_len h
  have hlen := mkL_len (mk := mkB) (tot := List.length) l k
  obtain ⟨A, c, rfl, hc1, hc2, ha⟩ := sl_open h
  refine body_of follows Tryz.func49 rfl rfl _ rfl (by kernel_rfl) (vs ?_)
  refine loop_at (σ := Nat) (fun i => [(0, .slice A (mkL mkB List.length l k).length c), (1, .int .i64 ((k + totL List.length (l.take i) : Nat) : Int)), (5, .int .i64 (i : Int))])
    (fun i w' => i ≤ l.length ∧ Sep w.heap.size w w' []) (fun i => l.length - i) 0 (vs ?_) ⟨Nat.zero_le _, Sep.start w⟩ ?_
  · rfl
  rintro i s w2 ⟨hi, H⟩
  refine vs (ways ?_ ?_)
  · refine vh fun hlt => ?_
    have hi2 : i < l.length := by omega
    have hi3 : i < (mkL mkB List.length l k).length := by omega
    have hb1 := totL_take_succ (tot := List.length) l i hi2
    have hb2 := totL_take_le (tot := List.length) l (i + 1)
    refine x_ele H sl38 rfl i hi3 ha rfl fun ad es hb hr hc => vs ?_
    obtain ⟨u, rfl⟩ := sl_one hr
    rw [mkL_get] at hr
    refine x_ld1 sc22 hc rfl (vs ?_)
    refine x_callw (heldByteS_ok w2 _ (l[i]) (k + totL List.length (l.take i)) (H.rd hr) (by omega)) ?_
    have nn : ¬ ((k + totL List.length (l.take i) + (l[i]).length : Nat) : Int) < 0 := by omega
    refine ve nn ?_
    exact ⟨i + 1, ⟨i64_eq (by omega), i64_eq (by unfold w64; omega)⟩, ⟨hi2, H⟩, by omega⟩
  · refine vh fun hlt => ?_
    obtain rfl : i = l.length := by omega
    rw [List.take_length]
    exact ⟨rfl, H.bel⟩

/-! ### Item -/
def totItem (x : MItem) : Nat := (x.f_Bytes).length
def mkItem (x : MItem) (k : Nat) : MItem := { x with f_Bytes := mkB (x.f_Bytes) (k) }
theorem totItem_le {x : MItem} (h : smItem x) : totItem x ≤ 1048576 := by
  unfold smItem at h
  unfold totItem
  have q3 := h.2
  omega
theorem ownItem {n : Nat} {w0 w : World} {L : List Ck} {f3 : List Nat} {v3 : Value} (x : MItem) (H : Sep n w0 w (Ck.own (Kd.slice 5 Kd.u8) f3 [v3] x.f_Bytes :: L)) (r0 : (x.f_Route).length ≤ 9223372036854775807) (r1 : -9223372036854775808 ≤ x.f_Topic ∧ x.f_Topic < 9223372036854775808) (r2 : -9223372036854775808 ≤ x.f_Due ∧ x.f_Due < 9223372036854775808) : ∃ fp, Sep n w0 w (Ck.own kItem fp [.string ⟨(x.f_Route).toArray⟩, .int .i64 x.f_Topic, .int .i64 x.f_Due, v3] x :: L) := by
  have H := H.front (c := Ck.own (Kd.slice 5 Kd.u8) f3 [v3] x.f_Bytes)
  have H := H.plain pl_i64 (x := x.f_Due) r2
  have H := H.pair
  have H := H.plain pl_i64 (x := x.f_Topic) r1
  have H := H.pair
  have H := H.plain pl_str (x := x.f_Route) r0
  have H := H.pair
  exact ⟨_, Sep.iso (y := x) (f := fun c : MItem => (c.f_Route, c.f_Topic, c.f_Due, c.f_Bytes)) H⟩
theorem apartItem {n : Nat} {w0 w : World} {L : List Ck} {fp : List Nat} {cs : List Value} {x : MItem} (H : Sep n w0 w (Ck.own kItem fp cs x :: L)) : ∃ v3 f3, cs = [.string ⟨(x.f_Route).toArray⟩, .int .i64 x.f_Topic, .int .i64 x.f_Due, v3] ∧ ((x.f_Route).length ≤ 9223372036854775807) ∧ (-9223372036854775808 ≤ x.f_Topic ∧ x.f_Topic < 9223372036854775808) ∧ (-9223372036854775808 ≤ x.f_Due ∧ x.f_Due < 9223372036854775808) ∧ Sep n w0 w (Ck.own (Kd.slice 5 Kd.u8) f3 [v3] x.f_Bytes :: L) := by
  have H : Sep n w0 w (Ck.own (Kd.pair Kd.str (Kd.pair Kd.i64 (Kd.pair Kd.i64 (Kd.slice 5 Kd.u8)))) fp cs (x.f_Route, x.f_Topic, x.f_Due, x.f_Bytes) :: L) := H
  obtain ⟨f0, q0, c0, d0, rfl, _, H⟩ := H.unpair
  obtain ⟨rfl, r0⟩ := (H.own (d := Kd.str) (fp := f0) (cs := c0) (x := x.f_Route) (.head _))
  have H := H.tail
  have H : Sep n w0 w (Ck.own (Kd.pair Kd.i64 (Kd.pair Kd.i64 (Kd.slice 5 Kd.u8))) q0 d0 (x.f_Topic, x.f_Due, x.f_Bytes) :: _) := H
  obtain ⟨f1, q1, c1, d1, rfl, _, H⟩ := H.unpair
  obtain ⟨rfl, r1⟩ := (H.own (d := Kd.i64) (fp := f1) (cs := c1) (x := x.f_Topic) (.head _))
  have H := H.tail
  have H : Sep n w0 w (Ck.own (Kd.pair Kd.i64 (Kd.slice 5 Kd.u8)) q1 d1 (x.f_Due, x.f_Bytes) :: _) := H
  obtain ⟨f2, q2, c2, d2, rfl, _, H⟩ := H.unpair
  obtain ⟨rfl, r2⟩ := (H.own (d := Kd.i64) (fp := f2) (cs := c2) (x := x.f_Due) (.head _))
  have H := H.tail
  have H : Sep n w0 w (Ck.own (Kd.slice 5 Kd.u8) q2 d2 x.f_Bytes :: _) := H
  obtain ⟨v3, rfl⟩ := sl_one (H.own (d := (Kd.slice 5 Kd.u8)) (fp := q2) (cs := d2) (x := x.f_Bytes) (.head _))
  have H := H.front (c := Ck.own (Kd.slice 5 Kd.u8) q2 [v3] x.f_Bytes)
  exact ⟨v3, q2, rfl, r0, r1, r2, H⟩

/-! ### lists of Item -/
def toteItem (x : MItem) : Nat := 1 + 1 + 1 + (x.f_Bytes).length
def mkeItem (x : MItem) (k : Nat) : MItem := { x with f_Route := mkText (k), f_Topic := ((k + 1 : Nat) : Int), f_Due := ((k + 1 + 1 : Nat) : Int), f_Bytes := mkB (x.f_Bytes) (k + 1 + 1 + 1) }
theorem toteItem_eq (x : MItem) : toteItem x = 1 + 1 + 1 + (x.f_Bytes).length := rfl
def totItemS (l : List MItem) : Nat := totL toteItem l
def mkItemS (l : List MItem) (k : Nat) : List MItem := mkL mkeItem toteItem l k
theorem toteItem_le {x : MItem} (h : smItem x) : toteItem x ≤ 1048579 := by
  unfold smItem at h
  unfold toteItem
  have q0 := h.2
  omega
theorem totItemS_le {l : List MItem} (h : smItemS l) : totItemS l ≤ 1099514773504 := by
  refine Nat.le_trans (totL_le (B := 1048579) fun y hy => toteItem_le (h.2 y hy)) ?_
  have := h.1; omega
theorem markItemS_ok {n : Nat} {w0 w : World} {M : List Ck} {fp : List Nat} {v : Value} {l : List MItem} (H : Sep n w0 w (Ck.own (Kd.slice 32 kItem) fp [v] l :: M)) (k : Nat) (hk : k + totItemS l ≤ 4611686018427387904) :
    ACalls Tryz.prog 94 #[v, .int .i64 (k : Int)] w fun r w' => r = .int .i64 ((k + totItemS l : Nat) : Int) ∧ ∃ fp', Sep n w0 w' (Ck.own (Kd.slice 32 kItem) fp' [v] (mkItemS l k) :: M) := by
  unfold totItemS mkItemS at *
  obtain ⟨A, c, rfl, hA⟩ := own_val (show (Kd.slice 32 kItem).ow w fp [v] l from H.ok _ (.head _))
  have hlm := sl_len (H.own (.head _))
  refine body_of follows Tryz.func94 rfl rfl _ rfl (by kernel_rfl) (vs ?_)
  refine loop_at (σ := Nat × List Nat) (fun x => [(0, .slice A l.length c), (1, .int .i64 ((k + totL toteItem (l.take x.1) : Nat) : Int)), (5, .int .i64 (x.1 : Int))])
    (fun x w' => x.1 ≤ l.length ∧ Sep n w0 w' (Ck.own (Kd.slice 32 kItem) x.2 [.slice A l.length c] (mkL mkeItem toteItem (l.take x.1) k ++ l.drop x.1) :: M)) (fun x => l.length - x.1) (0, fp) (vs ?_) ⟨Nat.zero_le _, H⟩ ?_
  · rfl
  rintro ⟨i, fp⟩ s w2 ⟨hi, H⟩
  dsimp only at hi H
  refine vs (ways ?_ ?_)
  · refine vh fun hlt => ?_
    have hi2 : i < l.length := by omega
    obtain ⟨g, c2, pre, post, fpi, es, R, hv, hpre, H1, hes, close⟩ := H.openEl i (by simp [mkL_len]; omega)
    simp only [Value.slice.injEq] at hv
    obtain ⟨rfl, _, rfl⟩ := hv
    have H := H1
    rw [mk_at l k i hi2] at H
    have hb1 := totL_take_succ (tot := toteItem) l i hi2
    have hb2 := totL_take_le (tot := toteItem) l (i + 1)
    have hpre : pre.length = i * 4 := hpre
    have H := H.front (c := Ck.own kItem fpi es l[i]) (.there .here)
    have H : Sep n w0 _ (Ck.own (Kd.pair Kd.str (Kd.pair Kd.i64 (Kd.pair Kd.i64 (Kd.slice 5 Kd.u8)))) fpi es (l[i].f_Route, l[i].f_Topic, l[i].f_Due, l[i].f_Bytes) :: _) := H
    obtain ⟨f1, q1, c1, d1, rfl, _, H⟩ := H.unpair
    obtain ⟨rfl, r2⟩ := (H.own (d := Kd.str) (fp := f1) (cs := c1) (x := l[i].f_Route) (.head _))
    have H := H.tail
    have H : Sep n w0 _ (Ck.own (Kd.pair Kd.i64 (Kd.pair Kd.i64 (Kd.slice 5 Kd.u8))) q1 d1 (l[i].f_Topic, l[i].f_Due, l[i].f_Bytes) :: _) := H
    obtain ⟨f3, q3, c3, d3, rfl, _, H⟩ := H.unpair
    obtain ⟨rfl, r4⟩ := (H.own (d := Kd.i64) (fp := f3) (cs := c3) (x := l[i].f_Topic) (.head _))
    have H := H.tail
    have H : Sep n w0 _ (Ck.own (Kd.pair Kd.i64 (Kd.slice 5 Kd.u8)) q3 d3 (l[i].f_Due, l[i].f_Bytes) :: _) := H
    obtain ⟨f5, q5, c5, d5, rfl, _, H⟩ := H.unpair
    obtain ⟨rfl, r6⟩ := (H.own (d := Kd.i64) (fp := f5) (cs := c5) (x := l[i].f_Due) (.head _))
    have H := H.tail
    have H : Sep n w0 _ (Ck.own (Kd.slice 5 Kd.u8) q5 d5 l[i].f_Bytes :: _) := H
    obtain ⟨u7, rfl⟩ := sl_one (H.own (d := (Kd.slice 5 Kd.u8)) (fp := q5) (cs := d5) (x := l[i].f_Bytes) (.head _))
    have H := H.front (c := Ck.box g (pre ++ [.string ⟨(l[i].f_Route).toArray⟩, .int .i64 l[i].f_Topic, .int .i64 l[i].f_Due, u7] ++ post) 32)
    rw [toteItem_eq l[i]] at hb1
    refine x_callb H (markText_ok _ (k + totL toteItem (l.take i)) (by omega)) fun w3 H => vs ?_
    refine x_index sl24 rfl (by omega) hlt (vs ?_)
    refine x_stE (j := 0) (v := .string ⟨(mkText (k + totL toteItem (l.take i))).toArray⟩) H sc9 fun w4 H => ?_
    have H : Sep n w0 w4 (Ck.box g (pre ++ [.string ⟨(mkText (k + totL toteItem (l.take i))).toArray⟩, .int .i64 l[i].f_Topic, .int .i64 l[i].f_Due, u7] ++ post) 32 :: _) := H.front
    have ek0 : w64 (((k + totL toteItem (l.take i) : Nat) : Int) + 1) = ((k + totL toteItem (l.take i) + 1 : Nat) : Int) := by unfold w64; omega
    refine ve ek0 ?_
    clear ek0
    refine x_index sl24 rfl (by omega) hlt (vs ?_)
    refine x_stE (j := 1) (v := .int .i64 ((k + totL toteItem (l.take i) + 1 : Nat) : Int)) H sc3 fun w5 H => ?_
    have H : Sep n w0 w5 (Ck.box g (pre ++ [.string ⟨(mkText (k + totL toteItem (l.take i))).toArray⟩, .int .i64 ((k + totL toteItem (l.take i) + 1 : Nat) : Int), .int .i64 l[i].f_Due, u7] ++ post) 32 :: _) := H.front
    have ek1 : w64 (((k + totL toteItem (l.take i) + 1 : Nat) : Int) + 1) = ((k + totL toteItem (l.take i) + 1 + 1 : Nat) : Int) := by unfold w64; omega
    refine ve ek1 ?_
    clear ek1
    refine x_index sl24 rfl (by omega) hlt (vs ?_)
    refine x_stE (j := 2) (v := .int .i64 ((k + totL toteItem (l.take i) + 1 + 1 : Nat) : Int)) H sc3 fun w6 H => ?_
    have H : Sep n w0 w6 (Ck.box g (pre ++ [.string ⟨(mkText (k + totL toteItem (l.take i))).toArray⟩, .int .i64 ((k + totL toteItem (l.take i) + 1 : Nat) : Int), .int .i64 ((k + totL toteItem (l.take i) + 1 + 1 : Nat) : Int), u7] ++ post) 32 :: _) := H.front
    have ek2 : w64 (((k + totL toteItem (l.take i) + 1 + 1 : Nat) : Int) + 1) = ((k + totL toteItem (l.take i) + 1 + 1 + 1 : Nat) : Int) := by unfold w64; omega
    refine ve ek2 ?_
    clear ek2
    refine x_index sl24 rfl (by omega) hlt (vs ?_)
    refine x_ldE (j := 3) H sc22 ?_
    refine vs ?_
    have H := H.front (c := Ck.own (Kd.slice 5 Kd.u8) q5 [u7] l[i].f_Bytes)
    refine x_call (markByteS_ok H (k + totL toteItem (l.take i) + 1 + 1 + 1) (by omega)) fun _ w7 ⟨e3, p3, H⟩ => ?_
    subst e3
    refine vs ?_
    have H := H.front (c := Ck.own (Kd.slice 5 Kd.u8) p3 [u7] (mkB (l[i].f_Bytes) (k + totL toteItem (l.take i) + 1 + 1 + 1)))
    have H := Sep.plain pl_i64 (x := ((k + totL toteItem (l.take i) + 1 + 1 : Nat) : Int)) H (by constructor <;> omega)
    have H := H.pair
    have H := Sep.plain pl_i64 (x := ((k + totL toteItem (l.take i) + 1 : Nat) : Int)) H (by constructor <;> omega)
    have H := H.pair
    have H := Sep.plain pl_str (x := mkText (k + totL toteItem (l.take i))) H (mkText_len _ (by omega))
    have H := H.pair
    have H := Sep.iso (y := (mkeItem l[i] (k + totL toteItem (l.take i)))) (f := fun c : MItem => (c.f_Route, c.f_Topic, c.f_Due, c.f_Bytes)) H
    have H := H.front (c := Ck.box g (pre ++ [.string ⟨(mkText (k + totL toteItem (l.take i))).toArray⟩, .int .i64 ((k + totL toteItem (l.take i) + 1 : Nat) : Int), .int .i64 ((k + totL toteItem (l.take i) + 1 + 1 : Nat) : Int), u7] ++ post) 32)
    obtain ⟨f9, H⟩ := close H
    rw [mk_step l k i hi2] at H
    have hb3 : totL toteItem (l.take (i + 1)) = totL toteItem (l.take i) + toteItem l[i] := totL_take_succ l i hi2
    rw [toteItem_eq l[i]] at hb3
    exact ⟨(i + 1, f9), ⟨i64_eq (by show ((_ : Nat) : Int) = ((k + totL toteItem (l.take (i + 1)) : Nat) : Int); omega), i64_eq (by show w64 ((i : Int) + 1) = ((i + 1 : Nat) : Int); unfold w64; omega)⟩, ⟨hi2, H⟩, by show l.length - (i + 1) < l.length - i; omega⟩
  · refine vh fun hlt => ?_
    obtain rfl : i = l.length := by omega
    rw [List.take_length, List.drop_length, List.append_nil] at H
    rw [List.take_length]
    exact ⟨rfl, fp, H⟩

/-! ### Line -/
def totLine (x : MLine) : Nat := (x.f_Bytes).length
def mkLine (x : MLine) (k : Nat) : MLine := { x with f_Bytes := mkB (x.f_Bytes) (k) }
theorem totLine_le {x : MLine} (h : smLine x) : totLine x ≤ 1048576 := by
  unfold smLine at h
  unfold totLine
  have q4 := h.2
  omega
theorem ownLine {n : Nat} {w0 w : World} {L : List Ck} {f4 : List Nat} {v4 : Value} (x : MLine) (H : Sep n w0 w (Ck.own (Kd.slice 5 Kd.u8) f4 [v4] x.f_Bytes :: L)) (r0 : -9223372036854775808 ≤ x.f_Kind ∧ x.f_Kind < 9223372036854775808) (r1 : (x.f_Route).length ≤ 9223372036854775807) (r2 : -9223372036854775808 ≤ x.f_Topic ∧ x.f_Topic < 9223372036854775808) (r3 : -9223372036854775808 ≤ x.f_Due ∧ x.f_Due < 9223372036854775808) : ∃ fp, Sep n w0 w (Ck.own kLine fp [.int .i64 x.f_Kind, .string ⟨(x.f_Route).toArray⟩, .int .i64 x.f_Topic, .int .i64 x.f_Due, v4] x :: L) := by
  have H := H.front (c := Ck.own (Kd.slice 5 Kd.u8) f4 [v4] x.f_Bytes)
  have H := H.plain pl_i64 (x := x.f_Due) r3
  have H := H.pair
  have H := H.plain pl_i64 (x := x.f_Topic) r2
  have H := H.pair
  have H := H.plain pl_str (x := x.f_Route) r1
  have H := H.pair
  have H := H.plain pl_i64 (x := x.f_Kind) r0
  have H := H.pair
  exact ⟨_, Sep.iso (y := x) (f := fun c : MLine => (c.f_Kind, c.f_Route, c.f_Topic, c.f_Due, c.f_Bytes)) H⟩
theorem apartLine {n : Nat} {w0 w : World} {L : List Ck} {fp : List Nat} {cs : List Value} {x : MLine} (H : Sep n w0 w (Ck.own kLine fp cs x :: L)) : ∃ v4 f4, cs = [.int .i64 x.f_Kind, .string ⟨(x.f_Route).toArray⟩, .int .i64 x.f_Topic, .int .i64 x.f_Due, v4] ∧ (-9223372036854775808 ≤ x.f_Kind ∧ x.f_Kind < 9223372036854775808) ∧ ((x.f_Route).length ≤ 9223372036854775807) ∧ (-9223372036854775808 ≤ x.f_Topic ∧ x.f_Topic < 9223372036854775808) ∧ (-9223372036854775808 ≤ x.f_Due ∧ x.f_Due < 9223372036854775808) ∧ Sep n w0 w (Ck.own (Kd.slice 5 Kd.u8) f4 [v4] x.f_Bytes :: L) := by
  have H : Sep n w0 w (Ck.own (Kd.pair Kd.i64 (Kd.pair Kd.str (Kd.pair Kd.i64 (Kd.pair Kd.i64 (Kd.slice 5 Kd.u8))))) fp cs (x.f_Kind, x.f_Route, x.f_Topic, x.f_Due, x.f_Bytes) :: L) := H
  obtain ⟨f0, q0, c0, d0, rfl, _, H⟩ := H.unpair
  obtain ⟨rfl, r0⟩ := (H.own (d := Kd.i64) (fp := f0) (cs := c0) (x := x.f_Kind) (.head _))
  have H := H.tail
  have H : Sep n w0 w (Ck.own (Kd.pair Kd.str (Kd.pair Kd.i64 (Kd.pair Kd.i64 (Kd.slice 5 Kd.u8)))) q0 d0 (x.f_Route, x.f_Topic, x.f_Due, x.f_Bytes) :: _) := H
  obtain ⟨f1, q1, c1, d1, rfl, _, H⟩ := H.unpair
  obtain ⟨rfl, r1⟩ := (H.own (d := Kd.str) (fp := f1) (cs := c1) (x := x.f_Route) (.head _))
  have H := H.tail
  have H : Sep n w0 w (Ck.own (Kd.pair Kd.i64 (Kd.pair Kd.i64 (Kd.slice 5 Kd.u8))) q1 d1 (x.f_Topic, x.f_Due, x.f_Bytes) :: _) := H
  obtain ⟨f2, q2, c2, d2, rfl, _, H⟩ := H.unpair
  obtain ⟨rfl, r2⟩ := (H.own (d := Kd.i64) (fp := f2) (cs := c2) (x := x.f_Topic) (.head _))
  have H := H.tail
  have H : Sep n w0 w (Ck.own (Kd.pair Kd.i64 (Kd.slice 5 Kd.u8)) q2 d2 (x.f_Due, x.f_Bytes) :: _) := H
  obtain ⟨f3, q3, c3, d3, rfl, _, H⟩ := H.unpair
  obtain ⟨rfl, r3⟩ := (H.own (d := Kd.i64) (fp := f3) (cs := c3) (x := x.f_Due) (.head _))
  have H := H.tail
  have H : Sep n w0 w (Ck.own (Kd.slice 5 Kd.u8) q3 d3 x.f_Bytes :: _) := H
  obtain ⟨v4, rfl⟩ := sl_one (H.own (d := (Kd.slice 5 Kd.u8)) (fp := q3) (cs := d3) (x := x.f_Bytes) (.head _))
  have H := H.front (c := Ck.own (Kd.slice 5 Kd.u8) q3 [v4] x.f_Bytes)
  exact ⟨v4, q3, rfl, r0, r1, r2, r3, H⟩

/-! ### Post -/
def totPost (x : MPost) : Nat := totItemS (x.f_Queue) + (x.f_Book).length
def mkPost (x : MPost) (k : Nat) : MPost := { x with f_Queue := mkItemS (x.f_Queue) (k), f_Book := mkB (x.f_Book) (k + totItemS (x.f_Queue)) }
theorem totPost_le {x : MPost} (h : smPost x) : totPost x ≤ 1099515822080 := by
  unfold smPost at h
  unfold totPost
  have q0 := totItemS_le (h.1)
  have q2 := h.2
  omega
theorem ownPost {n : Nat} {w0 w : World} {L : List Ck} {f0 f2 : List Nat} {v0 v2 : Value} (x : MPost) (H : Sep n w0 w (Ck.own (Kd.slice 32 kItem) f0 [v0] x.f_Queue :: Ck.own (Kd.slice 5 Kd.u8) f2 [v2] x.f_Book :: L)) (r1 : -9223372036854775808 ≤ x.f_Time ∧ x.f_Time < 9223372036854775808) (r3 : -9223372036854775808 ≤ x.f_Sure ∧ x.f_Sure < 9223372036854775808) : ∃ fp, Sep n w0 w (Ck.own kPost fp [v0, .int .i64 x.f_Time, v2, .int .i64 x.f_Sure] x :: L) := by
  have H := H.plain pl_i64 (x := x.f_Sure) r3
  have H := H.front (c := Ck.own (Kd.slice 5 Kd.u8) f2 [v2] x.f_Book)
  have H := H.pair
  have H := H.plain pl_i64 (x := x.f_Time) r1
  have H := H.pair
  have H := H.front (c := Ck.own (Kd.slice 32 kItem) f0 [v0] x.f_Queue)
  have H := H.pair
  exact ⟨_, Sep.iso (y := x) (f := fun c : MPost => (c.f_Queue, c.f_Time, c.f_Book, c.f_Sure)) H⟩
theorem apartPost {n : Nat} {w0 w : World} {L : List Ck} {fp : List Nat} {cs : List Value} {x : MPost} (H : Sep n w0 w (Ck.own kPost fp cs x :: L)) : ∃ v0 v2 f0 f2, cs = [v0, .int .i64 x.f_Time, v2, .int .i64 x.f_Sure] ∧ (-9223372036854775808 ≤ x.f_Time ∧ x.f_Time < 9223372036854775808) ∧ (-9223372036854775808 ≤ x.f_Sure ∧ x.f_Sure < 9223372036854775808) ∧ Sep n w0 w (Ck.own (Kd.slice 32 kItem) f0 [v0] x.f_Queue :: Ck.own (Kd.slice 5 Kd.u8) f2 [v2] x.f_Book :: L) := by
  have H : Sep n w0 w (Ck.own (Kd.pair (Kd.slice 32 kItem) (Kd.pair Kd.i64 (Kd.pair (Kd.slice 5 Kd.u8) Kd.i64))) fp cs (x.f_Queue, x.f_Time, x.f_Book, x.f_Sure) :: L) := H
  obtain ⟨f0, q0, c0, d0, rfl, _, H⟩ := H.unpair
  obtain ⟨v0, rfl⟩ := sl_one (H.own (d := (Kd.slice 32 kItem)) (fp := f0) (cs := c0) (x := x.f_Queue) (.head _))
  have H : Sep n w0 w (Ck.own (Kd.pair Kd.i64 (Kd.pair (Kd.slice 5 Kd.u8) Kd.i64)) q0 d0 (x.f_Time, x.f_Book, x.f_Sure) :: _) := H.front (.there .here)
  obtain ⟨f1, q1, c1, d1, rfl, _, H⟩ := H.unpair
  obtain ⟨rfl, r1⟩ := (H.own (d := Kd.i64) (fp := f1) (cs := c1) (x := x.f_Time) (.head _))
  have H := H.tail
  have H : Sep n w0 w (Ck.own (Kd.pair (Kd.slice 5 Kd.u8) Kd.i64) q1 d1 (x.f_Book, x.f_Sure) :: _) := H
  obtain ⟨f2, q2, c2, d2, rfl, _, H⟩ := H.unpair
  obtain ⟨v2, rfl⟩ := sl_one (H.own (d := (Kd.slice 5 Kd.u8)) (fp := f2) (cs := c2) (x := x.f_Book) (.head _))
  have H : Sep n w0 w (Ck.own Kd.i64 q2 d2 x.f_Sure :: _) := H.front (.there .here)
  obtain ⟨rfl, r3⟩ := (H.own (d := Kd.i64) (fp := q2) (cs := d2) (x := x.f_Sure) (.head _))
  have H := H.tail
  have H := H.front (c := Ck.own (Kd.slice 5 Kd.u8) f2 [v2] x.f_Book)
  have H := H.front (c := Ck.own (Kd.slice 32 kItem) f0 [v0] x.f_Queue)
  exact ⟨v0, v2, f0, f2, rfl, r1, r3, H⟩
theorem markPost_ok {n : Nat} {w0 w : World} {M : List Ck} {fp : List Nat} {cs : List Value} {x : MPost} (H : Sep n w0 w (Ck.own kPost fp cs x :: M)) (k : Nat) (hk : k + totPost x ≤ 4611686018427387904) :
    ACalls Tryz.prog 42 #[.agg cs.toArray, .int .i64 (k : Int)] w fun r w' => r = .int .i64 ((k + totPost x : Nat) : Int) ∧ ∃ fp', Sep n w0 w' (Ck.own kPost fp' cs (mkPost x k) :: M) := by
  unfold totPost at hk
  have H : Sep n w0 w (Ck.own (Kd.pair (Kd.slice 32 kItem) (Kd.pair Kd.i64 (Kd.pair (Kd.slice 5 Kd.u8) Kd.i64))) fp cs (x.f_Queue, x.f_Time, x.f_Book, x.f_Sure) :: M) := H
  obtain ⟨f0, q0, c0, d0, rfl, _, H⟩ := H.unpair
  have H : Sep n w0 w (Ck.own (Kd.pair Kd.i64 (Kd.pair (Kd.slice 5 Kd.u8) Kd.i64)) q0 d0 (x.f_Time, x.f_Book, x.f_Sure) :: _) := H.front (.there .here)
  obtain ⟨f1, q1, c1, d1, rfl, _, H⟩ := H.unpair
  have H : Sep n w0 w (Ck.own (Kd.pair (Kd.slice 5 Kd.u8) Kd.i64) q1 d1 (x.f_Book, x.f_Sure) :: _) := H.front (.there .here)
  obtain ⟨f2, q2, c2, d2, rfl, _, H⟩ := H.unpair
  have H : Sep n w0 w (Ck.own Kd.i64 q2 d2 x.f_Sure :: _) := H.front (.there .here)
  obtain ⟨v0, rfl⟩ := sl_one (H.own (d := (Kd.slice 32 kItem)) (fp := f0) (cs := c0) (x := x.f_Queue) (.tail _ (.tail _ (.tail _ (.head _)))))
  obtain ⟨rfl, r1⟩ := (H.own (d := Kd.i64) (fp := f1) (cs := c1) (x := x.f_Time) (.tail _ (.tail _ (.head _))))
  obtain ⟨v2, rfl⟩ := sl_one (H.own (d := (Kd.slice 5 Kd.u8)) (fp := f2) (cs := c2) (x := x.f_Book) (.tail _ (.head _)))
  obtain ⟨rfl, r3⟩ := (H.own (d := Kd.i64) (fp := q2) (cs := d2) (x := x.f_Sure) (.head _))
  refine body_of follows Tryz.func42 rfl rfl _ rfl (by kernel_rfl) (vs ?_)
  refine x_bx H [v0, .int .i64 x.f_Time, v2, .int .i64 x.f_Sure] fun g w1 H => vs ?_
  refine x_ld H sc24 ?_
  refine vs ?_
  have H := H.front (c := Ck.own (Kd.slice 32 kItem) f0 [v0] (x.f_Queue))
  refine x_call (markItemS_ok H (k) (by omega)) fun _ w2 ⟨e0, p0, H⟩ => ?_
  subst e0
  refine vs ?_
  refine x_ld H sc22 ?_
  refine vs ?_
  have H := H.front (c := Ck.own (Kd.slice 5 Kd.u8) f2 [v2] (x.f_Book))
  refine x_call (markByteS_ok H (k + totItemS (x.f_Queue)) (by omega)) fun _ w3 ⟨e2, p2, H⟩ => ?_
  subst e2
  refine vs ?_
  have H := H.front (c := Ck.own Kd.i64 q2 [.int .i64 x.f_Sure] (x.f_Sure))
  have H := H.front (c := Ck.own (Kd.slice 5 Kd.u8) p2 [v2] (mkB (x.f_Book) (k + totItemS (x.f_Queue))))
  have H := H.pair
  have H := H.front (c := Ck.own Kd.i64 f1 [.int .i64 x.f_Time] (x.f_Time))
  have H := H.pair
  have H := H.front (c := Ck.own (Kd.slice 32 kItem) p0 [v0] (mkItemS (x.f_Queue) (k)))
  have H := H.pair
  have H := Sep.iso (y := mkPost x k) (f := fun c : MPost => (c.f_Queue, c.f_Time, c.f_Book, c.f_Sure)) H
  exact ⟨i64_eq (by unfold totPost; omega), _, H.drop2⟩
end Go.Proofs.YtdljbekkckfmnaaGreat.V
