/- What is marked in data of the program, and held, walked. Laid by a program. -/
import Derived.Test.YtfhbglaigjekpaaWt
import Derived.Test.YtfhbglaigjekpaaWm
import Derived.Test.YtfhbglaigjekpaaWmt
import Derived.Test.YtfhbglaigjekpaaVt
namespace Go.Proofs.Ytfhbglaigjekpaa.V
open Go Go.RowKit
set_option maxRecDepth 100000
set_option maxHeartbeats 4000000
set_option linter.unusedSimpArgs false
set_option linter.unusedVariables false
set_option pp.deepTerms false
set_option pp.deepTerms.threshold 3

/-! ### lists of ByteS -/
def totByteSS (l : List (List UInt8)) : Nat := totL List.length l
def mkByteSS (l : List (List UInt8)) (k : Nat) : List (List UInt8) := mkL mkB List.length l k
theorem totByteSS_le {l : List (List UInt8)} (h : smByteSS l) : totByteSS l ≤ 1099511627776 := by
  refine Nat.le_trans (totL_le (B := 1048576) fun y hy => h.2 y hy) ?_
  have := h.1; omega
theorem markByteSS_ok {n : Nat} {w0 w : World} {M : List Ck} {fp : List Nat} {v : Value} {l : List (List UInt8)} (H : Sep n w0 w (Ck.own (Kd.slice 22 (Kd.slice 5 Kd.u8)) fp [v] l :: M)) (k : Nat) (hk : k + totByteSS l ≤ 4611686018427387904) :
    ACalls Try.prog 55 #[v, .int .i64 (k : Int)] w fun r w' => r = .int .i64 ((k + totByteSS l : Nat) : Int) ∧ ∃ fp', Sep n w0 w' (Ck.own (Kd.slice 22 (Kd.slice 5 Kd.u8)) fp' [v] (mkByteSS l k) :: M) := by
  unfold totByteSS mkByteSS at *
  obtain ⟨A, c, rfl, hA⟩ := own_val (show (Kd.slice 22 (Kd.slice 5 Kd.u8)).ow w fp [v] l from H.ok _ (.head _))
  have hlm := sl_len (H.own (.head _))
  refine body_of follows Try.func55 rfl rfl _ rfl (by kernel_rfl) (vs ?_)
  refine loop_at (σ := Nat × List Nat) (fun x => [(0, .slice A l.length c), (1, .int .i64 ((k + totL List.length (l.take x.1) : Nat) : Int)), (5, .int .i64 (x.1 : Int))])
    (fun x w' => x.1 ≤ l.length ∧ Sep n w0 w' (Ck.own (Kd.slice 22 (Kd.slice 5 Kd.u8)) x.2 [.slice A l.length c] (mkL mkB List.length (l.take x.1) k ++ l.drop x.1) :: M)) (fun x => l.length - x.1) (0, fp) (vs ?_) ⟨Nat.zero_le _, H⟩ ?_
  · rfl
  rintro ⟨i, fp⟩ s w2 ⟨hi, H⟩
  dsimp only at hi H
  refine vs (ways ?_ ?_)
  · refine vh fun hlt => ?_
    have hi2 : i < l.length := by omega
    obtain ⟨g, c2, pre, post, fpi, es, R, hv, hpre, H1, hes, close⟩ := H.openEl i (by simp [mkL_len]; omega)
    simp only [Value.slice.injEq] at hv
    obtain ⟨rfl, _, rfl⟩ := hv
    have H := H1
    rw [mk_at l k i hi2] at H
    have hb1 := totL_take_succ (tot := List.length) l i hi2
    have hb2 := totL_take_le (tot := List.length) l (i + 1)
    have hpre : pre.length = i := hpre.trans (Nat.mul_one i)
    obtain ⟨u, rfl⟩ := sl_one (H.own (.tail _ (.head _)))
    refine x_index sl26 rfl (by omega) hlt (vs ?_)
    refine x_ldE (j := 0) H sc22 ?_
    refine vs ?_
    have H := H.front (c := Ck.own (Kd.slice 5 Kd.u8) fpi [u] l[i])
    refine x_call (markByteS_ok H (k + totL List.length (l.take i)) (by omega)) fun _ w3 ⟨e, f2, H⟩ => ?_
    subst e
    refine vs ?_
    have H := H.front (c := Ck.box g (pre ++ [u] ++ post) 22) (.there .here)
    obtain ⟨f3, H⟩ := close H
    rw [mk_step l k i hi2] at H
    exact ⟨(i + 1, f3), ⟨i64_eq (by show ((_ : Nat) : Int) = ((k + totL List.length (l.take (i + 1)) : Nat) : Int); omega), i64_eq (by show w64 ((i : Int) + 1) = ((i + 1 : Nat) : Int); unfold w64; omega)⟩, ⟨hi2, H⟩, by show l.length - (i + 1) < l.length - i; omega⟩
  · refine vh fun hlt => ?_
    obtain rfl : i = l.length := by omega
    rw [List.take_length, List.drop_length, List.append_nil] at H
    rw [List.take_length]
    exact ⟨rfl, fp, H⟩

/-! ### Item -/
def totItem (x : MItem) : Nat := (x.f_Bytes).length
def mkItem (x : MItem) (k : Nat) : MItem := { x with f_Bytes := mkB (x.f_Bytes) (k) }
theorem totItem_le {x : MItem} (h : smItem x) : totItem x ≤ 1048576 := by
  unfold smItem at h
  unfold totItem
  have q3 := h.2
  omega
theorem ownItem {n : Nat} {w0 w : World} {L : List Ck} {f3 : List Nat} {v3 : Value} (x : MItem) (H : Sep n w0 w (Ck.own (Kd.slice 5 Kd.u8) f3 [v3] x.f_Bytes :: L)) (r0 : (x.f_Route).length ≤ 9223372036854775807) (r1 : -9223372036854775808 ≤ x.f_Topic ∧ x.f_Topic < 9223372036854775808) (r2 : -9223372036854775808 ≤ x.f_Due ∧ x.f_Due < 9223372036854775808) : ∃ fp, Sep n w0 w (Ck.own kItem fp [.string ⟨(x.f_Route).toArray⟩, .int .i64 x.f_Topic, .int .i64 x.f_Due, v3] x :: L) := by
  have H := H.front (c := Ck.own (Kd.slice 5 Kd.u8) f3 [v3] x.f_Bytes)
  have H := H.plain pl_i64 (x := x.f_Due) r2
  have H := H.pair
  have H := H.plain pl_i64 (x := x.f_Topic) r1
  have H := H.pair
  have H := H.plain pl_str (x := x.f_Route) r0
  have H := H.pair
  exact ⟨_, Sep.iso (y := x) (f := fun c : MItem => (c.f_Route, c.f_Topic, c.f_Due, c.f_Bytes)) H⟩
theorem apartItem {n : Nat} {w0 w : World} {L : List Ck} {fp : List Nat} {cs : List Value} {x : MItem} (H : Sep n w0 w (Ck.own kItem fp cs x :: L)) : ∃ v3 f3, cs = [.string ⟨(x.f_Route).toArray⟩, .int .i64 x.f_Topic, .int .i64 x.f_Due, v3] ∧ ((x.f_Route).length ≤ 9223372036854775807) ∧ (-9223372036854775808 ≤ x.f_Topic ∧ x.f_Topic < 9223372036854775808) ∧ (-9223372036854775808 ≤ x.f_Due ∧ x.f_Due < 9223372036854775808) ∧ Sep n w0 w (Ck.own (Kd.slice 5 Kd.u8) f3 [v3] x.f_Bytes :: L) := by
  have H : Sep n w0 w (Ck.own (Kd.pair Kd.str (Kd.pair Kd.i64 (Kd.pair Kd.i64 (Kd.slice 5 Kd.u8)))) fp cs (x.f_Route, x.f_Topic, x.f_Due, x.f_Bytes) :: L) := H
  obtain ⟨f0, q0, c0, d0, rfl, _, H⟩ := H.unpair
  obtain ⟨rfl, r0⟩ := (H.own (d := Kd.str) (fp := f0) (cs := c0) (x := x.f_Route) (.head _))
  have H := H.tail
  have H : Sep n w0 w (Ck.own (Kd.pair Kd.i64 (Kd.pair Kd.i64 (Kd.slice 5 Kd.u8))) q0 d0 (x.f_Topic, x.f_Due, x.f_Bytes) :: _) := H
  obtain ⟨f1, q1, c1, d1, rfl, _, H⟩ := H.unpair
  obtain ⟨rfl, r1⟩ := (H.own (d := Kd.i64) (fp := f1) (cs := c1) (x := x.f_Topic) (.head _))
  have H := H.tail
  have H : Sep n w0 w (Ck.own (Kd.pair Kd.i64 (Kd.slice 5 Kd.u8)) q1 d1 (x.f_Due, x.f_Bytes) :: _) := H
  obtain ⟨f2, q2, c2, d2, rfl, _, H⟩ := H.unpair
  obtain ⟨rfl, r2⟩ := (H.own (d := Kd.i64) (fp := f2) (cs := c2) (x := x.f_Due) (.head _))
  have H := H.tail
  have H : Sep n w0 w (Ck.own (Kd.slice 5 Kd.u8) q2 d2 x.f_Bytes :: _) := H
  obtain ⟨v3, rfl⟩ := sl_one (H.own (d := (Kd.slice 5 Kd.u8)) (fp := q2) (cs := d2) (x := x.f_Bytes) (.head _))
  have H := H.front (c := Ck.own (Kd.slice 5 Kd.u8) q2 [v3] x.f_Bytes)
  exact ⟨v3, q2, rfl, r0, r1, r2, H⟩

/-! ### lists of Item -/
def toteItem (x : MItem) : Nat := 1 + 1 + 1 + (x.f_Bytes).length
def mkeItem (x : MItem) (k : Nat) : MItem := { x with f_Route := mkText (k), f_Topic := ((k + 1 : Nat) : Int), f_Due := ((k + 1 + 1 : Nat) : Int), f_Bytes := mkB (x.f_Bytes) (k + 1 + 1 + 1) }
theorem toteItem_eq (x : MItem) : toteItem x = 1 + 1 + 1 + (x.f_Bytes).length := rfl
def totItemS (l : List MItem) : Nat := totL toteItem l
def mkItemS (l : List MItem) (k : Nat) : List MItem := mkL mkeItem toteItem l k
theorem toteItem_le {x : MItem} (h : smItem x) : toteItem x ≤ 1048579 := by
  unfold smItem at h
  unfold toteItem
  have q0 := h.2
  omega
theorem totItemS_le {l : List MItem} (h : smItemS l) : totItemS l ≤ 1099514773504 := by
  refine Nat.le_trans (totL_le (B := 1048579) fun y hy => toteItem_le (h.2 y hy)) ?_
  have := h.1; omega
theorem markItemS_ok {n : Nat} {w0 w : World} {M : List Ck} {fp : List Nat} {v : Value} {l : List MItem} (H : Sep n w0 w (Ck.own (Kd.slice 83 kItem) fp [v] l :: M)) (k : Nat) (hk : k + totItemS l ≤ 4611686018427387904) :
    ACalls Try.prog 54 #[v, .int .i64 (k : Int)] w fun r w' => r = .int .i64 ((k + totItemS l : Nat) : Int) ∧ ∃ fp', Sep n w0 w' (Ck.own (Kd.slice 83 kItem) fp' [v] (mkItemS l k) :: M) := by
  unfold totItemS mkItemS at *
  obtain ⟨A, c, rfl, hA⟩ := own_val (show (Kd.slice 83 kItem).ow w fp [v] l from H.ok _ (.head _))
  have hlm := sl_len (H.own (.head _))
  refine body_of follows Try.func54 rfl rfl _ rfl (by kernel_rfl) (vs ?_)
  refine loop_at (σ := Nat × List Nat) (fun x => [(0, .slice A l.length c), (1, .int .i64 ((k + totL toteItem (l.take x.1) : Nat) : Int)), (5, .int .i64 (x.1 : Int))])
    (fun x w' => x.1 ≤ l.length ∧ Sep n w0 w' (Ck.own (Kd.slice 83 kItem) x.2 [.slice A l.length c] (mkL mkeItem toteItem (l.take x.1) k ++ l.drop x.1) :: M)) (fun x => l.length - x.1) (0, fp) (vs ?_) ⟨Nat.zero_le _, H⟩ ?_
  · rfl
  rintro ⟨i, fp⟩ s w2 ⟨hi, H⟩
  dsimp only at hi H
  refine vs (ways ?_ ?_)
  · refine vh fun hlt => ?_
    have hi2 : i < l.length := by omega
    obtain ⟨g, c2, pre, post, fpi, es, R, hv, hpre, H1, hes, close⟩ := H.openEl i (by simp [mkL_len]; omega)
    simp only [Value.slice.injEq] at hv
    obtain ⟨rfl, _, rfl⟩ := hv
    have H := H1
    rw [mk_at l k i hi2] at H
    have hb1 := totL_take_succ (tot := toteItem) l i hi2
    have hb2 := totL_take_le (tot := toteItem) l (i + 1)
    have hpre : pre.length = i * 4 := hpre
    have H := H.front (c := Ck.own kItem fpi es l[i]) (.there .here)
    have H : Sep n w0 _ (Ck.own (Kd.pair Kd.str (Kd.pair Kd.i64 (Kd.pair Kd.i64 (Kd.slice 5 Kd.u8)))) fpi es (l[i].f_Route, l[i].f_Topic, l[i].f_Due, l[i].f_Bytes) :: _) := H
    obtain ⟨f1, q1, c1, d1, rfl, _, H⟩ := H.unpair
    obtain ⟨rfl, r2⟩ := (H.own (d := Kd.str) (fp := f1) (cs := c1) (x := l[i].f_Route) (.head _))
    have H := H.tail
    have H : Sep n w0 _ (Ck.own (Kd.pair Kd.i64 (Kd.pair Kd.i64 (Kd.slice 5 Kd.u8))) q1 d1 (l[i].f_Topic, l[i].f_Due, l[i].f_Bytes) :: _) := H
    obtain ⟨f3, q3, c3, d3, rfl, _, H⟩ := H.unpair
    obtain ⟨rfl, r4⟩ := (H.own (d := Kd.i64) (fp := f3) (cs := c3) (x := l[i].f_Topic) (.head _))
    have H := H.tail
    have H : Sep n w0 _ (Ck.own (Kd.pair Kd.i64 (Kd.slice 5 Kd.u8)) q3 d3 (l[i].f_Due, l[i].f_Bytes) :: _) := H
    obtain ⟨f5, q5, c5, d5, rfl, _, H⟩ := H.unpair
    obtain ⟨rfl, r6⟩ := (H.own (d := Kd.i64) (fp := f5) (cs := c5) (x := l[i].f_Due) (.head _))
    have H := H.tail
    have H : Sep n w0 _ (Ck.own (Kd.slice 5 Kd.u8) q5 d5 l[i].f_Bytes :: _) := H
    obtain ⟨u7, rfl⟩ := sl_one (H.own (d := (Kd.slice 5 Kd.u8)) (fp := q5) (cs := d5) (x := l[i].f_Bytes) (.head _))
    have H := H.front (c := Ck.box g (pre ++ [.string ⟨(l[i].f_Route).toArray⟩, .int .i64 l[i].f_Topic, .int .i64 l[i].f_Due, u7] ++ post) 83)
    rw [toteItem_eq l[i]] at hb1
    refine x_callb H (markText_ok _ (k + totL toteItem (l.take i)) (by omega)) fun w3 H => vs ?_
    refine x_index sl35 rfl (by omega) hlt (vs ?_)
    refine x_stE (j := 0) (v := .string ⟨(mkText (k + totL toteItem (l.take i))).toArray⟩) H sc9 fun w4 H => ?_
    have H : Sep n w0 w4 (Ck.box g (pre ++ [.string ⟨(mkText (k + totL toteItem (l.take i))).toArray⟩, .int .i64 l[i].f_Topic, .int .i64 l[i].f_Due, u7] ++ post) 83 :: _) := H.front
    have ek0 : w64 (((k + totL toteItem (l.take i) : Nat) : Int) + 1) = ((k + totL toteItem (l.take i) + 1 : Nat) : Int) := by unfold w64; omega
    refine ve ek0 ?_
    clear ek0
    refine x_index sl35 rfl (by omega) hlt (vs ?_)
    refine x_stE (j := 1) (v := .int .i64 ((k + totL toteItem (l.take i) + 1 : Nat) : Int)) H sc3 fun w5 H => ?_
    have H : Sep n w0 w5 (Ck.box g (pre ++ [.string ⟨(mkText (k + totL toteItem (l.take i))).toArray⟩, .int .i64 ((k + totL toteItem (l.take i) + 1 : Nat) : Int), .int .i64 l[i].f_Due, u7] ++ post) 83 :: _) := H.front
    have ek1 : w64 (((k + totL toteItem (l.take i) + 1 : Nat) : Int) + 1) = ((k + totL toteItem (l.take i) + 1 + 1 : Nat) : Int) := by unfold w64; omega
    refine ve ek1 ?_
    clear ek1
    refine x_index sl35 rfl (by omega) hlt (vs ?_)
    refine x_stE (j := 2) (v := .int .i64 ((k + totL toteItem (l.take i) + 1 + 1 : Nat) : Int)) H sc3 fun w6 H => ?_
    have H : Sep n w0 w6 (Ck.box g (pre ++ [.string ⟨(mkText (k + totL toteItem (l.take i))).toArray⟩, .int .i64 ((k + totL toteItem (l.take i) + 1 : Nat) : Int), .int .i64 ((k + totL toteItem (l.take i) + 1 + 1 : Nat) : Int), u7] ++ post) 83 :: _) := H.front
    have ek2 : w64 (((k + totL toteItem (l.take i) + 1 + 1 : Nat) : Int) + 1) = ((k + totL toteItem (l.take i) + 1 + 1 + 1 : Nat) : Int) := by unfold w64; omega
    refine ve ek2 ?_
    clear ek2
    refine x_index sl35 rfl (by omega) hlt (vs ?_)
    refine x_ldE (j := 3) H sc22 ?_
    refine vs ?_
    have H := H.front (c := Ck.own (Kd.slice 5 Kd.u8) q5 [u7] l[i].f_Bytes)
    refine x_call (markByteS_ok H (k + totL toteItem (l.take i) + 1 + 1 + 1) (by omega)) fun _ w7 ⟨e3, p3, H⟩ => ?_
    subst e3
    refine vs ?_
    have H := H.front (c := Ck.own (Kd.slice 5 Kd.u8) p3 [u7] (mkB (l[i].f_Bytes) (k + totL toteItem (l.take i) + 1 + 1 + 1)))
    have H := Sep.plain pl_i64 (x := ((k + totL toteItem (l.take i) + 1 + 1 : Nat) : Int)) H (by constructor <;> omega)
    have H := H.pair
    have H := Sep.plain pl_i64 (x := ((k + totL toteItem (l.take i) + 1 : Nat) : Int)) H (by constructor <;> omega)
    have H := H.pair
    have H := Sep.plain pl_str (x := mkText (k + totL toteItem (l.take i))) H (mkText_len _ (by omega))
    have H := H.pair
    have H := Sep.iso (y := (mkeItem l[i] (k + totL toteItem (l.take i)))) (f := fun c : MItem => (c.f_Route, c.f_Topic, c.f_Due, c.f_Bytes)) H
    have H := H.front (c := Ck.box g (pre ++ [.string ⟨(mkText (k + totL toteItem (l.take i))).toArray⟩, .int .i64 ((k + totL toteItem (l.take i) + 1 : Nat) : Int), .int .i64 ((k + totL toteItem (l.take i) + 1 + 1 : Nat) : Int), u7] ++ post) 83)
    obtain ⟨f9, H⟩ := close H
    rw [mk_step l k i hi2] at H
    have hb3 : totL toteItem (l.take (i + 1)) = totL toteItem (l.take i) + toteItem l[i] := totL_take_succ l i hi2
    rw [toteItem_eq l[i]] at hb3
    exact ⟨(i + 1, f9), ⟨i64_eq (by show ((_ : Nat) : Int) = ((k + totL toteItem (l.take (i + 1)) : Nat) : Int); omega), i64_eq (by show w64 ((i : Int) + 1) = ((i + 1 : Nat) : Int); unfold w64; omega)⟩, ⟨hi2, H⟩, by show l.length - (i + 1) < l.length - i; omega⟩
  · refine vh fun hlt => ?_
    obtain rfl : i = l.length := by omega
    rw [List.take_length, List.drop_length, List.append_nil] at H
    rw [List.take_length]
    exact ⟨rfl, fp, H⟩

/-! ### Post -/
def totPost (x : MPost) : Nat := totItemS (x.f_Queue) + (x.f_Book).length
def mkPost (x : MPost) (k : Nat) : MPost := { x with f_Queue := mkItemS (x.f_Queue) (k), f_Book := mkB (x.f_Book) (k + totItemS (x.f_Queue)) }
theorem totPost_le {x : MPost} (h : smPost x) : totPost x ≤ 1099515822080 := by
  unfold smPost at h
  unfold totPost
  have q0 := totItemS_le (h.1)
  have q2 := h.2
  omega
theorem ownPost {n : Nat} {w0 w : World} {L : List Ck} {f0 f2 : List Nat} {v0 v2 : Value} (x : MPost) (H : Sep n w0 w (Ck.own (Kd.slice 83 kItem) f0 [v0] x.f_Queue :: Ck.own (Kd.slice 5 Kd.u8) f2 [v2] x.f_Book :: L)) (r1 : -9223372036854775808 ≤ x.f_Time ∧ x.f_Time < 9223372036854775808) (r3 : -9223372036854775808 ≤ x.f_Sure ∧ x.f_Sure < 9223372036854775808) : ∃ fp, Sep n w0 w (Ck.own kPost fp [v0, .int .i64 x.f_Time, v2, .int .i64 x.f_Sure] x :: L) := by
  have H := H.plain pl_i64 (x := x.f_Sure) r3
  have H := H.front (c := Ck.own (Kd.slice 5 Kd.u8) f2 [v2] x.f_Book)
  have H := H.pair
  have H := H.plain pl_i64 (x := x.f_Time) r1
  have H := H.pair
  have H := H.front (c := Ck.own (Kd.slice 83 kItem) f0 [v0] x.f_Queue)
  have H := H.pair
  exact ⟨_, Sep.iso (y := x) (f := fun c : MPost => (c.f_Queue, c.f_Time, c.f_Book, c.f_Sure)) H⟩
theorem apartPost {n : Nat} {w0 w : World} {L : List Ck} {fp : List Nat} {cs : List Value} {x : MPost} (H : Sep n w0 w (Ck.own kPost fp cs x :: L)) : ∃ v0 v2 f0 f2, cs = [v0, .int .i64 x.f_Time, v2, .int .i64 x.f_Sure] ∧ (-9223372036854775808 ≤ x.f_Time ∧ x.f_Time < 9223372036854775808) ∧ (-9223372036854775808 ≤ x.f_Sure ∧ x.f_Sure < 9223372036854775808) ∧ Sep n w0 w (Ck.own (Kd.slice 83 kItem) f0 [v0] x.f_Queue :: Ck.own (Kd.slice 5 Kd.u8) f2 [v2] x.f_Book :: L) := by
  have H : Sep n w0 w (Ck.own (Kd.pair (Kd.slice 83 kItem) (Kd.pair Kd.i64 (Kd.pair (Kd.slice 5 Kd.u8) Kd.i64))) fp cs (x.f_Queue, x.f_Time, x.f_Book, x.f_Sure) :: L) := H
  obtain ⟨f0, q0, c0, d0, rfl, _, H⟩ := H.unpair
  obtain ⟨v0, rfl⟩ := sl_one (H.own (d := (Kd.slice 83 kItem)) (fp := f0) (cs := c0) (x := x.f_Queue) (.head _))
  have H : Sep n w0 w (Ck.own (Kd.pair Kd.i64 (Kd.pair (Kd.slice 5 Kd.u8) Kd.i64)) q0 d0 (x.f_Time, x.f_Book, x.f_Sure) :: _) := H.front (.there .here)
  obtain ⟨f1, q1, c1, d1, rfl, _, H⟩ := H.unpair
  obtain ⟨rfl, r1⟩ := (H.own (d := Kd.i64) (fp := f1) (cs := c1) (x := x.f_Time) (.head _))
  have H := H.tail
  have H : Sep n w0 w (Ck.own (Kd.pair (Kd.slice 5 Kd.u8) Kd.i64) q1 d1 (x.f_Book, x.f_Sure) :: _) := H
  obtain ⟨f2, q2, c2, d2, rfl, _, H⟩ := H.unpair
  obtain ⟨v2, rfl⟩ := sl_one (H.own (d := (Kd.slice 5 Kd.u8)) (fp := f2) (cs := c2) (x := x.f_Book) (.head _))
  have H : Sep n w0 w (Ck.own Kd.i64 q2 d2 x.f_Sure :: _) := H.front (.there .here)
  obtain ⟨rfl, r3⟩ := (H.own (d := Kd.i64) (fp := q2) (cs := d2) (x := x.f_Sure) (.head _))
  have H := H.tail
  have H := H.front (c := Ck.own (Kd.slice 5 Kd.u8) f2 [v2] x.f_Book)
  have H := H.front (c := Ck.own (Kd.slice 83 kItem) f0 [v0] x.f_Queue)
  exact ⟨v0, v2, f0, f2, rfl, r1, r3, H⟩
theorem markPost_ok {n : Nat} {w0 w : World} {M : List Ck} {fp : List Nat} {cs : List Value} {x : MPost} (H : Sep n w0 w (Ck.own kPost fp cs x :: M)) (k : Nat) (hk : k + totPost x ≤ 4611686018427387904) :
    ACalls Try.prog 31 #[.agg cs.toArray, .int .i64 (k : Int)] w fun r w' => r = .int .i64 ((k + totPost x : Nat) : Int) ∧ ∃ fp', Sep n w0 w' (Ck.own kPost fp' cs (mkPost x k) :: M) := by
  unfold totPost at hk
  have H : Sep n w0 w (Ck.own (Kd.pair (Kd.slice 83 kItem) (Kd.pair Kd.i64 (Kd.pair (Kd.slice 5 Kd.u8) Kd.i64))) fp cs (x.f_Queue, x.f_Time, x.f_Book, x.f_Sure) :: M) := H
  obtain ⟨f0, q0, c0, d0, rfl, _, H⟩ := H.unpair
  have H : Sep n w0 w (Ck.own (Kd.pair Kd.i64 (Kd.pair (Kd.slice 5 Kd.u8) Kd.i64)) q0 d0 (x.f_Time, x.f_Book, x.f_Sure) :: _) := H.front (.there .here)
  obtain ⟨f1, q1, c1, d1, rfl, _, H⟩ := H.unpair
  have H : Sep n w0 w (Ck.own (Kd.pair (Kd.slice 5 Kd.u8) Kd.i64) q1 d1 (x.f_Book, x.f_Sure) :: _) := H.front (.there .here)
  obtain ⟨f2, q2, c2, d2, rfl, _, H⟩ := H.unpair
  have H : Sep n w0 w (Ck.own Kd.i64 q2 d2 x.f_Sure :: _) := H.front (.there .here)
  obtain ⟨v0, rfl⟩ := sl_one (H.own (d := (Kd.slice 83 kItem)) (fp := f0) (cs := c0) (x := x.f_Queue) (.tail _ (.tail _ (.tail _ (.head _)))))
  obtain ⟨rfl, r1⟩ := (H.own (d := Kd.i64) (fp := f1) (cs := c1) (x := x.f_Time) (.tail _ (.tail _ (.head _))))
  obtain ⟨v2, rfl⟩ := sl_one (H.own (d := (Kd.slice 5 Kd.u8)) (fp := f2) (cs := c2) (x := x.f_Book) (.tail _ (.head _)))
  obtain ⟨rfl, r3⟩ := (H.own (d := Kd.i64) (fp := q2) (cs := d2) (x := x.f_Sure) (.head _))
  refine body_of follows Try.func31 rfl rfl _ rfl (by kernel_rfl) (vs ?_)
  refine x_bx H [v0, .int .i64 x.f_Time, v2, .int .i64 x.f_Sure] fun g w1 H => vs ?_
  refine x_ld H sc35 ?_
  refine vs ?_
  have H := H.front (c := Ck.own (Kd.slice 83 kItem) f0 [v0] (x.f_Queue))
  refine x_call (markItemS_ok H (k) (by omega)) fun _ w2 ⟨e0, p0, H⟩ => ?_
  subst e0
  refine vs ?_
  refine x_ld H sc22 ?_
  refine vs ?_
  have H := H.front (c := Ck.own (Kd.slice 5 Kd.u8) f2 [v2] (x.f_Book))
  refine x_call (markByteS_ok H (k + totItemS (x.f_Queue)) (by omega)) fun _ w3 ⟨e2, p2, H⟩ => ?_
  subst e2
  refine vs ?_
  have H := H.front (c := Ck.own Kd.i64 q2 [.int .i64 x.f_Sure] (x.f_Sure))
  have H := H.front (c := Ck.own (Kd.slice 5 Kd.u8) p2 [v2] (mkB (x.f_Book) (k + totItemS (x.f_Queue))))
  have H := H.pair
  have H := H.front (c := Ck.own Kd.i64 f1 [.int .i64 x.f_Time] (x.f_Time))
  have H := H.pair
  have H := H.front (c := Ck.own (Kd.slice 83 kItem) p0 [v0] (mkItemS (x.f_Queue) (k)))
  have H := H.pair
  have H := Sep.iso (y := mkPost x k) (f := fun c : MPost => (c.f_Queue, c.f_Time, c.f_Book, c.f_Sure)) H
  exact ⟨i64_eq (by unfold totPost; omega), _, H.drop2⟩

/-! ### Reader -/
def totReader (x : MReader) : Nat := (x.f_Seed).length + totByteSS (x.f_Seen) + totByteSS (x.f_Got)
def mkReader (x : MReader) (k : Nat) : MReader := { x with f_Seed := mkB (x.f_Seed) (k), f_Seen := mkByteSS (x.f_Seen) (k + (x.f_Seed).length), f_Got := mkByteSS (x.f_Got) (k + (x.f_Seed).length + totByteSS (x.f_Seen)) }
theorem totReader_le {x : MReader} (h : smReader x) : totReader x ≤ 2199024304128 := by
  unfold smReader at h
  unfold totReader
  have q0 := h.1
  have q2 := totByteSS_le (h.2.1)
  have q3 := totByteSS_le (h.2.2)
  omega
theorem ownReader {n : Nat} {w0 w : World} {L : List Ck} {f0 f2 f3 : List Nat} {v0 v2 v3 : Value} (x : MReader) (H : Sep n w0 w (Ck.own (Kd.slice 5 Kd.u8) f0 [v0] x.f_Seed :: Ck.own (Kd.slice 22 (Kd.slice 5 Kd.u8)) f2 [v2] x.f_Seen :: Ck.own (Kd.slice 22 (Kd.slice 5 Kd.u8)) f3 [v3] x.f_Got :: L)) (r1 : -9223372036854775808 ≤ x.f_Epoch ∧ x.f_Epoch < 9223372036854775808) : ∃ fp, Sep n w0 w (Ck.own kReader fp [v0, .int .i64 x.f_Epoch, v2, v3] x :: L) := by
  have H := H.front (c := Ck.own (Kd.slice 22 (Kd.slice 5 Kd.u8)) f3 [v3] x.f_Got)
  have H := H.front (c := Ck.own (Kd.slice 22 (Kd.slice 5 Kd.u8)) f2 [v2] x.f_Seen)
  have H := H.pair
  have H := H.plain pl_i64 (x := x.f_Epoch) r1
  have H := H.pair
  have H := H.front (c := Ck.own (Kd.slice 5 Kd.u8) f0 [v0] x.f_Seed)
  have H := H.pair
  exact ⟨_, Sep.iso (y := x) (f := fun c : MReader => (c.f_Seed, c.f_Epoch, c.f_Seen, c.f_Got)) H⟩
theorem apartReader {n : Nat} {w0 w : World} {L : List Ck} {fp : List Nat} {cs : List Value} {x : MReader} (H : Sep n w0 w (Ck.own kReader fp cs x :: L)) : ∃ v0 v2 v3 f0 f2 f3, cs = [v0, .int .i64 x.f_Epoch, v2, v3] ∧ (-9223372036854775808 ≤ x.f_Epoch ∧ x.f_Epoch < 9223372036854775808) ∧ Sep n w0 w (Ck.own (Kd.slice 5 Kd.u8) f0 [v0] x.f_Seed :: Ck.own (Kd.slice 22 (Kd.slice 5 Kd.u8)) f2 [v2] x.f_Seen :: Ck.own (Kd.slice 22 (Kd.slice 5 Kd.u8)) f3 [v3] x.f_Got :: L) := by
  have H : Sep n w0 w (Ck.own (Kd.pair (Kd.slice 5 Kd.u8) (Kd.pair Kd.i64 (Kd.pair (Kd.slice 22 (Kd.slice 5 Kd.u8)) (Kd.slice 22 (Kd.slice 5 Kd.u8))))) fp cs (x.f_Seed, x.f_Epoch, x.f_Seen, x.f_Got) :: L) := H
  obtain ⟨f0, q0, c0, d0, rfl, _, H⟩ := H.unpair
  obtain ⟨v0, rfl⟩ := sl_one (H.own (d := (Kd.slice 5 Kd.u8)) (fp := f0) (cs := c0) (x := x.f_Seed) (.head _))
  have H : Sep n w0 w (Ck.own (Kd.pair Kd.i64 (Kd.pair (Kd.slice 22 (Kd.slice 5 Kd.u8)) (Kd.slice 22 (Kd.slice 5 Kd.u8)))) q0 d0 (x.f_Epoch, x.f_Seen, x.f_Got) :: _) := H.front (.there .here)
  obtain ⟨f1, q1, c1, d1, rfl, _, H⟩ := H.unpair
  obtain ⟨rfl, r1⟩ := (H.own (d := Kd.i64) (fp := f1) (cs := c1) (x := x.f_Epoch) (.head _))
  have H := H.tail
  have H : Sep n w0 w (Ck.own (Kd.pair (Kd.slice 22 (Kd.slice 5 Kd.u8)) (Kd.slice 22 (Kd.slice 5 Kd.u8))) q1 d1 (x.f_Seen, x.f_Got) :: _) := H
  obtain ⟨f2, q2, c2, d2, rfl, _, H⟩ := H.unpair
  obtain ⟨v2, rfl⟩ := sl_one (H.own (d := (Kd.slice 22 (Kd.slice 5 Kd.u8))) (fp := f2) (cs := c2) (x := x.f_Seen) (.head _))
  have H : Sep n w0 w (Ck.own (Kd.slice 22 (Kd.slice 5 Kd.u8)) q2 d2 x.f_Got :: _) := H.front (.there .here)
  obtain ⟨v3, rfl⟩ := sl_one (H.own (d := (Kd.slice 22 (Kd.slice 5 Kd.u8))) (fp := q2) (cs := d2) (x := x.f_Got) (.head _))
  have H := H.front (c := Ck.own (Kd.slice 22 (Kd.slice 5 Kd.u8)) q2 [v3] x.f_Got)
  have H := H.front (c := Ck.own (Kd.slice 22 (Kd.slice 5 Kd.u8)) f2 [v2] x.f_Seen)
  have H := H.front (c := Ck.own (Kd.slice 5 Kd.u8) f0 [v0] x.f_Seed)
  exact ⟨v0, v2, v3, f0, f2, q2, rfl, r1, H⟩
theorem markReader_ok {n : Nat} {w0 w : World} {M : List Ck} {fp : List Nat} {cs : List Value} {x : MReader} (H : Sep n w0 w (Ck.own kReader fp cs x :: M)) (k : Nat) (hk : k + totReader x ≤ 4611686018427387904) :
    ACalls Try.prog 32 #[.agg cs.toArray, .int .i64 (k : Int)] w fun r w' => r = .int .i64 ((k + totReader x : Nat) : Int) ∧ ∃ fp', Sep n w0 w' (Ck.own kReader fp' cs (mkReader x k) :: M) := by
  unfold totReader at hk
  have H : Sep n w0 w (Ck.own (Kd.pair (Kd.slice 5 Kd.u8) (Kd.pair Kd.i64 (Kd.pair (Kd.slice 22 (Kd.slice 5 Kd.u8)) (Kd.slice 22 (Kd.slice 5 Kd.u8))))) fp cs (x.f_Seed, x.f_Epoch, x.f_Seen, x.f_Got) :: M) := H
  obtain ⟨f0, q0, c0, d0, rfl, _, H⟩ := H.unpair
  have H : Sep n w0 w (Ck.own (Kd.pair Kd.i64 (Kd.pair (Kd.slice 22 (Kd.slice 5 Kd.u8)) (Kd.slice 22 (Kd.slice 5 Kd.u8)))) q0 d0 (x.f_Epoch, x.f_Seen, x.f_Got) :: _) := H.front (.there .here)
  obtain ⟨f1, q1, c1, d1, rfl, _, H⟩ := H.unpair
  have H : Sep n w0 w (Ck.own (Kd.pair (Kd.slice 22 (Kd.slice 5 Kd.u8)) (Kd.slice 22 (Kd.slice 5 Kd.u8))) q1 d1 (x.f_Seen, x.f_Got) :: _) := H.front (.there .here)
  obtain ⟨f2, q2, c2, d2, rfl, _, H⟩ := H.unpair
  have H : Sep n w0 w (Ck.own (Kd.slice 22 (Kd.slice 5 Kd.u8)) q2 d2 x.f_Got :: _) := H.front (.there .here)
  obtain ⟨v0, rfl⟩ := sl_one (H.own (d := (Kd.slice 5 Kd.u8)) (fp := f0) (cs := c0) (x := x.f_Seed) (.tail _ (.tail _ (.tail _ (.head _)))))
  obtain ⟨rfl, r1⟩ := (H.own (d := Kd.i64) (fp := f1) (cs := c1) (x := x.f_Epoch) (.tail _ (.tail _ (.head _))))
  obtain ⟨v2, rfl⟩ := sl_one (H.own (d := (Kd.slice 22 (Kd.slice 5 Kd.u8))) (fp := f2) (cs := c2) (x := x.f_Seen) (.tail _ (.head _)))
  obtain ⟨v3, rfl⟩ := sl_one (H.own (d := (Kd.slice 22 (Kd.slice 5 Kd.u8))) (fp := q2) (cs := d2) (x := x.f_Got) (.head _))
  refine body_of follows Try.func32 rfl rfl _ rfl (by kernel_rfl) (vs ?_)
  refine x_bx H [v0, .int .i64 x.f_Epoch, v2, v3] fun g w1 H => vs ?_
  refine x_ld H sc22 ?_
  refine vs ?_
  have H := H.front (c := Ck.own (Kd.slice 5 Kd.u8) f0 [v0] (x.f_Seed))
  refine x_call (markByteS_ok H (k) (by omega)) fun _ w2 ⟨e0, p0, H⟩ => ?_
  subst e0
  refine vs ?_
  refine x_ld H sc26 ?_
  refine vs ?_
  have H := H.front (c := Ck.own (Kd.slice 22 (Kd.slice 5 Kd.u8)) f2 [v2] (x.f_Seen))
  refine x_call (markByteSS_ok H (k + (x.f_Seed).length) (by omega)) fun _ w3 ⟨e2, p2, H⟩ => ?_
  subst e2
  refine vs ?_
  refine x_ld H sc26 ?_
  refine vs ?_
  have H := H.front (c := Ck.own (Kd.slice 22 (Kd.slice 5 Kd.u8)) q2 [v3] (x.f_Got))
  refine x_call (markByteSS_ok H (k + (x.f_Seed).length + totByteSS (x.f_Seen)) (by omega)) fun _ w4 ⟨e3, p3, H⟩ => ?_
  subst e3
  refine vs ?_
  have H := H.front (c := Ck.own (Kd.slice 22 (Kd.slice 5 Kd.u8)) p3 [v3] (mkByteSS (x.f_Got) (k + (x.f_Seed).length + totByteSS (x.f_Seen))))
  have H := H.front (c := Ck.own (Kd.slice 22 (Kd.slice 5 Kd.u8)) p2 [v2] (mkByteSS (x.f_Seen) (k + (x.f_Seed).length)))
  have H := H.pair
  have H := H.front (c := Ck.own Kd.i64 f1 [.int .i64 x.f_Epoch] (x.f_Epoch))
  have H := H.pair
  have H := H.front (c := Ck.own (Kd.slice 5 Kd.u8) p0 [v0] (mkB (x.f_Seed) (k)))
  have H := H.pair
  have H := Sep.iso (y := mkReader x k) (f := fun c : MReader => (c.f_Seed, c.f_Epoch, c.f_Seen, c.f_Got)) H
  exact ⟨i64_eq (by unfold totReader; omega), _, H.drop2⟩

/-! ### Wire -/
def totWire (x : MWire) : Nat := totItem (x.f_Item) + (x.f_Bytes).length
def mkWire (x : MWire) (k : Nat) : MWire := { x with f_Item := mkItem (x.f_Item) (k), f_Bytes := mkB (x.f_Bytes) (k + totItem (x.f_Item)) }
theorem totWire_le {x : MWire} (h : smWire x) : totWire x ≤ 2097152 := by
  unfold smWire at h
  unfold totWire
  have q1 := totItem_le (h.1)
  have q2 := h.2
  omega
theorem ownWire {n : Nat} {w0 w : World} {L : List Ck} {f1 f2 : List Nat} {v1_3 v2 : Value} (x : MWire) (H : Sep n w0 w (Ck.own kItem f1 [.string ⟨(x.f_Item.f_Route).toArray⟩, .int .i64 x.f_Item.f_Topic, .int .i64 x.f_Item.f_Due, v1_3] x.f_Item :: Ck.own (Kd.slice 5 Kd.u8) f2 [v2] x.f_Bytes :: L)) (r0 : True) : ∃ fp, Sep n w0 w (Ck.own kWire fp [.bool x.f_ToPost, .string ⟨(x.f_Item.f_Route).toArray⟩, .int .i64 x.f_Item.f_Topic, .int .i64 x.f_Item.f_Due, v1_3, v2] x :: L) := by
  have H := H.front (c := Ck.own (Kd.slice 5 Kd.u8) f2 [v2] x.f_Bytes)
  have H := H.front (c := Ck.own kItem f1 [.string ⟨(x.f_Item.f_Route).toArray⟩, .int .i64 x.f_Item.f_Topic, .int .i64 x.f_Item.f_Due, v1_3] x.f_Item)
  have H := H.pair
  have H := H.plain pl_bool (x := x.f_ToPost) r0
  have H := H.pair
  exact ⟨_, Sep.iso (y := x) (f := fun c : MWire => (c.f_ToPost, c.f_Item, c.f_Bytes)) H⟩
theorem apartWire {n : Nat} {w0 w : World} {L : List Ck} {fp : List Nat} {cs : List Value} {x : MWire} (H : Sep n w0 w (Ck.own kWire fp cs x :: L)) : ∃ v1_3 v2 f1 f2, cs = [.bool x.f_ToPost, .string ⟨(x.f_Item.f_Route).toArray⟩, .int .i64 x.f_Item.f_Topic, .int .i64 x.f_Item.f_Due, v1_3, v2] ∧ (True) ∧ Sep n w0 w (Ck.own kItem f1 [.string ⟨(x.f_Item.f_Route).toArray⟩, .int .i64 x.f_Item.f_Topic, .int .i64 x.f_Item.f_Due, v1_3] x.f_Item :: Ck.own (Kd.slice 5 Kd.u8) f2 [v2] x.f_Bytes :: L) := by
  have H : Sep n w0 w (Ck.own (Kd.pair Kd.bool (Kd.pair kItem (Kd.slice 5 Kd.u8))) fp cs (x.f_ToPost, x.f_Item, x.f_Bytes) :: L) := H
  obtain ⟨f0, q0, c0, d0, rfl, _, H⟩ := H.unpair
  obtain ⟨rfl, r0⟩ := (H.own (d := Kd.bool) (fp := f0) (cs := c0) (x := x.f_ToPost) (.head _))
  have H := H.tail
  have H : Sep n w0 w (Ck.own (Kd.pair kItem (Kd.slice 5 Kd.u8)) q0 d0 (x.f_Item, x.f_Bytes) :: _) := H
  obtain ⟨f1, q1, c1, d1, rfl, _, H⟩ := H.unpair
  obtain ⟨v1_3, rfl, _⟩ := kItem_open (H.own (d := kItem) (fp := f1) (cs := c1) (x := x.f_Item) (.head _))
  have H : Sep n w0 w (Ck.own (Kd.slice 5 Kd.u8) q1 d1 x.f_Bytes :: _) := H.front (.there .here)
  obtain ⟨v2, rfl⟩ := sl_one (H.own (d := (Kd.slice 5 Kd.u8)) (fp := q1) (cs := d1) (x := x.f_Bytes) (.head _))
  have H := H.front (c := Ck.own (Kd.slice 5 Kd.u8) q1 [v2] x.f_Bytes)
  have H := H.front (c := Ck.own kItem f1 [.string ⟨(x.f_Item.f_Route).toArray⟩, .int .i64 x.f_Item.f_Topic, .int .i64 x.f_Item.f_Due, v1_3] x.f_Item)
  exact ⟨v1_3, v2, f1, q1, rfl, r0, H⟩

/-! ### lists of Wire -/
def toteWire (x : MWire) : Nat := 1 + 1 + 1 + 1 + (x.f_Item.f_Bytes).length + (x.f_Bytes).length
def mkeWire (x : MWire) (k : Nat) : MWire := { x with f_ToPost := decide ((k) % 3 = 0), f_Item := { x.f_Item with f_Route := mkText (k + 1), f_Topic := ((k + 1 + 1 : Nat) : Int), f_Due := ((k + 1 + 1 + 1 : Nat) : Int), f_Bytes := mkB (x.f_Item.f_Bytes) (k + 1 + 1 + 1 + 1) }, f_Bytes := mkB (x.f_Bytes) (k + 1 + 1 + 1 + 1 + (x.f_Item.f_Bytes).length) }
theorem toteWire_eq (x : MWire) : toteWire x = 1 + 1 + 1 + 1 + (x.f_Item.f_Bytes).length + (x.f_Bytes).length := rfl
def totWireS (l : List MWire) : Nat := totL toteWire l
def mkWireS (l : List MWire) (k : Nat) : List MWire := mkL mkeWire toteWire l k
theorem toteWire_le {x : MWire} (h : smWire x) : toteWire x ≤ 2097156 := by
  unfold smWire at h
  unfold toteWire
  have q0 := h.1.2
  have q1 := h.2
  omega
theorem totWireS_le {l : List MWire} (h : smWireS l) : totWireS l ≤ 2199027449856 := by
  refine Nat.le_trans (totL_le (B := 2097156) fun y hy => toteWire_le (h.2 y hy)) ?_
  have := h.1; omega
theorem markWireS_ok {n : Nat} {w0 w : World} {M : List Ck} {fp : List Nat} {v : Value} {l : List MWire} (H : Sep n w0 w (Ck.own (Kd.slice 85 kWire) fp [v] l :: M)) (k : Nat) (hk : k + totWireS l ≤ 4611686018427387904) :
    ACalls Try.prog 33 #[v, .int .i64 (k : Int)] w fun r w' => r = .int .i64 ((k + totWireS l : Nat) : Int) ∧ ∃ fp', Sep n w0 w' (Ck.own (Kd.slice 85 kWire) fp' [v] (mkWireS l k) :: M) := by
  unfold totWireS mkWireS at *
  obtain ⟨A, c, rfl, hA⟩ := own_val (show (Kd.slice 85 kWire).ow w fp [v] l from H.ok _ (.head _))
  have hlm := sl_len (H.own (.head _))
  refine body_of follows Try.func33 rfl rfl _ rfl (by kernel_rfl) (vs ?_)
  refine loop_at (σ := Nat × List Nat) (fun x => [(0, .slice A l.length c), (1, .int .i64 ((k + totL toteWire (l.take x.1) : Nat) : Int)), (5, .int .i64 (x.1 : Int))])
    (fun x w' => x.1 ≤ l.length ∧ Sep n w0 w' (Ck.own (Kd.slice 85 kWire) x.2 [.slice A l.length c] (mkL mkeWire toteWire (l.take x.1) k ++ l.drop x.1) :: M)) (fun x => l.length - x.1) (0, fp) (vs ?_) ⟨Nat.zero_le _, H⟩ ?_
  · rfl
  rintro ⟨i, fp⟩ s w2 ⟨hi, H⟩
  dsimp only at hi H
  refine vs (ways ?_ ?_)
  · refine vh fun hlt => ?_
    have hi2 : i < l.length := by omega
    obtain ⟨g, c2, pre, post, fpi, es, R, hv, hpre, H1, hes, close⟩ := H.openEl i (by simp [mkL_len]; omega)
    simp only [Value.slice.injEq] at hv
    obtain ⟨rfl, _, rfl⟩ := hv
    have H := H1
    rw [mk_at l k i hi2] at H
    have hb1 := totL_take_succ (tot := toteWire) l i hi2
    have hb2 := totL_take_le (tot := toteWire) l (i + 1)
    have hpre : pre.length = i * 6 := hpre
    have H := H.front (c := Ck.own kWire fpi es l[i]) (.there .here)
    have H : Sep n w0 _ (Ck.own (Kd.pair Kd.bool (Kd.pair kItem (Kd.slice 5 Kd.u8))) fpi es (l[i].f_ToPost, l[i].f_Item, l[i].f_Bytes) :: _) := H
    obtain ⟨f1, q1, c1, d1, rfl, _, H⟩ := H.unpair
    obtain ⟨rfl, r2⟩ := (H.own (d := Kd.bool) (fp := f1) (cs := c1) (x := l[i].f_ToPost) (.head _))
    have H := H.tail
    have H : Sep n w0 _ (Ck.own (Kd.pair kItem (Kd.slice 5 Kd.u8)) q1 d1 (l[i].f_Item, l[i].f_Bytes) :: _) := H
    obtain ⟨f3, q3, c3, d3, rfl, _, H⟩ := H.unpair
    have H : Sep n w0 _ (Ck.own (Kd.pair Kd.str (Kd.pair Kd.i64 (Kd.pair Kd.i64 (Kd.slice 5 Kd.u8)))) f3 c3 (l[i].f_Item.f_Route, l[i].f_Item.f_Topic, l[i].f_Item.f_Due, l[i].f_Item.f_Bytes) :: _) := H
    obtain ⟨f4, q4, c4, d4, rfl, _, H⟩ := H.unpair
    obtain ⟨rfl, r5⟩ := (H.own (d := Kd.str) (fp := f4) (cs := c4) (x := l[i].f_Item.f_Route) (.head _))
    have H := H.tail
    have H : Sep n w0 _ (Ck.own (Kd.pair Kd.i64 (Kd.pair Kd.i64 (Kd.slice 5 Kd.u8))) q4 d4 (l[i].f_Item.f_Topic, l[i].f_Item.f_Due, l[i].f_Item.f_Bytes) :: _) := H
    obtain ⟨f6, q6, c6, d6, rfl, _, H⟩ := H.unpair
    obtain ⟨rfl, r7⟩ := (H.own (d := Kd.i64) (fp := f6) (cs := c6) (x := l[i].f_Item.f_Topic) (.head _))
    have H := H.tail
    have H : Sep n w0 _ (Ck.own (Kd.pair Kd.i64 (Kd.slice 5 Kd.u8)) q6 d6 (l[i].f_Item.f_Due, l[i].f_Item.f_Bytes) :: _) := H
    obtain ⟨f8, q8, c8, d8, rfl, _, H⟩ := H.unpair
    obtain ⟨rfl, r9⟩ := (H.own (d := Kd.i64) (fp := f8) (cs := c8) (x := l[i].f_Item.f_Due) (.head _))
    have H := H.tail
    have H : Sep n w0 _ (Ck.own (Kd.slice 5 Kd.u8) q8 d8 l[i].f_Item.f_Bytes :: _) := H
    obtain ⟨u10, rfl⟩ := sl_one (H.own (d := (Kd.slice 5 Kd.u8)) (fp := q8) (cs := d8) (x := l[i].f_Item.f_Bytes) (.head _))
    have H : Sep n w0 _ (Ck.own (Kd.slice 5 Kd.u8) q3 d3 l[i].f_Bytes :: _) := H.front (.there (.here))
    obtain ⟨u11, rfl⟩ := sl_one (H.own (d := (Kd.slice 5 Kd.u8)) (fp := q3) (cs := d3) (x := l[i].f_Bytes) (.head _))
    have H := H.front (c := Ck.box g (pre ++ [.bool l[i].f_ToPost, .string ⟨(l[i].f_Item.f_Route).toArray⟩, .int .i64 l[i].f_Item.f_Topic, .int .i64 l[i].f_Item.f_Due, u10, u11] ++ post) 85)
    rw [toteWire_eq l[i]] at hb1
    refine x_rem (b := 3) ?_
    refine ve (And.intro (show (((k + totL toteWire (l.take i) : Nat) : Int)).tmod 3 = (((k + totL toteWire (l.take i)) % 3 : Nat) : Int) from rfl) (show ((((k + totL toteWire (l.take i)) % 3 : Nat) : Int) = 0) = ((k + totL toteWire (l.take i)) % 3 = 0) from propext ⟨fun h => by omega, fun h => by omega⟩)) ?_
    refine x_index sl39 rfl (by omega) hlt (vs ?_)
    refine x_stE (j := 0) (v := .bool (decide ((k + totL toteWire (l.take i)) % 3 = 0))) H sc4 fun w3 H => ?_
    have H : Sep n w0 w3 (Ck.box g (pre ++ [.bool (decide ((k + totL toteWire (l.take i)) % 3 = 0)), .string ⟨(l[i].f_Item.f_Route).toArray⟩, .int .i64 l[i].f_Item.f_Topic, .int .i64 l[i].f_Item.f_Due, u10, u11] ++ post) 85 :: _) := H.front
    have ek0 : w64 (((k + totL toteWire (l.take i) : Nat) : Int) + 1) = ((k + totL toteWire (l.take i) + 1 : Nat) : Int) := by unfold w64; omega
    refine ve ek0 ?_
    clear ek0
    refine x_callb H (markText_ok _ (k + totL toteWire (l.take i) + 1) (by omega)) fun w4 H => vs ?_
    refine x_index sl39 rfl (by omega) hlt (vs ?_)
    refine x_stE (j := 1) (v := .string ⟨(mkText (k + totL toteWire (l.take i) + 1)).toArray⟩) H sc9 fun w5 H => ?_
    have H : Sep n w0 w5 (Ck.box g (pre ++ [.bool (decide ((k + totL toteWire (l.take i)) % 3 = 0)), .string ⟨(mkText (k + totL toteWire (l.take i) + 1)).toArray⟩, .int .i64 l[i].f_Item.f_Topic, .int .i64 l[i].f_Item.f_Due, u10, u11] ++ post) 85 :: _) := H.front
    have ek1 : w64 (((k + totL toteWire (l.take i) + 1 : Nat) : Int) + 1) = ((k + totL toteWire (l.take i) + 1 + 1 : Nat) : Int) := by unfold w64; omega
    refine ve ek1 ?_
    clear ek1
    refine x_index sl39 rfl (by omega) hlt (vs ?_)
    refine x_stE (j := 2) (v := .int .i64 ((k + totL toteWire (l.take i) + 1 + 1 : Nat) : Int)) H sc3 fun w6 H => ?_
    have H : Sep n w0 w6 (Ck.box g (pre ++ [.bool (decide ((k + totL toteWire (l.take i)) % 3 = 0)), .string ⟨(mkText (k + totL toteWire (l.take i) + 1)).toArray⟩, .int .i64 ((k + totL toteWire (l.take i) + 1 + 1 : Nat) : Int), .int .i64 l[i].f_Item.f_Due, u10, u11] ++ post) 85 :: _) := H.front
    have ek2 : w64 (((k + totL toteWire (l.take i) + 1 + 1 : Nat) : Int) + 1) = ((k + totL toteWire (l.take i) + 1 + 1 + 1 : Nat) : Int) := by unfold w64; omega
    refine ve ek2 ?_
    clear ek2
    refine x_index sl39 rfl (by omega) hlt (vs ?_)
    refine x_stE (j := 3) (v := .int .i64 ((k + totL toteWire (l.take i) + 1 + 1 + 1 : Nat) : Int)) H sc3 fun w7 H => ?_
    have H : Sep n w0 w7 (Ck.box g (pre ++ [.bool (decide ((k + totL toteWire (l.take i)) % 3 = 0)), .string ⟨(mkText (k + totL toteWire (l.take i) + 1)).toArray⟩, .int .i64 ((k + totL toteWire (l.take i) + 1 + 1 : Nat) : Int), .int .i64 ((k + totL toteWire (l.take i) + 1 + 1 + 1 : Nat) : Int), u10, u11] ++ post) 85 :: _) := H.front
    have ek3 : w64 (((k + totL toteWire (l.take i) + 1 + 1 + 1 : Nat) : Int) + 1) = ((k + totL toteWire (l.take i) + 1 + 1 + 1 + 1 : Nat) : Int) := by unfold w64; omega
    refine ve ek3 ?_
    clear ek3
    refine x_index sl39 rfl (by omega) hlt (vs ?_)
    refine x_ldE (j := 4) H sc22 ?_
    refine vs ?_
    have H := H.front (c := Ck.own (Kd.slice 5 Kd.u8) q8 [u10] l[i].f_Item.f_Bytes)
    refine x_call (markByteS_ok H (k + totL toteWire (l.take i) + 1 + 1 + 1 + 1) (by omega)) fun _ w8 ⟨e4, p4, H⟩ => ?_
    subst e4
    refine vs ?_
    refine x_index sl39 rfl (by omega) hlt (vs ?_)
    refine x_ldE (j := 5) H sc22 ?_
    refine vs ?_
    have H := H.front (c := Ck.own (Kd.slice 5 Kd.u8) q3 [u11] l[i].f_Bytes)
    refine x_call (markByteS_ok H (k + totL toteWire (l.take i) + 1 + 1 + 1 + 1 + (l[i].f_Item.f_Bytes).length) (by omega)) fun _ w9 ⟨e5, p5, H⟩ => ?_
    subst e5
    refine vs ?_
    have H := H.front (c := Ck.own (Kd.slice 5 Kd.u8) p5 [u11] (mkB (l[i].f_Bytes) (k + totL toteWire (l.take i) + 1 + 1 + 1 + 1 + (l[i].f_Item.f_Bytes).length)))
    have H := H.front (c := Ck.own (Kd.slice 5 Kd.u8) p4 [u10] (mkB (l[i].f_Item.f_Bytes) (k + totL toteWire (l.take i) + 1 + 1 + 1 + 1)))
    have H := Sep.plain pl_i64 (x := ((k + totL toteWire (l.take i) + 1 + 1 + 1 : Nat) : Int)) H (by constructor <;> omega)
    have H := H.pair
    have H := Sep.plain pl_i64 (x := ((k + totL toteWire (l.take i) + 1 + 1 : Nat) : Int)) H (by constructor <;> omega)
    have H := H.pair
    have H := Sep.plain pl_str (x := mkText (k + totL toteWire (l.take i) + 1)) H (mkText_len _ (by omega))
    have H := H.pair
    have H := Sep.iso (y := (mkeWire l[i] (k + totL toteWire (l.take i))).f_Item) (f := fun c : MItem => (c.f_Route, c.f_Topic, c.f_Due, c.f_Bytes)) H
    have H := H.pair
    have H := Sep.plain pl_bool (x := decide ((k + totL toteWire (l.take i)) % 3 = 0)) H trivial
    have H := H.pair
    have H := Sep.iso (y := (mkeWire l[i] (k + totL toteWire (l.take i)))) (f := fun c : MWire => (c.f_ToPost, c.f_Item, c.f_Bytes)) H
    have H := H.front (c := Ck.box g (pre ++ [.bool (decide ((k + totL toteWire (l.take i)) % 3 = 0)), .string ⟨(mkText (k + totL toteWire (l.take i) + 1)).toArray⟩, .int .i64 ((k + totL toteWire (l.take i) + 1 + 1 : Nat) : Int), .int .i64 ((k + totL toteWire (l.take i) + 1 + 1 + 1 : Nat) : Int), u10, u11] ++ post) 85)
    obtain ⟨f9, H⟩ := close H
    rw [mk_step l k i hi2] at H
    have hb3 : totL toteWire (l.take (i + 1)) = totL toteWire (l.take i) + toteWire l[i] := totL_take_succ l i hi2
    rw [toteWire_eq l[i]] at hb3
    exact ⟨(i + 1, f9), ⟨i64_eq (by show ((_ : Nat) : Int) = ((k + totL toteWire (l.take (i + 1)) : Nat) : Int); omega), i64_eq (by show w64 ((i : Int) + 1) = ((i + 1 : Nat) : Int); unfold w64; omega)⟩, ⟨hi2, H⟩, by show l.length - (i + 1) < l.length - i; omega⟩
  · refine vh fun hlt => ?_
    obtain rfl : i = l.length := by omega
    rw [List.take_length, List.drop_length, List.append_nil] at H
    rw [List.take_length]
    exact ⟨rfl, fp, H⟩

/-! ### Sent -/
def totSent (x : MSent) : Nat := (x.f_Note).length + (x.f_Bytes).length
def mkSent (x : MSent) (k : Nat) : MSent := { x with f_Note := mkB (x.f_Note) (k), f_Bytes := mkB (x.f_Bytes) (k + (x.f_Note).length) }
theorem totSent_le {x : MSent} (h : smSent x) : totSent x ≤ 2097152 := by
  unfold smSent at h
  unfold totSent
  have q2 := h.2.1
  have q3 := h.2.2
  omega
theorem ownSent {n : Nat} {w0 w : World} {L : List Ck} {f2 f3 : List Nat} {v2 v3 : Value} (x : MSent) (H : Sep n w0 w (Ck.own (Kd.slice 5 Kd.u8) f2 [v2] x.f_Note :: Ck.own (Kd.slice 5 Kd.u8) f3 [v3] x.f_Bytes :: L)) (r0 : (x.f_Route).length ≤ 9223372036854775807) (r1 : -9223372036854775808 ≤ x.f_Epoch ∧ x.f_Epoch < 9223372036854775808) : ∃ fp, Sep n w0 w (Ck.own kSent fp [.string ⟨(x.f_Route).toArray⟩, .int .i64 x.f_Epoch, v2, v3] x :: L) := by
  have H := H.front (c := Ck.own (Kd.slice 5 Kd.u8) f3 [v3] x.f_Bytes)
  have H := H.front (c := Ck.own (Kd.slice 5 Kd.u8) f2 [v2] x.f_Note)
  have H := H.pair
  have H := H.plain pl_i64 (x := x.f_Epoch) r1
  have H := H.pair
  have H := H.plain pl_str (x := x.f_Route) r0
  have H := H.pair
  exact ⟨_, Sep.iso (y := x) (f := fun c : MSent => (c.f_Route, c.f_Epoch, c.f_Note, c.f_Bytes)) H⟩
theorem apartSent {n : Nat} {w0 w : World} {L : List Ck} {fp : List Nat} {cs : List Value} {x : MSent} (H : Sep n w0 w (Ck.own kSent fp cs x :: L)) : ∃ v2 v3 f2 f3, cs = [.string ⟨(x.f_Route).toArray⟩, .int .i64 x.f_Epoch, v2, v3] ∧ ((x.f_Route).length ≤ 9223372036854775807) ∧ (-9223372036854775808 ≤ x.f_Epoch ∧ x.f_Epoch < 9223372036854775808) ∧ Sep n w0 w (Ck.own (Kd.slice 5 Kd.u8) f2 [v2] x.f_Note :: Ck.own (Kd.slice 5 Kd.u8) f3 [v3] x.f_Bytes :: L) := by
  have H : Sep n w0 w (Ck.own (Kd.pair Kd.str (Kd.pair Kd.i64 (Kd.pair (Kd.slice 5 Kd.u8) (Kd.slice 5 Kd.u8)))) fp cs (x.f_Route, x.f_Epoch, x.f_Note, x.f_Bytes) :: L) := H
  obtain ⟨f0, q0, c0, d0, rfl, _, H⟩ := H.unpair
  obtain ⟨rfl, r0⟩ := (H.own (d := Kd.str) (fp := f0) (cs := c0) (x := x.f_Route) (.head _))
  have H := H.tail
  have H : Sep n w0 w (Ck.own (Kd.pair Kd.i64 (Kd.pair (Kd.slice 5 Kd.u8) (Kd.slice 5 Kd.u8))) q0 d0 (x.f_Epoch, x.f_Note, x.f_Bytes) :: _) := H
  obtain ⟨f1, q1, c1, d1, rfl, _, H⟩ := H.unpair
  obtain ⟨rfl, r1⟩ := (H.own (d := Kd.i64) (fp := f1) (cs := c1) (x := x.f_Epoch) (.head _))
  have H := H.tail
  have H : Sep n w0 w (Ck.own (Kd.pair (Kd.slice 5 Kd.u8) (Kd.slice 5 Kd.u8)) q1 d1 (x.f_Note, x.f_Bytes) :: _) := H
  obtain ⟨f2, q2, c2, d2, rfl, _, H⟩ := H.unpair
  obtain ⟨v2, rfl⟩ := sl_one (H.own (d := (Kd.slice 5 Kd.u8)) (fp := f2) (cs := c2) (x := x.f_Note) (.head _))
  have H : Sep n w0 w (Ck.own (Kd.slice 5 Kd.u8) q2 d2 x.f_Bytes :: _) := H.front (.there .here)
  obtain ⟨v3, rfl⟩ := sl_one (H.own (d := (Kd.slice 5 Kd.u8)) (fp := q2) (cs := d2) (x := x.f_Bytes) (.head _))
  have H := H.front (c := Ck.own (Kd.slice 5 Kd.u8) q2 [v3] x.f_Bytes)
  have H := H.front (c := Ck.own (Kd.slice 5 Kd.u8) f2 [v2] x.f_Note)
  exact ⟨v2, v3, f2, q2, rfl, r0, r1, H⟩

/-! ### lists of Sent -/
def toteSent (x : MSent) : Nat := 1 + 1 + (x.f_Note).length + (x.f_Bytes).length
def mkeSent (x : MSent) (k : Nat) : MSent := { x with f_Route := mkText (k), f_Epoch := ((k + 1 : Nat) : Int), f_Note := mkB (x.f_Note) (k + 1 + 1), f_Bytes := mkB (x.f_Bytes) (k + 1 + 1 + (x.f_Note).length) }
theorem toteSent_eq (x : MSent) : toteSent x = 1 + 1 + (x.f_Note).length + (x.f_Bytes).length := rfl
def totSentS (l : List MSent) : Nat := totL toteSent l
def mkSentS (l : List MSent) (k : Nat) : List MSent := mkL mkeSent toteSent l k
theorem toteSent_le {x : MSent} (h : smSent x) : toteSent x ≤ 2097154 := by
  unfold smSent at h
  unfold toteSent
  have q0 := h.2.1
  have q1 := h.2.2
  omega
theorem totSentS_le {l : List MSent} (h : smSentS l) : totSentS l ≤ 2199025352704 := by
  refine Nat.le_trans (totL_le (B := 2097154) fun y hy => toteSent_le (h.2 y hy)) ?_
  have := h.1; omega
theorem markSentS_ok {n : Nat} {w0 w : World} {M : List Ck} {fp : List Nat} {v : Value} {l : List MSent} (H : Sep n w0 w (Ck.own (Kd.slice 87 kSent) fp [v] l :: M)) (k : Nat) (hk : k + totSentS l ≤ 4611686018427387904) :
    ACalls Try.prog 34 #[v, .int .i64 (k : Int)] w fun r w' => r = .int .i64 ((k + totSentS l : Nat) : Int) ∧ ∃ fp', Sep n w0 w' (Ck.own (Kd.slice 87 kSent) fp' [v] (mkSentS l k) :: M) := by
  unfold totSentS mkSentS at *
  obtain ⟨A, c, rfl, hA⟩ := own_val (show (Kd.slice 87 kSent).ow w fp [v] l from H.ok _ (.head _))
  have hlm := sl_len (H.own (.head _))
  refine body_of follows Try.func34 rfl rfl _ rfl (by kernel_rfl) (vs ?_)
  refine loop_at (σ := Nat × List Nat) (fun x => [(0, .slice A l.length c), (1, .int .i64 ((k + totL toteSent (l.take x.1) : Nat) : Int)), (5, .int .i64 (x.1 : Int))])
    (fun x w' => x.1 ≤ l.length ∧ Sep n w0 w' (Ck.own (Kd.slice 87 kSent) x.2 [.slice A l.length c] (mkL mkeSent toteSent (l.take x.1) k ++ l.drop x.1) :: M)) (fun x => l.length - x.1) (0, fp) (vs ?_) ⟨Nat.zero_le _, H⟩ ?_
  · rfl
  rintro ⟨i, fp⟩ s w2 ⟨hi, H⟩
  dsimp only at hi H
  refine vs (ways ?_ ?_)
  · refine vh fun hlt => ?_
    have hi2 : i < l.length := by omega
    obtain ⟨g, c2, pre, post, fpi, es, R, hv, hpre, H1, hes, close⟩ := H.openEl i (by simp [mkL_len]; omega)
    simp only [Value.slice.injEq] at hv
    obtain ⟨rfl, _, rfl⟩ := hv
    have H := H1
    rw [mk_at l k i hi2] at H
    have hb1 := totL_take_succ (tot := toteSent) l i hi2
    have hb2 := totL_take_le (tot := toteSent) l (i + 1)
    have hpre : pre.length = i * 4 := hpre
    have H := H.front (c := Ck.own kSent fpi es l[i]) (.there .here)
    have H : Sep n w0 _ (Ck.own (Kd.pair Kd.str (Kd.pair Kd.i64 (Kd.pair (Kd.slice 5 Kd.u8) (Kd.slice 5 Kd.u8)))) fpi es (l[i].f_Route, l[i].f_Epoch, l[i].f_Note, l[i].f_Bytes) :: _) := H
    obtain ⟨f1, q1, c1, d1, rfl, _, H⟩ := H.unpair
    obtain ⟨rfl, r2⟩ := (H.own (d := Kd.str) (fp := f1) (cs := c1) (x := l[i].f_Route) (.head _))
    have H := H.tail
    have H : Sep n w0 _ (Ck.own (Kd.pair Kd.i64 (Kd.pair (Kd.slice 5 Kd.u8) (Kd.slice 5 Kd.u8))) q1 d1 (l[i].f_Epoch, l[i].f_Note, l[i].f_Bytes) :: _) := H
    obtain ⟨f3, q3, c3, d3, rfl, _, H⟩ := H.unpair
    obtain ⟨rfl, r4⟩ := (H.own (d := Kd.i64) (fp := f3) (cs := c3) (x := l[i].f_Epoch) (.head _))
    have H := H.tail
    have H : Sep n w0 _ (Ck.own (Kd.pair (Kd.slice 5 Kd.u8) (Kd.slice 5 Kd.u8)) q3 d3 (l[i].f_Note, l[i].f_Bytes) :: _) := H
    obtain ⟨f5, q5, c5, d5, rfl, _, H⟩ := H.unpair
    obtain ⟨u6, rfl⟩ := sl_one (H.own (d := (Kd.slice 5 Kd.u8)) (fp := f5) (cs := c5) (x := l[i].f_Note) (.head _))
    have H : Sep n w0 _ (Ck.own (Kd.slice 5 Kd.u8) q5 d5 l[i].f_Bytes :: _) := H.front (.there .here)
    obtain ⟨u7, rfl⟩ := sl_one (H.own (d := (Kd.slice 5 Kd.u8)) (fp := q5) (cs := d5) (x := l[i].f_Bytes) (.head _))
    have H := H.front (c := Ck.box g (pre ++ [.string ⟨(l[i].f_Route).toArray⟩, .int .i64 l[i].f_Epoch, u6, u7] ++ post) 87)
    rw [toteSent_eq l[i]] at hb1
    refine x_callb H (markText_ok _ (k + totL toteSent (l.take i)) (by omega)) fun w3 H => vs ?_
    refine x_index sl40 rfl (by omega) hlt (vs ?_)
    refine x_stE (j := 0) (v := .string ⟨(mkText (k + totL toteSent (l.take i))).toArray⟩) H sc9 fun w4 H => ?_
    have H : Sep n w0 w4 (Ck.box g (pre ++ [.string ⟨(mkText (k + totL toteSent (l.take i))).toArray⟩, .int .i64 l[i].f_Epoch, u6, u7] ++ post) 87 :: _) := H.front
    have ek0 : w64 (((k + totL toteSent (l.take i) : Nat) : Int) + 1) = ((k + totL toteSent (l.take i) + 1 : Nat) : Int) := by unfold w64; omega
    refine ve ek0 ?_
    clear ek0
    refine x_index sl40 rfl (by omega) hlt (vs ?_)
    refine x_stE (j := 1) (v := .int .i64 ((k + totL toteSent (l.take i) + 1 : Nat) : Int)) H sc3 fun w5 H => ?_
    have H : Sep n w0 w5 (Ck.box g (pre ++ [.string ⟨(mkText (k + totL toteSent (l.take i))).toArray⟩, .int .i64 ((k + totL toteSent (l.take i) + 1 : Nat) : Int), u6, u7] ++ post) 87 :: _) := H.front
    have ek1 : w64 (((k + totL toteSent (l.take i) + 1 : Nat) : Int) + 1) = ((k + totL toteSent (l.take i) + 1 + 1 : Nat) : Int) := by unfold w64; omega
    refine ve ek1 ?_
    clear ek1
    refine x_index sl40 rfl (by omega) hlt (vs ?_)
    refine x_ldE (j := 2) H sc22 ?_
    refine vs ?_
    have H := H.front (c := Ck.own (Kd.slice 5 Kd.u8) f5 [u6] l[i].f_Note)
    refine x_call (markByteS_ok H (k + totL toteSent (l.take i) + 1 + 1) (by omega)) fun _ w6 ⟨e2, p2, H⟩ => ?_
    subst e2
    refine vs ?_
    refine x_index sl40 rfl (by omega) hlt (vs ?_)
    refine x_ldE (j := 3) H sc22 ?_
    refine vs ?_
    have H := H.front (c := Ck.own (Kd.slice 5 Kd.u8) q5 [u7] l[i].f_Bytes)
    refine x_call (markByteS_ok H (k + totL toteSent (l.take i) + 1 + 1 + (l[i].f_Note).length) (by omega)) fun _ w7 ⟨e3, p3, H⟩ => ?_
    subst e3
    refine vs ?_
    have H := H.front (c := Ck.own (Kd.slice 5 Kd.u8) p3 [u7] (mkB (l[i].f_Bytes) (k + totL toteSent (l.take i) + 1 + 1 + (l[i].f_Note).length)))
    have H := H.front (c := Ck.own (Kd.slice 5 Kd.u8) p2 [u6] (mkB (l[i].f_Note) (k + totL toteSent (l.take i) + 1 + 1)))
    have H := H.pair
    have H := Sep.plain pl_i64 (x := ((k + totL toteSent (l.take i) + 1 : Nat) : Int)) H (by constructor <;> omega)
    have H := H.pair
    have H := Sep.plain pl_str (x := mkText (k + totL toteSent (l.take i))) H (mkText_len _ (by omega))
    have H := H.pair
    have H := Sep.iso (y := (mkeSent l[i] (k + totL toteSent (l.take i)))) (f := fun c : MSent => (c.f_Route, c.f_Epoch, c.f_Note, c.f_Bytes)) H
    have H := H.front (c := Ck.box g (pre ++ [.string ⟨(mkText (k + totL toteSent (l.take i))).toArray⟩, .int .i64 ((k + totL toteSent (l.take i) + 1 : Nat) : Int), u6, u7] ++ post) 87)
    obtain ⟨f9, H⟩ := close H
    rw [mk_step l k i hi2] at H
    have hb3 : totL toteSent (l.take (i + 1)) = totL toteSent (l.take i) + toteSent l[i] := totL_take_succ l i hi2
    rw [toteSent_eq l[i]] at hb3
    exact ⟨(i + 1, f9), ⟨i64_eq (by show ((_ : Nat) : Int) = ((k + totL toteSent (l.take (i + 1)) : Nat) : Int); omega), i64_eq (by show w64 ((i : Int) + 1) = ((i + 1 : Nat) : Int); unfold w64; omega)⟩, ⟨hi2, H⟩, by show l.length - (i + 1) < l.length - i; omega⟩
  · refine vh fun hlt => ?_
    obtain rfl : i = l.length := by omega
    rw [List.take_length, List.drop_length, List.append_nil] at H
    rw [List.take_length]
    exact ⟨rfl, fp, H⟩

/-! ### World -/
def totWorld (x : MWorld) : Nat := (x.f_Seed).length + totPost (x.f_Post) + totReader (x.f_Reader) + totWireS (x.f_Net) + totSentS (x.f_Sent)
def mkWorld (x : MWorld) (k : Nat) : MWorld := { x with f_Seed := mkB (x.f_Seed) (k), f_Post := mkPost (x.f_Post) (k + (x.f_Seed).length), f_Reader := mkReader (x.f_Reader) (k + (x.f_Seed).length + totPost (x.f_Post)), f_Net := mkWireS (x.f_Net) (k + (x.f_Seed).length + totPost (x.f_Post) + totReader (x.f_Reader)), f_Sent := mkSentS (x.f_Sent) (k + (x.f_Seed).length + totPost (x.f_Post) + totReader (x.f_Reader) + totWireS (x.f_Net)) }
theorem totWorld_le {x : MWorld} (h : smWorld x) : totWorld x ≤ 7696593977344 := by
  unfold smWorld at h
  unfold totWorld
  have q0 := h.1
  have q3 := totPost_le (h.2.1)
  have q4 := totReader_le (h.2.2.1)
  have q5 := totWireS_le (h.2.2.2.1)
  have q6 := totSentS_le (h.2.2.2.2)
  omega
theorem ownWorld {n : Nat} {w0 w : World} {L : List Ck} {f0 f3 f4 f5 f6 : List Nat} {v0 v3_0 v3_2 v4_0 v4_2 v4_3 v5 v6 : Value} (x : MWorld) (H : Sep n w0 w (Ck.own (Kd.slice 5 Kd.u8) f0 [v0] x.f_Seed :: Ck.own kPost f3 [v3_0, .int .i64 x.f_Post.f_Time, v3_2, .int .i64 x.f_Post.f_Sure] x.f_Post :: Ck.own kReader f4 [v4_0, .int .i64 x.f_Reader.f_Epoch, v4_2, v4_3] x.f_Reader :: Ck.own (Kd.slice 85 kWire) f5 [v5] x.f_Net :: Ck.own (Kd.slice 87 kSent) f6 [v6] x.f_Sent :: L)) (r1 : -9223372036854775808 ≤ x.f_Count ∧ x.f_Count < 9223372036854775808) (r2 : -9223372036854775808 ≤ x.f_Known ∧ x.f_Known < 9223372036854775808) : ∃ fp, Sep n w0 w (Ck.own kWorld fp [v0, .int .i64 x.f_Count, .int .i64 x.f_Known, v3_0, .int .i64 x.f_Post.f_Time, v3_2, .int .i64 x.f_Post.f_Sure, v4_0, .int .i64 x.f_Reader.f_Epoch, v4_2, v4_3, v5, v6] x :: L) := by
  have H := H.front (c := Ck.own (Kd.slice 87 kSent) f6 [v6] x.f_Sent)
  have H := H.front (c := Ck.own (Kd.slice 85 kWire) f5 [v5] x.f_Net)
  have H := H.pair
  have H := H.front (c := Ck.own kReader f4 [v4_0, .int .i64 x.f_Reader.f_Epoch, v4_2, v4_3] x.f_Reader)
  have H := H.pair
  have H := H.front (c := Ck.own kPost f3 [v3_0, .int .i64 x.f_Post.f_Time, v3_2, .int .i64 x.f_Post.f_Sure] x.f_Post)
  have H := H.pair
  have H := H.plain pl_i64 (x := x.f_Known) r2
  have H := H.pair
  have H := H.plain pl_i64 (x := x.f_Count) r1
  have H := H.pair
  have H := H.front (c := Ck.own (Kd.slice 5 Kd.u8) f0 [v0] x.f_Seed)
  have H := H.pair
  exact ⟨_, Sep.iso (y := x) (f := fun c : MWorld => (c.f_Seed, c.f_Count, c.f_Known, c.f_Post, c.f_Reader, c.f_Net, c.f_Sent)) H⟩
theorem apartWorld {n : Nat} {w0 w : World} {L : List Ck} {fp : List Nat} {cs : List Value} {x : MWorld} (H : Sep n w0 w (Ck.own kWorld fp cs x :: L)) : ∃ v0 v3_0 v3_2 v4_0 v4_2 v4_3 v5 v6 f0 f3 f4 f5 f6, cs = [v0, .int .i64 x.f_Count, .int .i64 x.f_Known, v3_0, .int .i64 x.f_Post.f_Time, v3_2, .int .i64 x.f_Post.f_Sure, v4_0, .int .i64 x.f_Reader.f_Epoch, v4_2, v4_3, v5, v6] ∧ (-9223372036854775808 ≤ x.f_Count ∧ x.f_Count < 9223372036854775808) ∧ (-9223372036854775808 ≤ x.f_Known ∧ x.f_Known < 9223372036854775808) ∧ Sep n w0 w (Ck.own (Kd.slice 5 Kd.u8) f0 [v0] x.f_Seed :: Ck.own kPost f3 [v3_0, .int .i64 x.f_Post.f_Time, v3_2, .int .i64 x.f_Post.f_Sure] x.f_Post :: Ck.own kReader f4 [v4_0, .int .i64 x.f_Reader.f_Epoch, v4_2, v4_3] x.f_Reader :: Ck.own (Kd.slice 85 kWire) f5 [v5] x.f_Net :: Ck.own (Kd.slice 87 kSent) f6 [v6] x.f_Sent :: L) := by
  have H : Sep n w0 w (Ck.own (Kd.pair (Kd.slice 5 Kd.u8) (Kd.pair Kd.i64 (Kd.pair Kd.i64 (Kd.pair kPost (Kd.pair kReader (Kd.pair (Kd.slice 85 kWire) (Kd.slice 87 kSent))))))) fp cs (x.f_Seed, x.f_Count, x.f_Known, x.f_Post, x.f_Reader, x.f_Net, x.f_Sent) :: L) := H
  obtain ⟨f0, q0, c0, d0, rfl, _, H⟩ := H.unpair
  obtain ⟨v0, rfl⟩ := sl_one (H.own (d := (Kd.slice 5 Kd.u8)) (fp := f0) (cs := c0) (x := x.f_Seed) (.head _))
  have H : Sep n w0 w (Ck.own (Kd.pair Kd.i64 (Kd.pair Kd.i64 (Kd.pair kPost (Kd.pair kReader (Kd.pair (Kd.slice 85 kWire) (Kd.slice 87 kSent)))))) q0 d0 (x.f_Count, x.f_Known, x.f_Post, x.f_Reader, x.f_Net, x.f_Sent) :: _) := H.front (.there .here)
  obtain ⟨f1, q1, c1, d1, rfl, _, H⟩ := H.unpair
  obtain ⟨rfl, r1⟩ := (H.own (d := Kd.i64) (fp := f1) (cs := c1) (x := x.f_Count) (.head _))
  have H := H.tail
  have H : Sep n w0 w (Ck.own (Kd.pair Kd.i64 (Kd.pair kPost (Kd.pair kReader (Kd.pair (Kd.slice 85 kWire) (Kd.slice 87 kSent))))) q1 d1 (x.f_Known, x.f_Post, x.f_Reader, x.f_Net, x.f_Sent) :: _) := H
  obtain ⟨f2, q2, c2, d2, rfl, _, H⟩ := H.unpair
  obtain ⟨rfl, r2⟩ := (H.own (d := Kd.i64) (fp := f2) (cs := c2) (x := x.f_Known) (.head _))
  have H := H.tail
  have H : Sep n w0 w (Ck.own (Kd.pair kPost (Kd.pair kReader (Kd.pair (Kd.slice 85 kWire) (Kd.slice 87 kSent)))) q2 d2 (x.f_Post, x.f_Reader, x.f_Net, x.f_Sent) :: _) := H
  obtain ⟨f3, q3, c3, d3, rfl, _, H⟩ := H.unpair
  obtain ⟨v3_0, v3_2, rfl, _⟩ := kPost_open (H.own (d := kPost) (fp := f3) (cs := c3) (x := x.f_Post) (.head _))
  have H : Sep n w0 w (Ck.own (Kd.pair kReader (Kd.pair (Kd.slice 85 kWire) (Kd.slice 87 kSent))) q3 d3 (x.f_Reader, x.f_Net, x.f_Sent) :: _) := H.front (.there .here)
  obtain ⟨f4, q4, c4, d4, rfl, _, H⟩ := H.unpair
  obtain ⟨v4_0, v4_2, v4_3, rfl, _⟩ := kReader_open (H.own (d := kReader) (fp := f4) (cs := c4) (x := x.f_Reader) (.head _))
  have H : Sep n w0 w (Ck.own (Kd.pair (Kd.slice 85 kWire) (Kd.slice 87 kSent)) q4 d4 (x.f_Net, x.f_Sent) :: _) := H.front (.there .here)
  obtain ⟨f5, q5, c5, d5, rfl, _, H⟩ := H.unpair
  obtain ⟨v5, rfl⟩ := sl_one (H.own (d := (Kd.slice 85 kWire)) (fp := f5) (cs := c5) (x := x.f_Net) (.head _))
  have H : Sep n w0 w (Ck.own (Kd.slice 87 kSent) q5 d5 x.f_Sent :: _) := H.front (.there .here)
  obtain ⟨v6, rfl⟩ := sl_one (H.own (d := (Kd.slice 87 kSent)) (fp := q5) (cs := d5) (x := x.f_Sent) (.head _))
  have H := H.front (c := Ck.own (Kd.slice 87 kSent) q5 [v6] x.f_Sent)
  have H := H.front (c := Ck.own (Kd.slice 85 kWire) f5 [v5] x.f_Net)
  have H := H.front (c := Ck.own kReader f4 [v4_0, .int .i64 x.f_Reader.f_Epoch, v4_2, v4_3] x.f_Reader)
  have H := H.front (c := Ck.own kPost f3 [v3_0, .int .i64 x.f_Post.f_Time, v3_2, .int .i64 x.f_Post.f_Sure] x.f_Post)
  have H := H.front (c := Ck.own (Kd.slice 5 Kd.u8) f0 [v0] x.f_Seed)
  exact ⟨v0, v3_0, v3_2, v4_0, v4_2, v4_3, v5, v6, f0, f3, f4, f5, q5, rfl, r1, r2, H⟩
theorem markWorld_ok {n : Nat} {w0 w : World} {M : List Ck} {fp : List Nat} {cs : List Value} {x : MWorld} (H : Sep n w0 w (Ck.own kWorld fp cs x :: M)) (k : Nat) (hk : k + totWorld x ≤ 4611686018427387904) :
    ACalls Try.prog 10 #[.agg cs.toArray, .int .i64 (k : Int)] w fun r w' => r = .int .i64 ((k + totWorld x : Nat) : Int) ∧ ∃ fp', Sep n w0 w' (Ck.own kWorld fp' cs (mkWorld x k) :: M) := by
  unfold totWorld at hk
  have H : Sep n w0 w (Ck.own (Kd.pair (Kd.slice 5 Kd.u8) (Kd.pair Kd.i64 (Kd.pair Kd.i64 (Kd.pair kPost (Kd.pair kReader (Kd.pair (Kd.slice 85 kWire) (Kd.slice 87 kSent))))))) fp cs (x.f_Seed, x.f_Count, x.f_Known, x.f_Post, x.f_Reader, x.f_Net, x.f_Sent) :: M) := H
  obtain ⟨f0, q0, c0, d0, rfl, _, H⟩ := H.unpair
  have H : Sep n w0 w (Ck.own (Kd.pair Kd.i64 (Kd.pair Kd.i64 (Kd.pair kPost (Kd.pair kReader (Kd.pair (Kd.slice 85 kWire) (Kd.slice 87 kSent)))))) q0 d0 (x.f_Count, x.f_Known, x.f_Post, x.f_Reader, x.f_Net, x.f_Sent) :: _) := H.front (.there .here)
  obtain ⟨f1, q1, c1, d1, rfl, _, H⟩ := H.unpair
  have H : Sep n w0 w (Ck.own (Kd.pair Kd.i64 (Kd.pair kPost (Kd.pair kReader (Kd.pair (Kd.slice 85 kWire) (Kd.slice 87 kSent))))) q1 d1 (x.f_Known, x.f_Post, x.f_Reader, x.f_Net, x.f_Sent) :: _) := H.front (.there .here)
  obtain ⟨f2, q2, c2, d2, rfl, _, H⟩ := H.unpair
  have H : Sep n w0 w (Ck.own (Kd.pair kPost (Kd.pair kReader (Kd.pair (Kd.slice 85 kWire) (Kd.slice 87 kSent)))) q2 d2 (x.f_Post, x.f_Reader, x.f_Net, x.f_Sent) :: _) := H.front (.there .here)
  obtain ⟨f3, q3, c3, d3, rfl, _, H⟩ := H.unpair
  have H : Sep n w0 w (Ck.own (Kd.pair kReader (Kd.pair (Kd.slice 85 kWire) (Kd.slice 87 kSent))) q3 d3 (x.f_Reader, x.f_Net, x.f_Sent) :: _) := H.front (.there .here)
  obtain ⟨f4, q4, c4, d4, rfl, _, H⟩ := H.unpair
  have H : Sep n w0 w (Ck.own (Kd.pair (Kd.slice 85 kWire) (Kd.slice 87 kSent)) q4 d4 (x.f_Net, x.f_Sent) :: _) := H.front (.there .here)
  obtain ⟨f5, q5, c5, d5, rfl, _, H⟩ := H.unpair
  have H : Sep n w0 w (Ck.own (Kd.slice 87 kSent) q5 d5 x.f_Sent :: _) := H.front (.there .here)
  obtain ⟨v0, rfl⟩ := sl_one (H.own (d := (Kd.slice 5 Kd.u8)) (fp := f0) (cs := c0) (x := x.f_Seed) (.tail _ (.tail _ (.tail _ (.tail _ (.tail _ (.tail _ (.head _))))))))
  obtain ⟨rfl, r1⟩ := (H.own (d := Kd.i64) (fp := f1) (cs := c1) (x := x.f_Count) (.tail _ (.tail _ (.tail _ (.tail _ (.tail _ (.head _)))))))
  obtain ⟨rfl, r2⟩ := (H.own (d := Kd.i64) (fp := f2) (cs := c2) (x := x.f_Known) (.tail _ (.tail _ (.tail _ (.tail _ (.head _))))))
  obtain ⟨v3_0, v3_2, rfl, _⟩ := kPost_open (H.own (d := kPost) (fp := f3) (cs := c3) (x := x.f_Post) (.tail _ (.tail _ (.tail _ (.head _)))))
  obtain ⟨v4_0, v4_2, v4_3, rfl, _⟩ := kReader_open (H.own (d := kReader) (fp := f4) (cs := c4) (x := x.f_Reader) (.tail _ (.tail _ (.head _))))
  obtain ⟨v5, rfl⟩ := sl_one (H.own (d := (Kd.slice 85 kWire)) (fp := f5) (cs := c5) (x := x.f_Net) (.tail _ (.head _)))
  obtain ⟨v6, rfl⟩ := sl_one (H.own (d := (Kd.slice 87 kSent)) (fp := q5) (cs := d5) (x := x.f_Sent) (.head _))
  refine body_of follows Try.func10 rfl rfl _ rfl (by kernel_rfl) (vs ?_)
  refine x_bx H [v0, .int .i64 x.f_Count, .int .i64 x.f_Known, v3_0, .int .i64 x.f_Post.f_Time, v3_2, .int .i64 x.f_Post.f_Sure, v4_0, .int .i64 x.f_Reader.f_Epoch, v4_2, v4_3, v5, v6] fun g w1 H => vs ?_
  refine x_ld H sc22 ?_
  refine vs ?_
  have H := H.front (c := Ck.own (Kd.slice 5 Kd.u8) f0 [v0] (x.f_Seed))
  refine x_call (markByteS_ok H (k) (by omega)) fun _ w2 ⟨e0, p0, H⟩ => ?_
  subst e0
  refine vs ?_
  refine x_ldp H [v3_0, .int .i64 x.f_Post.f_Time, v3_2, .int .i64 x.f_Post.f_Sure] st37 ?_
  refine vs ?_
  have H := H.front (c := Ck.own kPost f3 [v3_0, .int .i64 x.f_Post.f_Time, v3_2, .int .i64 x.f_Post.f_Sure] (x.f_Post))
  refine x_call (markPost_ok H (k + (x.f_Seed).length) (by omega)) fun _ w3 ⟨e3, p3, H⟩ => ?_
  subst e3
  refine vs ?_
  refine x_ldp H [v4_0, .int .i64 x.f_Reader.f_Epoch, v4_2, v4_3] st38 ?_
  refine vs ?_
  have H := H.front (c := Ck.own kReader f4 [v4_0, .int .i64 x.f_Reader.f_Epoch, v4_2, v4_3] (x.f_Reader))
  refine x_call (markReader_ok H (k + (x.f_Seed).length + totPost (x.f_Post)) (by omega)) fun _ w4 ⟨e4, p4, H⟩ => ?_
  subst e4
  refine vs ?_
  refine x_ld H sc39 ?_
  refine vs ?_
  have H := H.front (c := Ck.own (Kd.slice 85 kWire) f5 [v5] (x.f_Net))
  refine x_call (markWireS_ok H (k + (x.f_Seed).length + totPost (x.f_Post) + totReader (x.f_Reader)) (by omega)) fun _ w5 ⟨e5, p5, H⟩ => ?_
  subst e5
  refine vs ?_
  refine x_ld H sc40 ?_
  refine vs ?_
  have H := H.front (c := Ck.own (Kd.slice 87 kSent) q5 [v6] (x.f_Sent))
  refine x_call (markSentS_ok H (k + (x.f_Seed).length + totPost (x.f_Post) + totReader (x.f_Reader) + totWireS (x.f_Net)) (by omega)) fun _ w6 ⟨e6, p6, H⟩ => ?_
  subst e6
  refine vs ?_
  have H := H.front (c := Ck.own (Kd.slice 87 kSent) p6 [v6] (mkSentS (x.f_Sent) (k + (x.f_Seed).length + totPost (x.f_Post) + totReader (x.f_Reader) + totWireS (x.f_Net))))
  have H := H.front (c := Ck.own (Kd.slice 85 kWire) p5 [v5] (mkWireS (x.f_Net) (k + (x.f_Seed).length + totPost (x.f_Post) + totReader (x.f_Reader))))
  have H := H.pair
  have H := H.front (c := Ck.own kReader p4 [v4_0, .int .i64 x.f_Reader.f_Epoch, v4_2, v4_3] (mkReader (x.f_Reader) (k + (x.f_Seed).length + totPost (x.f_Post))))
  have H := H.pair
  have H := H.front (c := Ck.own kPost p3 [v3_0, .int .i64 x.f_Post.f_Time, v3_2, .int .i64 x.f_Post.f_Sure] (mkPost (x.f_Post) (k + (x.f_Seed).length)))
  have H := H.pair
  have H := H.front (c := Ck.own Kd.i64 f2 [.int .i64 x.f_Known] (x.f_Known))
  have H := H.pair
  have H := H.front (c := Ck.own Kd.i64 f1 [.int .i64 x.f_Count] (x.f_Count))
  have H := H.pair
  have H := H.front (c := Ck.own (Kd.slice 5 Kd.u8) p0 [v0] (mkB (x.f_Seed) (k)))
  have H := H.pair
  have H := Sep.iso (y := mkWorld x k) (f := fun c : MWorld => (c.f_Seed, c.f_Count, c.f_Known, c.f_Post, c.f_Reader, c.f_Net, c.f_Sent)) H
  exact ⟨i64_eq (by unfold totWorld; omega), _, H.drop2⟩
end Go.Proofs.Ytfhbglaigjekpaa.V
