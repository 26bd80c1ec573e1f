/- What is marked in data of the program, and held, walked. Laid by a program. -/
import Derived.Test.YtlkplnioaiahhaaWt
import Derived.Test.YtlkplnioaiahhaaWm
import Derived.Test.YtlkplnioaiahhaaVt
namespace Go.Proofs.Ytlkplnioaiahhaa.V
open Go Go.RowKit
set_option maxRecDepth 100000
set_option maxHeartbeats 4000000
set_option linter.unusedSimpArgs false
set_option linter.unusedVariables false
set_option pp.deepTerms false
set_option pp.deepTerms.threshold 3

/-! ### lists of ByteS -/
def totByteSS (l : List (List UInt8)) : Nat := totL List.length l
def mkByteSS (l : List (List UInt8)) (k : Nat) : List (List UInt8) := mkL mkB List.length l k
theorem totByteSS_le {l : List (List UInt8)} (h : smByteSS l) : totByteSS l ≤ 1099511627776 := by
  refine Nat.le_trans (totL_le (B := 1048576) fun y hy => h.2 y hy) ?_
  have := h.1; omega
theorem markByteSS_ok {n : Nat} {w0 w : World} {M : List Ck} {fp : List Nat} {v : Value} {l : List (List UInt8)} (H : Sep n w0 w (Ck.own (Kd.slice 22 (Kd.slice 5 Kd.u8)) fp [v] l :: M)) (k : Nat) (hk : k + totByteSS l ≤ 4611686018427387904) :
    ACalls Try.prog 38 #[v, .int .i64 (k : Int)] w fun r w' => r = .int .i64 ((k + totByteSS l : Nat) : Int) ∧ ∃ fp', Sep n w0 w' (Ck.own (Kd.slice 22 (Kd.slice 5 Kd.u8)) fp' [v] (mkByteSS l k) :: M) := by
  unfold totByteSS mkByteSS at *
  obtain ⟨A, c, rfl, hA⟩ := own_val (show (Kd.slice 22 (Kd.slice 5 Kd.u8)).ow w fp [v] l from H.ok _ (.head _))
  have hlm := sl_len (H.own (.head _))
  refine body_of follows Try.func38 rfl rfl _ rfl (by kernel_rfl) (vs ?_)
  refine loop_at (σ := Nat × List Nat) (fun x => [(0, .slice A l.length c), (1, .int .i64 ((k + totL List.length (l.take x.1) : Nat) : Int)), (5, .int .i64 (x.1 : Int))])
    (fun x w' => x.1 ≤ l.length ∧ Sep n w0 w' (Ck.own (Kd.slice 22 (Kd.slice 5 Kd.u8)) x.2 [.slice A l.length c] (mkL mkB List.length (l.take x.1) k ++ l.drop x.1) :: M)) (fun x => l.length - x.1) (0, fp) (vs ?_) ⟨Nat.zero_le _, H⟩ ?_
  · rfl
  rintro ⟨i, fp⟩ s w2 ⟨hi, H⟩
  dsimp only at hi H
  refine vs (ways ?_ ?_)
  · refine vh fun hlt => ?_
    have hi2 : i < l.length := by omega
    obtain ⟨g, c2, pre, post, fpi, es, R, hv, hpre, H1, hes, close⟩ := H.openEl i (by simp [mkL_len]; omega)
    simp only [Value.slice.injEq] at hv
    obtain ⟨rfl, _, rfl⟩ := hv
    have H := H1
    rw [mk_at l k i hi2] at H
    have hb1 := totL_take_succ (tot := List.length) l i hi2
    have hb2 := totL_take_le (tot := List.length) l (i + 1)
    have hpre : pre.length = i := hpre.trans (Nat.mul_one i)
    obtain ⟨u, rfl⟩ := sl_one (H.own (.tail _ (.head _)))
    refine x_index sl24 rfl (by omega) hlt (vs ?_)
    refine x_ldE (j := 0) H sc22 ?_
    refine vs ?_
    have H := H.front (c := Ck.own (Kd.slice 5 Kd.u8) fpi [u] l[i])
    refine x_call (markByteS_ok H (k + totL List.length (l.take i)) (by omega)) fun _ w3 ⟨e, f2, H⟩ => ?_
    subst e
    refine vs ?_
    have H := H.front (c := Ck.box g (pre ++ [u] ++ post) 22) (.there .here)
    obtain ⟨f3, H⟩ := close H
    rw [mk_step l k i hi2] at H
    exact ⟨(i + 1, f3), ⟨i64_eq (by show ((_ : Nat) : Int) = ((k + totL List.length (l.take (i + 1)) : Nat) : Int); omega), i64_eq (by show w64 ((i : Int) + 1) = ((i + 1 : Nat) : Int); unfold w64; omega)⟩, ⟨hi2, H⟩, by show l.length - (i + 1) < l.length - i; omega⟩
  · refine vh fun hlt => ?_
    obtain rfl : i = l.length := by omega
    rw [List.take_length, List.drop_length, List.append_nil] at H
    rw [List.take_length]
    exact ⟨rfl, fp, H⟩
theorem heldByteSS_ok (w : World) (v : Value) (l : List (List UInt8)) (k : Nat) (h : (Kd.slice 22 (Kd.slice 5 Kd.u8)).rd w w.heap.size [v] (mkByteSS l k)) (hk : k + totByteSS l ≤ 4611686018427387904) :
    ACalls Try.prog 41 #[v, .int .i64 (k : Int)] w fun r w' => r = .int .i64 ((k + totByteSS l : Nat) : Int) ∧ Below w.heap.size w w' := by
  unfold totByteSS mkByteSS at *
  have hlm := sl_len h
  have hlen := mkL_len (mk := mkB) (tot := List.length) l k
  obtain ⟨A, c, rfl, hc1, hc2, ha⟩ := sl_open h
  refine body_of follows Try.func41 rfl rfl _ rfl (by kernel_rfl) (vs ?_)
  refine loop_at (σ := Nat) (fun i => [(0, .slice A (mkL mkB List.length l k).length c), (1, .int .i64 ((k + totL List.length (l.take i) : Nat) : Int)), (5, .int .i64 (i : Int))])
    (fun i w' => i ≤ l.length ∧ Sep w.heap.size w w' []) (fun i => l.length - i) 0 (vs ?_) ⟨Nat.zero_le _, Sep.start w⟩ ?_
  · rfl
  rintro i s w2 ⟨hi, H⟩
  refine vs (ways ?_ ?_)
  · refine vh fun hlt => ?_
    have hi2 : i < l.length := by omega
    have hi3 : i < (mkL mkB List.length l k).length := by omega
    have hb1 := totL_take_succ (tot := List.length) l i hi2
    have hb2 := totL_take_le (tot := List.length) l (i + 1)
    refine x_ele H sl24 rfl i hi3 ha rfl fun ad es hb hr hc => vs ?_
    obtain ⟨u, rfl⟩ := sl_one hr
    rw [mkL_get] at hr
    refine x_ld1 sc22 hc rfl (vs ?_)
    refine x_callw (heldByteS_ok w2 _ (l[i]) (k + totL List.length (l.take i)) (H.rd hr) (by omega)) ?_
    have nn : ¬ ((k + totL List.length (l.take i) + (l[i]).length : Nat) : Int) < 0 := by omega
    refine ve nn ?_
    exact ⟨i + 1, ⟨i64_eq (by omega), i64_eq (by unfold w64; omega)⟩, ⟨hi2, H⟩, by omega⟩
  · refine vh fun hlt => ?_
    obtain rfl : i = l.length := by omega
    rw [List.take_length]
    exact ⟨rfl, H.bel⟩
end Go.Proofs.Ytlkplnioaiahhaa.V
