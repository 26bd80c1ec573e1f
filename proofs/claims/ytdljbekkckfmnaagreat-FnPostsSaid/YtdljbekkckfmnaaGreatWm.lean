/- Bytes marked and held, walked. -/
import Derived.Test.YtdljbekkckfmnaaGreatWa
import Derived.Test.YtdljbekkckfmnaaGreatVr
namespace Go.Proofs.YtdljbekkckfmnaaGreat.V
open Go Go.RowKit
set_option maxRecDepth 100000
set_option maxHeartbeats 4000000
set_option linter.unusedSimpArgs false
set_option linter.unusedVariables false
set_option pp.deepTerms false
set_option pp.deepTerms.threshold 3

theorem ofNat_toNat (m : Nat) : ((UInt8.ofNat m).toNat : Int) = (m : Int) % 256 := by
  rw [UInt8.toNat_ofNat']; omega

theorem markByteS_ok {n : Nat} {w0 w : World} {M : List Ck} {fp : List Nat} {v : Value} {l : List UInt8} (H : Sep n w0 w (Ck.own (bytes 5) fp [v] l :: M)) (k : Nat) (hk : k + l.length ≤ 4611686018427387904) :
    ACalls Tryz.prog 43 #[v, .int .i64 (k : Int)] w fun r w' => r = .int .i64 ((k + l.length : Nat) : Int) ∧ ∃ fp', Sep n w0 w' (Ck.own (bytes 5) fp' [v] (mkB l k) :: M) := by
  have hall : l.take 0 = [] := rfl
  obtain ⟨A, c, rfl, hA⟩ := own_val (show (bytes 5).ow w fp [v] l from H.ok _ (.head _))
  refine body_of follows Tryz.func43 rfl rfl _ rfl (by kernel_rfl) (vs ?_)
  refine loop_at (σ := Nat × List Nat) (fun x => [(0, .slice A l.length c), (1, .int .i64 ((k + x.1 : Nat) : Int)), (5, .int .i64 (x.1 : Int))])
    (fun x w' => x.1 ≤ l.length ∧ Sep n w0 w' (Ck.own (bytes 5) x.2 [.slice A l.length c] (mkB (l.take x.1) k ++ l.drop x.1) :: M)) (fun x => l.length - x.1) (0, fp) (vs ?_) ⟨Nat.zero_le _, H⟩ ?_
  · rfl
  rintro ⟨i, fp⟩ s w2 ⟨hi, H⟩
  dsimp only at hi H
  refine vs (ways ?_ ?_)
  · refine vh fun hlt => ?_
    have hi2 : i < l.length := by omega
    obtain ⟨g, rfl⟩ := hA (by omega)
    have e : ((k : Int) + (i : Int)) % 256 = ((UInt8.ofNat (k + i)).toNat : Int) := by rw [ofNat_toNat]; omega
    have e' : ((k + i : Nat) : Int) % 256 = ((UInt8.ofNat (k + i)).toNat : Int) := by rw [ofNat_toNat]
    refine x_index sl22 rfl (by omega) hlt (vs ?_)
    refine x_set (x := UInt8.ofNat (k + i)) H pl_u8 sc5 hi2 trivial fun w3 H => vs ?_
    rw [mkB_step l k i hi2] at H
    exact ⟨(i + 1, fp), ⟨i64_eq (by show w64 (((k + i : Nat) : Int) + 1) = ((k + (i + 1) : Nat) : Int); unfold w64; omega), i64_eq (by show w64 ((i : Int) + 1) = ((i + 1 : Nat) : Int); unfold w64; omega)⟩, ⟨hi2, H⟩, by show l.length - (i + 1) < l.length - i; omega⟩
  · refine vh fun hlt => ?_
    obtain rfl : i = l.length := by omega
    refine ⟨rfl, fp, ?_⟩
    rw [List.take_length, List.drop_length, List.append_nil] at H
    exact H

theorem heldByteS_ok (w : World) (v : Value) (l : List UInt8) (k : Nat) (h : (bytes 5).rd w w.heap.size [v] (mkB l k)) (hk : k + l.length ≤ 4611686018427387904) :
    ACalls Tryz.prog 44 #[v, .int .i64 (k : Int)] w fun r w' => r = .int .i64 ((k + l.length : Nat) : Int) ∧ w' = w := by
  obtain ⟨A, c, rfl, hc1, hc2, ha⟩ := sl_open h
  have hlen := mkB_len l k
  refine body_of follows Tryz.func44 rfl rfl _ rfl (by kernel_rfl) (vs ?_)
  refine loop_at (σ := Nat) (fun i => [(0, .slice A (mkB l k).length c), (1, .int .i64 ((k + i : Nat) : Int)), (5, .int .i64 (i : Int))])
    (fun i w' => i ≤ (mkB l k).length ∧ w' = w) (fun i => (mkB l k).length - i) 0 (vs ?_) ⟨Nat.zero_le _, rfl⟩ ?_
  · rfl
  rintro i s w2 ⟨hi, rfl⟩
  refine vs (ways ?_ ?_)
  · refine vh fun hlt => ?_
    have hi2 : i < (mkB l k).length := by omega
    refine x_el pl_u8 sl22 ha (by omega) hlt fun ad hb hc _ => vs ?_
    refine x_load sc5 hc ?_
    have e : ((k + i : Nat) : Int) % 256 = (((mkB l k)[i]).toNat : Int) := by rw [mkB_get, ofNat_toNat]
    refine ve e ?_
    exact ⟨i + 1, ⟨i64_eq (by unfold w64; omega), i64_eq (by unfold w64; omega)⟩, hi2, by omega⟩
  · refine vh fun hlt => ?_
    obtain rfl : i = (mkB l k).length := by omega
    exact i64_eq (by rw [hlen])
end Go.Proofs.YtdljbekkckfmnaaGreat.V
