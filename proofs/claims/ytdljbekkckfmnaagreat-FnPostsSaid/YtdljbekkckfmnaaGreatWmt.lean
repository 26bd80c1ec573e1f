/- What a text is marked with. -/
import Derived.Test.YtdljbekkckfmnaaGreatWa
import Derived.Test.YtdljbekkckfmnaaGreatVr
namespace Go.Proofs.YtdljbekkckfmnaaGreat.V
open Go Go.RowKit
set_option maxRecDepth 100000
set_option maxHeartbeats 4000000
set_option linter.unusedSimpArgs false
set_option linter.unusedVariables false
set_option pp.deepTerms false
set_option pp.deepTerms.threshold 3

def mdig (k : Nat) : List UInt8 := if h : k = 0 then [] else mdig (k / 10) ++ [UInt8.ofNat (48 + k % 10)]
theorem mdig_zero : mdig 0 = [] := by rw [mdig]; rfl
theorem mdig_step {k : Nat} (h : k ≠ 0) : mdig k = mdig (k / 10) ++ [UInt8.ofNat (48 + k % 10)] := by rw [mdig, dif_neg h]
theorem mdig_len : ∀ (n k : Nat), k < 10 ^ n → (mdig k).length ≤ n
  | 0, k, h => by
    obtain rfl : k = 0 := by simpa using h
    simp [mdig_zero]
  | n + 1, k, h => by
    by_cases h0 : k = 0
    · subst h0; simp [mdig_zero]
    · rw [mdig_step h0, List.length_append]
      have := mdig_len n (k / 10) (by rw [Nat.pow_succ] at h; omega)
      simp only [List.length_cons, List.length_nil]; omega
def mkText (k : Nat) : List UInt8 := if k = 0 then [109, 48] else [109] ++ mdig k
theorem mkText_len (k : Nat) (h : k ≤ 9223372036854775807) : (mkText k).length ≤ 9223372036854775807 := by
  unfold mkText
  split
  · simp
  · have := mdig_len 20 k (by omega)
    simp only [List.length_append, List.length_cons, List.length_nil]; omega
theorem mt_sign (m : Nat) : w64 (48 + ((m % 10 : Nat) : Int)) % 256 = ((UInt8.ofNat (48 + m % 10)).toNat : Int) := by
  rw [UInt8.toNat_ofNat']; unfold w64; omega
theorem markText_ok (w : World) (k : Nat) (hk : k ≤ 4611686018427387904) :
    ACalls Tryz.prog 144 #[.int .i64 (k : Int)] w fun r w' => r = .string ⟨(mkText k).toArray⟩ ∧ Below w.heap.size w w' := by
  have H := Sep.start w
  refine body_of follows Tryz.func144 rfl rfl _ rfl (by kernel_rfl) (vs (ways ?_ ?_))
  · refine vh fun h0 => ?_
    obtain rfl : k = 0 := by omega
    exact ⟨rfl, H.bel⟩
  refine vh fun h0 => ?_
  refine loop_at (σ := Nat × List UInt8) (fun x => [(0, .int .i64 (x.1 : Int)), (3, .string ⟨x.2.toArray⟩)])
    (fun x w' => x.1 ≤ k ∧ mdig k = mdig x.1 ++ x.2 ∧ Sep w.heap.size w w' []) (fun x => x.1) (k, []) (vs trivial) ⟨Nat.le_refl _, by simp, H⟩ ?_
  rintro ⟨m, out⟩ s w2 ⟨hm, hd, H⟩
  dsimp only at hm hd H
  have hol : out.length ≤ 40 := by
    have h1 := mdig_len 20 k (by omega)
    rw [hd, List.length_append] at h1; omega
  refine vs (ways ?_ ?_)
  · refine vh fun hz => ?_
    have hm0 : m ≠ 0 := by omega
    have em : (m : Int).tmod 10 = ((m % 10 : Nat) : Int) := by rw [Int.tmod_eq_emod_of_nonneg (Int.natCast_nonneg _)]; omega
    have eq : (m : Int).tdiv 10 = ((m / 10 : Nat) : Int) := by rw [Int.tdiv_eq_ediv_of_nonneg (Int.natCast_nonneg _)]; omega
    refine x_rem (b := 10) ?_
    refine ve (And.intro em (mt_sign m)) ?_
    refine x_lst H pl_u8 sl22 [UInt8.ofNat (48 + m % 10)] (by simp) fun g3 w3 H => vs ?_
    refine x_str Tryz.underlying22 Tryz.underlying5 Tryz.underlying9 (H.own (d := bytes 5) (fp := [g3]) (x := [UInt8.ofNat (48 + m % 10)]) (.head _)) (vs ?_)
    refine x_sadd (by simp; omega) (vs ?_)
    refine x_quo (b := 10) ?_
    refine vs ?_
    refine ⟨(m / 10, [UInt8.ofNat (48 + m % 10)] ++ out), ⟨i64_eq (by rw [eq]; unfold w64; omega), rfl⟩, ⟨by dsimp only; omega, ?_, H.tail⟩, by dsimp only; omega⟩
    dsimp only
    rw [hd, mdig_step hm0, List.append_assoc]
  · refine vh fun hz => ?_
    obtain rfl : m = 0 := by omega
    refine x_sadd (a := [109]) (by simp; omega) ?_
    refine vs ?_
    have : mkText k = [109] ++ out := by unfold mkText; rw [if_neg (by omega), hd, mdig_zero, List.nil_append]
    rw [this]
    exact ⟨rfl, H.bel⟩
end Go.Proofs.YtdljbekkckfmnaaGreat.V
