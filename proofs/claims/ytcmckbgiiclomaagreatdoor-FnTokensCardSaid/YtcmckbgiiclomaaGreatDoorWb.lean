/- Bytes told in signs of six bits: both sides. -/
import Derived.Test.YtcmckbgiiclomaaGreatDoorWa
import Derived.Test.YtcmckbgiiclomaaGreatDoorPa
namespace Go.Proofs.YtcmckbgiiclomaaGreatDoor.V
open Go Go.RowKit
set_option maxRecDepth 100000
set_option maxHeartbeats 4000000
set_option linter.unusedSimpArgs false
set_option linter.unusedVariables false
set_option pp.deepTerms false
set_option pp.deepTerms.threshold 3

theorem l21Signs_ok (w : World) : ACalls Tryz.prog 47 #[] w fun r w' => r = .string ⟨signs64.toArray⟩ ∧ w' = w := by
  refine body_of follows Tryz.func47 rfl rfl _ rfl (by kernel_rfl) (vs ?_)
  rfl

theorem or_add {x b : Nat} (hb : b < 256) : x <<< 8 ||| b = x * 256 + b := by
  rw [← Nat.shiftLeft_add_eq_or_of_lt (i := 8) hb, Nat.shiftLeft_eq]
theorem and63 {x : Nat} : x &&& 63 = x % 64 := Nat.and_two_pow_sub_one_eq_mod x 6

theorem sign_def {i : Nat} : signs64.getD i 0 = sign i := rfl
theorem sx_held {x b : Nat} (hx : x < 16384) (hb : b < 256) : ior .i64 (ishl .i64 (iand .i64 (x : Int) 63) 8) (b : Int) = ((x % 64 * 256 + b : Nat) : Int) := by
  have h1 : iand .i64 (x : Int) 63 = ((x &&& 63 : Nat) : Int) := iand_nat (b := 63) (by omega)
  have h2 : x % 64 < 64 := Nat.mod_lt _ (by omega)
  rw [h1, and63, ishl_nat (by omega) (by omega), ior_nat (by rw [Nat.shiftLeft_eq]; omega) (by omega), or_add hb]
theorem sx_idx {x n : Nat} (hx : x < 16384) (hn : n ≤ 64) : iand .i64 (ishr .i64 (x : Int) n) 63 = ((x / 2 ^ n % 64 : Nat) : Int) := by
  rw [ishr_nat hn]
  have h1 : iand .i64 ((x >>> n : Nat) : Int) 63 = ((x >>> n &&& 63 : Nat) : Int) := iand_nat (b := 63) (by rw [Nat.shiftRight_eq_div_pow]; have := Nat.div_le_self x (2 ^ n); omega)
  rw [h1, and63, Nat.shiftRight_eq_div_pow]
theorem sx_end {x n : Nat} (hx : x < 16384) (hn : n ≤ 6) : iand .i64 (ishl .i64 (x : Int) n) 63 = ((x * 2 ^ n % 64 : Nat) : Int) := by
  have h2 : 2 ^ n ≤ 64 := Nat.pow_le_pow_right (by omega) hn (n := 2)
  have h3 : x * 2 ^ n ≤ 16384 * 64 := Nat.mul_le_mul (by omega) h2
  rw [ishl_nat (by omega) (by omega)]
  have h1 : iand .i64 ((x <<< n : Nat) : Int) 63 = ((x <<< n &&& 63 : Nat) : Int) := iand_nat (b := 63) (by rw [Nat.shiftLeft_eq]; omega)
  rw [h1, and63, Nat.shiftLeft_eq]

theorem specSixes_ok (w : World) (v : Value) (a : List UInt8) (h : (bytes 5).rd w w.heap.size [v] a) (hl : a.length ≤ 1099511627776) :
    ACalls Tryz.prog 29 #[v] w fun r w' => r = .string ⟨(sixes a).toArray⟩ ∧ Below w.heap.size w w' := by
  obtain ⟨A, c, rfl, hc1, hc2, ha⟩ := sl_open h
  have H := Sep.start w
  refine body_of follows Tryz.func29 rfl rfl _ rfl (by kernel_rfl) (vs ?_)
  refine x_callw (l21Signs_ok w) (vs ?_)
  refine x_emp H pl_u8 sl22 fun g w1 H => vs ?_
  refine loop_at (σ := Nat × Value × List Nat) (fun x => [(0, .slice A a.length c), (3, .string ⟨signs64.toArray⟩), (4, x.2.1), (5, .int .i64 ((sxAll (a.take x.1)).held : Int)), (6, .int .i64 ((sxAll (a.take x.1)).bits : Int)), (7, .int .i64 (x.1 : Int))])
    (fun x w' => x.1 ≤ a.length ∧ Sep w.heap.size w w' [Ck.own (bytes 5) x.2.2 [x.2.1] (sxAll (a.take x.1)).out]) (fun x => a.length - x.1) (0, _, _) (vs ?_) ⟨Nat.zero_le _, H⟩ ?_
  · exact ⟨rfl, rfl⟩
  rintro ⟨k, v', fp⟩ s w2 ⟨hk, H⟩
  refine vs (ways ?_ ?_)
  · refine vh fun hlt => ?_
    have hk2 : k < a.length := by omega
    refine x_el pl_u8 sl22 (ha.mono H.bel) (by omega) hlt fun ad hb hc _ => vs ?_
    refine x_load sc5 hc (vs ?_)
    have hb0 := sxAll_bits (a.take k)
    have hh0 := sxAll_held (a.take k)
    have hlk : (a.take k).length = k := by simp; omega
    rw [hlk] at hb0
    have hv := sxAll_succ hk2
    generalize sxAll (a.take k) = S at *
    refine loop_at (σ := Sx × Value × List Nat) (fun x => [(0, .slice A a.length c), (3, .string ⟨signs64.toArray⟩), (4, x.2.1), (5, .int .i64 (x.1.held : Int)), (6, .int .i64 (x.1.bits : Int)), (7, .int .i64 (k : Int))])
      (fun x w' => Sx.put 3 x.1 = sxAll (a.take (k + 1)) ∧ x.1.bits < 18 ∧ x.1.held < 16384 ∧ x.1.out.length * 6 + x.1.bits = 8 * (k + 1) ∧ Sep w.heap.size w w' [Ck.own (bytes 5) x.2.2 [x.2.1] x.1.out]) (fun x => x.1.bits) (S.take a[k], v', fp) (vs ?_) ?_ ?_
    · refine ⟨i64_eq (sx_held hh0 (UInt8.toNat_lt _)), i64_eq ?_⟩
      simp only [Sx.take]; unfold w64; omega
    · refine ⟨hv.symm, by simp only [Sx.take]; omega, ?_, by simp only [Sx.take]; omega, H⟩
      have := (a[k]).toNat_lt
      simp only [Sx.take]; omega
    rintro ⟨s2, v2, fp2⟩ s3 w3 ⟨hp, hb18, hh, hlen, H⟩
    dsimp only at hp hb18 hh hlen H
    refine vs (ways ?_ ?_)
    · refine vh fun hge => ?_
      have e : w64 ((s2.bits : Int) - 6) = ((s2.bits - 6 : Nat) : Int) := by unfold w64; omega
      refine ve e ?_
      rw [sx_idx hh (by omega)]
      have hi : s2.held / 2 ^ (s2.bits - 6) % 64 < 64 := Nat.mod_lt _ (by omega)
      have h64 : ((s2.held / 2 ^ (s2.bits - 6) % 64 : Nat) : Int) < (signs64.length : Int) := by rw [signs64_len]; omega
      refine x_sidx (l := signs64) Tryz.underlying9 (Int.natCast_nonneg _) h64 ?_
      refine vs ?_
      refine x_lst H pl_u8 sl22 [signs64.getD (s2.held / 2 ^ (s2.bits - 6) % 64) 0] (by simp) fun g3 w4 H => vs ?_
      refine x_app H pl_u8 sl22 (H.own (.head _)) ?_ ?_ fun fp5 v5 w5 H => vs ?_
      · simp only [List.length_cons, List.length_nil]; omega
      · simp only [List.length_cons, List.length_nil]; omega
      refine ⟨(s2.one, v5, fp5), ⟨rfl, rfl, rfl⟩, ⟨?_, ?_, hh, ?_, H.tail⟩, ?_⟩
      · show Sx.put 3 s2.one = _
        rw [← Sx.put_one (by omega) hb18]; exact hp
      · show s2.bits - 6 < 18
        omega
      · show (s2.out ++ [_]).length * 6 + (s2.bits - 6) = _
        simp only [List.length_append, List.length_cons, List.length_nil]; omega
      · show s2.bits - 6 < s2.bits
        omega
    · refine vh fun hlt6 => ?_
      rw [Sx.put_low (by omega)] at hp
      subst hp
      refine ⟨(k + 1, v2, fp2), ⟨rfl, rfl, rfl, i64_eq ?_⟩, ⟨hk2, H⟩, ?_⟩
      · show w64 ((k : Int) + 1) = ((k + 1 : Nat) : Int)
        unfold w64; omega
      · show a.length - (k + 1) < a.length - k
        omega
  · refine vh fun hge => ?_
    have hk2 : k = a.length := by dsimp only at hk; omega
    subst hk2
    dsimp only at H hk ⊢
    rw [List.take_length] at H ⊢
    have hb0 := sxAll_bits a
    have hh := sxAll_held a
    have hs : sixes a = (sxAll a).done := rfl
    rw [hs]
    generalize sxAll a = S at *
    refine ways ?_ ?_
    · refine vh fun hpos => ?_
      have e : w64 ((6 : Int) - S.bits) = ((6 - S.bits : Nat) : Int) := by unfold w64; omega
      refine ve e ?_
      rw [sx_end hh (by omega)]
      have hi : S.held * 2 ^ (6 - S.bits) % 64 < 64 := Nat.mod_lt _ (by omega)
      have h64 : ((S.held * 2 ^ (6 - S.bits) % 64 : Nat) : Int) < (signs64.length : Int) := by rw [signs64_len]; omega
      refine x_sidx (l := signs64) Tryz.underlying9 (Int.natCast_nonneg _) h64 (vs ?_)
      refine x_lst H pl_u8 sl22 [signs64.getD (S.held * 2 ^ (6 - S.bits) % 64) 0] (by simp) fun g3 w4 H => vs ?_
      refine x_app H pl_u8 sl22 (H.own (.head _)) ?_ ?_ fun fp5 v5 w5 H => vs ?_
      · simp only [List.length_cons, List.length_nil]; omega
      · simp only [List.length_cons, List.length_nil]; omega
      refine x_str Tryz.underlying22 Tryz.underlying5 Tryz.underlying9 (H.own (.tail _ (.head _))) (vs ?_)
      rw [Sx.done, if_pos (by omega)]
      exact ⟨rfl, H.bel⟩
    · refine vh fun hpos => ?_
      refine x_str Tryz.underlying22 Tryz.underlying5 Tryz.underlying9 (H.own (.head _)) (vs ?_)
      rw [Sx.done, if_neg (by omega)]
      exact ⟨rfl, H.bel⟩

theorem sxi_held {x b n : Nat} (hn : n < 6) (hb : b < 256) : x % 2 ^ n * 256 + b = (x % 64 * 256 + b) % 2 ^ (n + 8) := by
  have : n = 0 ∨ n = 1 ∨ n = 2 ∨ n = 3 ∨ n = 4 ∨ n = 5 := by omega
  rcases this with rfl | rfl | rfl | rfl | rfl | rfl <;> simp only [Nat.reduceAdd, Nat.reducePow] <;> omega
theorem sxi_idx {x n : Nat} (h6 : 6 ≤ n) : x % 2 ^ n / 2 ^ (n - 6) = x / 2 ^ (n - 6) % 64 := by
  have e : 2 ^ n = 2 ^ (n - 6) * 64 := by rw [show (64 : Nat) = 2 ^ 6 from rfl, ← Nat.pow_add]; congr 1; omega
  rw [e, Nat.mod_mul_right_div_self]
theorem sxi_mask {x n : Nat} : x % 2 ^ n % 2 ^ (n - 6) = x % 2 ^ (n - 6) := Nat.mod_mod_of_dvd _ (Nat.pow_dvd_pow 2 (by omega))
theorem sxi_end {x n : Nat} (h6 : n ≤ 6) : x % 2 ^ n * 2 ^ (6 - n) = x * 2 ^ (6 - n) % 64 := by
  rw [← Nat.mul_mod_mul_right, ← Nat.pow_add, show n + (6 - n) = 6 by omega]
theorem mask_int {x n : Nat} (hx : x < 9223372036854775808) (hn : n ≤ 62) : iand .i64 (x : Int) (w64 (ishl .i64 1 n - 1)) = ((x % 2 ^ n : Nat) : Int) := by
  have hp : 2 ^ n ≤ 2 ^ 62 := Nat.pow_le_pow_right (by omega) hn
  have h1 : ishl .i64 1 n = ((1 <<< n : Nat) : Int) := ishl_nat (a := 1) (by omega) (by omega)
  have h0 : 0 < 2 ^ n := Nat.pow_pos (by omega)
  have h2 : w64 (((1 <<< n : Nat) : Int) - 1) = ((2 ^ n - 1 : Nat) : Int) := by
    rw [Nat.one_shiftLeft]; unfold w64; omega
  rw [h1, h2, iand_nat hx, Nat.and_two_pow_sub_one_eq_mod]
theorem bits_le {n : Nat} (h : n < 18) : 2 ^ n ≤ 262144 := Nat.pow_le_pow_right (n := 2) (by omega) (show n ≤ 18 by omega)

theorem implSixes_ok (w : World) (v : Value) (a : List UInt8) (h : (bytes 5).rd w w.heap.size [v] a) (hl : a.length ≤ 1099511627776) :
    ACalls Tryz.prog 20 #[v] w fun r w' => r = .string ⟨(sixes a).toArray⟩ ∧ Below w.heap.size w w' := by
  obtain ⟨A, c, rfl, hc1, hc2, ha⟩ := sl_open h
  have H := Sep.start w
  refine body_of follows Tryz.func20 rfl rfl _ rfl (by kernel_rfl) (vs ?_)
  refine x_emp H pl_u8 sl22 fun g w1 H => vs ?_
  refine loop_at (σ := Nat × Value × List Nat) (fun x => [(3, x.2.1), (4, .int .i64 (((sxAll (a.take x.1)).held % 2 ^ (sxAll (a.take x.1)).bits : Nat) : Int)), (5, .int .i64 ((sxAll (a.take x.1)).bits : Int)), (9, .slice A a.length c), (10, .int .i64 (a.length : Int)), (11, .int .i64 (x.1 : Int))])
    (fun x w' => x.1 ≤ a.length ∧ Sep w.heap.size w w' [Ck.own (bytes 5) x.2.2 [x.2.1] (sxAll (a.take x.1)).out]) (fun x => a.length - x.1) (0, _, _) (vs ?_) ⟨Nat.zero_le _, H⟩ ?_
  · exact ⟨rfl, rfl⟩
  rintro ⟨k, v', fp⟩ s w2 ⟨hk, H⟩
  refine vs (ways ?_ ?_)
  · refine vh fun hlt => ?_
    have hk2 : k < a.length := by omega
    refine x_el pl_u8 sl22 (ha.mono H.bel) (by omega) hlt fun ad hb hc _ => vs ?_
    refine x_load sc5 hc (vs ?_)
    have hb0 := sxAll_bits (a.take k)
    have hh0 := sxAll_held (a.take k)
    have hlk : (a.take k).length = k := by simp; omega
    rw [hlk] at hb0
    have hv := sxAll_succ hk2
    generalize sxAll (a.take k) = S at *
    refine loop_at (σ := Sx × Value × List Nat) (fun x => [(3, x.2.1), (4, .int .i64 ((x.1.held % 2 ^ x.1.bits : Nat) : Int)), (5, .int .i64 (x.1.bits : Int)), (9, .slice A a.length c), (10, .int .i64 (a.length : Int)), (11, .int .i64 (k : Int))])
      (fun x w' => Sx.put 3 x.1 = sxAll (a.take (k + 1)) ∧ x.1.bits < 18 ∧ x.1.held < 16384 ∧ x.1.out.length * 6 + x.1.bits = 8 * (k + 1) ∧ Sep w.heap.size w w' [Ck.own (bytes 5) x.2.2 [x.2.1] x.1.out]) (fun x => x.1.bits) (S.take a[k], v', fp) (vs ?_) ?_ ?_
    · have hlt8 := (a[k]).toNat_lt
      have hp := Nat.mod_lt S.held (show 0 < 2 ^ S.bits from Nat.pow_pos (by omega))
      have hp2 : 2 ^ S.bits ≤ 64 := Nat.pow_le_pow_right (n := 2) (by omega) (show S.bits ≤ 6 by omega)
      refine ⟨i64_eq ?_, i64_eq ?_⟩
      · rw [ishl_nat (by omega) (by omega)]
        refine (ior_nat (b := (a[k]).toNat) (by rw [Nat.shiftLeft_eq]; omega) (by omega)).trans ?_
        rw [or_add hlt8, sxi_held hb0.1 hlt8]; rfl
      · simp only [Sx.take]; unfold w64; omega
    · refine ⟨hv.symm, by simp only [Sx.take]; omega, ?_, by simp only [Sx.take]; omega, H⟩
      have := (a[k]).toNat_lt
      simp only [Sx.take]; omega
    rintro ⟨s2, v2, fp2⟩ s3 w3 ⟨hp, hb18, hh, hlen, H⟩
    dsimp only at hp hb18 hh hlen H
    refine vs (ways ?_ ?_)
    · refine vh fun hge => ?_
      have e : w64 ((s2.bits : Int) - 6) = ((s2.bits - 6 : Nat) : Int) := by unfold w64; omega
      refine ve e ?_
      have hple := bits_le hb18
      have hml := Nat.mod_lt s2.held (show 0 < 2 ^ s2.bits from Nat.pow_pos (by omega))
      rw [ishr_nat (by omega), Nat.shiftRight_eq_div_pow, sxi_idx (by omega)]
      have hi : s2.held / 2 ^ (s2.bits - 6) % 64 < 64 := Nat.mod_lt _ (by omega)
      have h64 : ((s2.held / 2 ^ (s2.bits - 6) % 64 : Nat) : Int) < (signs64.length : Int) := by rw [signs64_len]; omega
      refine x_sidx (l := signs64) Tryz.underlying9 (Int.natCast_nonneg _) h64 (vs ?_)
      refine x_lst H pl_u8 sl22 [signs64.getD (s2.held / 2 ^ (s2.bits - 6) % 64) 0] (by simp) fun g3 w4 H => vs ?_
      refine x_app H pl_u8 sl22 (H.own (.head _)) ?_ ?_ fun fp5 v5 w5 H => vs ?_
      · simp only [List.length_cons, List.length_nil]; omega
      · simp only [List.length_cons, List.length_nil]; omega
      rw [mask_int (by omega) (by omega), sxi_mask]
      refine ⟨(s2.one, v5, fp5), ⟨rfl, rfl, rfl⟩, ⟨?_, ?_, hh, ?_, H.tail⟩, ?_⟩
      · show Sx.put 3 s2.one = _
        rw [← Sx.put_one (by omega) hb18]; exact hp
      · show s2.bits - 6 < 18
        omega
      · show (s2.out ++ [_]).length * 6 + (s2.bits - 6) = _
        simp only [List.length_append, List.length_cons, List.length_nil]; omega
      · show s2.bits - 6 < s2.bits
        omega
    · refine vh fun hlt6 => ?_
      rw [Sx.put_low (by omega)] at hp
      subst hp
      refine ⟨(k + 1, v2, fp2), ⟨rfl, rfl, rfl, i64_eq ?_⟩, ⟨hk2, H⟩, ?_⟩
      · show w64 ((k : Int) + 1) = ((k + 1 : Nat) : Int)
        unfold w64; omega
      · show a.length - (k + 1) < a.length - k
        omega
  · refine vh fun hge => ?_
    have hk2 : k = a.length := by dsimp only at hk; omega
    subst hk2
    dsimp only at H hk ⊢
    rw [List.take_length] at H ⊢
    have hb0 := sxAll_bits a
    have hh := sxAll_held a
    have hs : sixes a = (sxAll a).done := rfl
    rw [hs]
    generalize sxAll a = S at *
    refine ways ?_ ?_
    · refine vh fun hpos => ?_
      have e : w64 ((6 : Int) - S.bits) = ((6 - S.bits : Nat) : Int) := by unfold w64; omega
      refine ve e ?_
      have hi : S.held * 2 ^ (6 - S.bits) % 64 < 64 := Nat.mod_lt _ (by omega)
      have hse := sxi_end (x := S.held) (n := S.bits) (by omega)
      rw [ishl_nat (by omega) (by omega), Nat.shiftLeft_eq, hse]
      have h64 : ((S.held * 2 ^ (6 - S.bits) % 64 : Nat) : Int) < (signs64.length : Int) := by rw [signs64_len]; omega
      refine x_sidx (l := signs64) Tryz.underlying9 (Int.natCast_nonneg _) h64 (vs ?_)
      refine x_lst H pl_u8 sl22 [signs64.getD (S.held * 2 ^ (6 - S.bits) % 64) 0] (by simp) fun g3 w4 H => vs ?_
      refine x_app H pl_u8 sl22 (H.own (.head _)) ?_ ?_ fun fp5 v5 w5 H => vs ?_
      · simp only [List.length_cons, List.length_nil]; omega
      · simp only [List.length_cons, List.length_nil]; omega
      refine x_str Tryz.underlying22 Tryz.underlying5 Tryz.underlying9 (H.own (.tail _ (.head _))) (vs ?_)
      rw [Sx.done, if_pos (by omega)]
      exact ⟨rfl, H.bel⟩
    · refine vh fun hpos => ?_
      refine x_str Tryz.underlying22 Tryz.underlying5 Tryz.underlying9 (H.own (.head _)) (vs ?_)
      rw [Sx.done, if_neg (by omega)]
      exact ⟨rfl, H.bel⟩
end Go.Proofs.YtcmckbgiiclomaaGreatDoor.V
