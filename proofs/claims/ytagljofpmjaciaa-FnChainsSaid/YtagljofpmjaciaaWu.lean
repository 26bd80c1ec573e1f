/- Signs of six bits read as bytes: both sides. -/
import Derived.Test.YtagljofpmjaciaaWb
import Derived.Test.YtagljofpmjaciaaVr
import Derived.Test.YtagljofpmjaciaaPu
namespace Go.Proofs.Ytagljofpmjaciaa.V
open Go Go.RowKit
set_option maxRecDepth 100000
set_option maxHeartbeats 4000000
set_option linter.unusedSimpArgs false
set_option linter.unusedVariables false
set_option pp.deepTerms false
set_option pp.deepTerms.threshold 3

theorem indexByteSL_ok (w : World) (l : List UInt8) (c : UInt8) : ACalls Try.prog 115 #[.string ⟨l.toArray⟩, .int .u8 (c.toNat : Int)] w fun r w' => r = .int .i64 (Go.Lib.indexByte l c) ∧ w' = w := by
  refine body_of follows Try.func115 rfl rfl _ rfl (by kernel_rfl) (vs ?_)
  refine o_ext Try.func141 (by kernel_rfl) (by kernel_rfl) (by kernel_rfl) (e := Extern.BytealgIndexByte.indexByte) (by kernel_rfl) ?_
  refine vS_run (Go.Lib.run_indexByteString ⟨l.toArray⟩ (c.toNat : Int) w) (vs ?_)
  have e : (c.toNat : Int).toNat.toUInt8 = c := by simp
  exact congrArg (fun c => Value.int .i64 (Go.Lib.indexByte l c)) e
theorem indexByteS_ok (w : World) (l : List UInt8) (c : UInt8) : ACalls Try.prog 70 #[.string ⟨l.toArray⟩, .int .u8 (c.toNat : Int)] w fun r w' => r = .int .i64 (Go.Lib.indexByte l c) ∧ w' = w := by
  refine body_of follows Try.func70 rfl rfl _ rfl (by kernel_rfl) (vs ?_)
  refine x_callw (indexByteSL_ok w l c) (vs ?_)
  trivial

theorem l21Six_ok (w : World) (c : UInt8) : ACalls Try.prog 71 #[.int .u8 (c.toNat : Int)] w fun r w' => r = .int .i64 (six c) ∧ w' = w := by
  have hlt := c.toNat_lt
  rw [six_eq]
  refine body_of follows Try.func71 rfl rfl _ rfl (by kernel_rfl) ?_
  by_cases h1 : 65 ≤ c.toNat
  · by_cases h2 : c.toNat ≤ 90
    · have a1 : (65 : Int) ≤ c.toNat := by omega
      have a2 : (c.toNat : Int) ≤ 90 := by omega
      refine ve (And.intro a1 a2) ?_
      unfold sixR
      rw [if_pos ⟨h1, h2⟩]
      exact i64_eq (by unfold w64; omega)
    · have a1 : (65 : Int) ≤ c.toNat := by omega
      have a2 : ¬ (c.toNat : Int) ≤ 90 := by omega
      by_cases h3 : 97 ≤ c.toNat
      · by_cases h4 : c.toNat ≤ 122
        · have a3 : (97 : Int) ≤ c.toNat := by omega
          have a4 : (c.toNat : Int) ≤ 122 := by omega
          refine ve (And.intro a1 (And.intro a2 (And.intro a3 a4))) ?_
          unfold sixR
          rw [if_neg (by omega), if_pos (by omega)]
          exact i64_eq (by unfold w64; omega)
        · have a3 : (97 : Int) ≤ c.toNat := by omega
          have a4 : ¬ (c.toNat : Int) ≤ 122 := by omega
          have a5 : (48 : Int) ≤ c.toNat := by omega
          have a6 : ¬ (c.toNat : Int) ≤ 57 := by omega
          have a7 : ¬ (c.toNat : Int) = 45 := by omega
          have a8 : ¬ (c.toNat : Int) = 95 := by omega
          refine ve (And.intro a1 (And.intro a2 (And.intro a3 (And.intro a4 (And.intro a5 (And.intro a6 (And.intro a7 a8))))))) ?_
          unfold sixR
          rw [if_neg (by omega), if_neg (by omega), if_neg (by omega), if_neg (by omega), if_neg (by omega)]
      · have a3 : ¬ (97 : Int) ≤ c.toNat := by omega
        have a5 : (48 : Int) ≤ c.toNat := by omega
        have a6 : ¬ (c.toNat : Int) ≤ 57 := by omega
        have a7 : ¬ (c.toNat : Int) = 45 := by omega
        by_cases h5 : c.toNat = 95
        · have a8 : ((c.toNat : Int) = 95) = True := eq_true (by omega)
          refine ve (And.intro a1 (And.intro a2 (And.intro a3 (And.intro a5 (And.intro a6 (And.intro a7 a8)))))) ?_
          unfold sixR
          rw [if_neg (by omega), if_neg (by omega), if_neg (by omega), if_neg (by omega), if_pos (by omega)]
        · have a8 : ¬ (c.toNat : Int) = 95 := by omega
          refine ve (And.intro a1 (And.intro a2 (And.intro a3 (And.intro a5 (And.intro a6 (And.intro a7 a8)))))) ?_
          unfold sixR
          rw [if_neg (by omega), if_neg (by omega), if_neg (by omega), if_neg (by omega), if_neg (by omega)]
  · have a1 : ¬ (65 : Int) ≤ c.toNat := by omega
    have a3 : ¬ (97 : Int) ≤ c.toNat := by omega
    have a8 : ¬ (c.toNat : Int) = 95 := by omega
    by_cases h5 : 48 ≤ c.toNat
    · have a5 : (48 : Int) ≤ c.toNat := by omega
      have a7 : ¬ (c.toNat : Int) = 45 := by omega
      by_cases h6 : c.toNat ≤ 57
      · have a6 : (c.toNat : Int) ≤ 57 := by omega
        refine ve (And.intro a1 (And.intro a3 (And.intro a5 a6))) ?_
        unfold sixR
        rw [if_neg (by omega), if_neg (by omega), if_pos (by omega)]
        exact i64_eq (by unfold w64; omega)
      · have a6 : ¬ (c.toNat : Int) ≤ 57 := by omega
        refine ve (And.intro a1 (And.intro a3 (And.intro a5 (And.intro a6 (And.intro a7 a8))))) ?_
        unfold sixR
        rw [if_neg (by omega), if_neg (by omega), if_neg (by omega), if_neg (by omega), if_neg (by omega)]
    · have a5 : ¬ (48 : Int) ≤ c.toNat := by omega
      by_cases h7 : c.toNat = 45
      · have a7 : ((c.toNat : Int) = 45) = True := eq_true (by omega)
        refine ve (And.intro a1 (And.intro a3 (And.intro a5 a7))) ?_
        unfold sixR
        rw [if_neg (by omega), if_neg (by omega), if_neg (by omega), if_pos (by omega)]
      · have a7 : ¬ (c.toNat : Int) = 45 := by omega
        refine ve (And.intro a1 (And.intro a3 (And.intro a5 (And.intro a7 a8)))) ?_
        unfold sixR
        rw [if_neg (by omega), if_neg (by omega), if_neg (by omega), if_neg (by omega), if_neg (by omega)]

theorem or_add6 {x b : Nat} (hb : b < 64) : x <<< 6 ||| b = x * 64 + b := by
  rw [← Nat.shiftLeft_add_eq_or_of_lt (i := 6) hb, Nat.shiftLeft_eq]
theorem ux_held {x b : Nat} (hx : x < 4096) (hb : b < 64) : ior .i64 (ishl .i64 (iand .i64 (x : Int) 63) 6) (b : Int) = ((x % 64 * 64 + b : Nat) : Int) := by
  have h1 : iand .i64 (x : Int) 63 = ((x &&& 63 : Nat) : Int) := iand_nat (b := 63) (by omega)
  have h2 : x % 64 < 64 := Nat.mod_lt _ (by omega)
  rw [h1, and63, ishl_nat (by omega) (by omega), ior_nat (by rw [Nat.shiftLeft_eq]; omega) (by omega), or_add6 hb]
theorem ux_and {x n : Nat} (hx : x < 4096) (hn : n ≤ 64) : iand .i64 (ishr .i64 (x : Int) n) 255 = ((x / 2 ^ n % 256 : Nat) : Int) := by
  rw [ishr_nat hn]
  have h1 : iand .i64 ((x >>> n : Nat) : Int) 255 = ((x >>> n &&& 255 : Nat) : Int) := iand_nat (b := 255) (by rw [Nat.shiftRight_eq_div_pow]; have := Nat.div_le_self x (2 ^ n); omega)
  have h2 : x >>> n &&& 255 = x >>> n % 256 := Nat.and_two_pow_sub_one_eq_mod _ 8
  rw [h1, h2, Nat.shiftRight_eq_div_pow]
theorem u8_mod (m : Nat) : ((m % 256 : Nat) : Int) % 256 = ((UInt8.ofNat (m % 256)).toNat : Int) := by
  rw [UInt8.toNat_ofNat']; omega
theorem u8_mod' (m : Nat) : (m : Int) % 256 = ((UInt8.ofNat (m % 256)).toNat : Int) := by
  rw [UInt8.toNat_ofNat']; omega

theorem specUnsixes_ok (w : World) (l : List UInt8) (hl : l.length ≤ 1099511627776) :
    ACalls Try.prog 17 #[.string ⟨l.toArray⟩] w fun r w' => ∃ v fp, r = .tuple #[v, .bool (unOk l)] ∧ Sep w.heap.size w w' [Ck.own (bytes 5) fp [v] (unOut l)] := by
  have H := Sep.start w
  refine body_of follows Try.func17 rfl rfl _ rfl (by kernel_rfl) (vs ?_)
  refine x_emp H pl_u8 sl22 fun g w1 H => vs ?_
  refine loop_at (σ := Nat × Value × List Nat) (fun x => [(0, .string ⟨l.toArray⟩), (4, x.2.1), (5, .int .i64 ((uxAll (l.take x.1)).held : Int)), (6, .int .i64 ((uxAll (l.take x.1)).bits : Int)), (7, .int .i64 (x.1 : Int))])
    (fun x w' => x.1 ≤ l.length ∧ (∀ i (hi : i < l.length), i < x.1 → 0 ≤ six l[i]) ∧ Sep w.heap.size w w' [Ck.own (bytes 5) x.2.2 [x.2.1] (uxAll (l.take x.1)).out]) (fun x => l.length - x.1) (0, _, _) (vs ?_) ⟨Nat.zero_le _, fun i hi h => absurd h (Nat.not_lt_zero i), H⟩ ?_
  · exact ⟨rfl, rfl⟩
  rintro ⟨k, v', fp⟩ s w2 ⟨hk, hall, H⟩
  dsimp only at hk hall H
  refine vs (ways ?_ ?_)
  · refine vh fun hlt => ?_
    have hk2 : k < l.length := by omega
    refine x_sidx Try.underlying9 (by omega) hlt (vs ?_)
    have e : l.getD k 0 = l[k] := by rw [List.getD_eq_getElem?_getD, List.getElem?_eq_getElem hk2, Option.getD_some]
    refine x_callw (l21Six_ok w2 _) (ve e ?_)
    have hr := six_range l[k]
    by_cases h0 : six l[k] < 0
    · refine ve h0 ?_
      refine x_emp H pl_u8 sl22 fun g w3 H => vs ?_
      obtain ⟨b1, b2⟩ := unOk_bad hk2 h0
      rw [b1, b2]
      exact ⟨_, _, rfl, H.head⟩
    · refine ve h0 ?_
      obtain ⟨i1, i2, i3, i4⟩ := uxAll_inv (l.take k)
      have hv := uxAll_succ hk2
      have hlk : (l.take k).length = k := by simp; omega
      rw [hlk] at i4
      obtain ⟨x, hx⟩ : ∃ x : Nat, six l[k] = (x : Int) := ⟨(six l[k]).toNat, by omega⟩
      rw [hx] at hv hr ⊢
      rw [Int.toNat_natCast] at hv
      have hall' : ∀ i (hi : i < l.length), i < k + 1 → 0 ≤ six l[i] := fun i hi h => by
        by_cases h2 : i = k
        · subst h2; omega
        · exact hall i hi (by omega)
      generalize uxAll (l.take k) = S at *
      rw [ux_held i3 (by omega)]
      by_cases h2 : 2 ≤ S.bits
      · have e1 : w64 ((S.bits : Int) + 6) = ((S.bits + 6 : Nat) : Int) := by unfold w64; omega
        have e2 : (8 : Int) ≤ ((S.bits + 6 : Nat) : Int) := by omega
        have e3 : w64 (((S.bits + 6 : Nat) : Int) - 8) = ((S.bits - 2 : Nat) : Int) := by unfold w64; omega
        refine ve (And.intro e1 (And.intro e2 e3)) ?_
        rw [ux_and (by omega) (by omega), u8_mod]
        refine x_lst H pl_u8 sl22 [UInt8.ofNat ((S.held % 64 * 64 + x) / 2 ^ (S.bits - 2) % 256)] (by simp) fun g3 w4 H => vs ?_
        refine x_app H pl_u8 sl22 (H.own (.head _)) ?_ ?_ fun fp5 v5 w5 H => vs ?_
        · simp only [List.length_cons, List.length_nil]; omega
        · simp only [List.length_cons, List.length_nil]; omega
        have hst : S.step x = ⟨S.held % 64 * 64 + x, S.bits - 2, S.out ++ [UInt8.ofNat ((S.held % 64 * 64 + x) / 2 ^ (S.bits - 2) % 256)]⟩ := by unfold Ux.step; rw [if_pos h2]
        refine ⟨(k + 1, v5, fp5), ⟨rfl, ?_, ?_, i64_eq ?_⟩, ⟨hk2, hall', ?_⟩, ?_⟩
        · rw [hv, hst]
        · rw [hv, hst]
        · show w64 ((k : Int) + 1) = ((k + 1 : Nat) : Int)
          unfold w64; omega
        · show Sep _ _ _ [Ck.own _ fp5 [v5] (uxAll (l.take (k + 1))).out]
          rw [hv, hst]; exact H.tail
        · show l.length - (k + 1) < l.length - k
          omega
      · have e1 : w64 ((S.bits : Int) + 6) = ((S.bits + 6 : Nat) : Int) := by unfold w64; omega
        have e2 : ¬ (8 : Int) ≤ ((S.bits + 6 : Nat) : Int) := by omega
        refine ve (And.intro e1 e2) ?_
        have hst : S.step x = ⟨S.held % 64 * 64 + x, S.bits + 6, S.out⟩ := by unfold Ux.step; rw [if_neg h2]
        refine ⟨(k + 1, v', fp), ⟨rfl, ?_, ?_, i64_eq ?_⟩, ⟨hk2, hall', ?_⟩, ?_⟩
        · rw [hv, hst]
        · rw [hv, hst]
        · show w64 ((k : Int) + 1) = ((k + 1 : Nat) : Int)
          unfold w64; omega
        · show Sep _ _ _ [Ck.own _ fp [v'] (uxAll (l.take (k + 1))).out]
          rw [hv, hst]; exact H
        · show l.length - (k + 1) < l.length - k
          omega
  · refine vh fun hlt => ?_
    obtain rfl : k = l.length := by omega
    rw [List.take_length] at H ⊢
    have hlen := (uxAll_inv l).2.2.2
    refine x_callb H (specSixes_ok w2 _ _ (H.own (.head _)) (by omega)) fun w3 H => vs (ways ?_ ?_)
    · refine vh fun he => ?_
      obtain ⟨b1, b2⟩ := unOk_good (fun i hi => hall i hi hi) he
      rw [b1, b2]
      exact ⟨_, _, rfl, H.head⟩
    · refine vh fun hne => ?_
      obtain ⟨b1, b2⟩ := unOk_ne hne
      refine x_emp H pl_u8 sl22 fun g w4 H => vs ?_
      rw [b1, b2]
      exact ⟨_, _, rfl, H.head⟩

theorem implUnsixes_ok (w : World) (l : List UInt8) (hl : l.length ≤ 1099511627776) :
    ACalls Try.prog 16 #[.string ⟨l.toArray⟩] w fun r w' => ∃ v fp, r = .tuple #[v, .bool (unOk l)] ∧ Sep w.heap.size w w' [Ck.own (bytes 5) fp [v] (unOut l)] := by
  have H := Sep.start w
  refine body_of follows Try.func16 rfl rfl _ rfl (by kernel_rfl) (vs ?_)
  refine x_emp H pl_u8 sl22 fun g w1 H => vs ?_
  refine loop_at (σ := Nat × Value × List Nat) (fun x => [(0, .string ⟨l.toArray⟩), (4, x.2.1), (5, .int .i64 (((uxAll (l.take x.1)).held % 2 ^ (uxAll (l.take x.1)).bits : Nat) : Int)), (6, .int .i64 ((uxAll (l.take x.1)).bits : Int)), (11, .int .i64 (l.length : Int)), (12, .int .i64 (x.1 : Int))])
    (fun x w' => x.1 ≤ l.length ∧ (∀ i (hi : i < l.length), i < x.1 → 0 ≤ six l[i]) ∧ Sep w.heap.size w w' [Ck.own (bytes 5) x.2.2 [x.2.1] (uxAll (l.take x.1)).out]) (fun x => l.length - x.1) (0, _, _) (vs ?_) ⟨Nat.zero_le _, fun i hi h => absurd h (Nat.not_lt_zero i), H⟩ ?_
  · exact ⟨rfl, rfl⟩
  rintro ⟨k, v', fp⟩ s w2 ⟨hk, hall, H⟩
  dsimp only at hk hall H
  refine vs (ways ?_ ?_)
  · refine vh fun hlt => ?_
    have hk2 : k < l.length := by omega
    refine x_sidx Try.underlying9 (by omega) hlt (vs ?_)
    have e : l.getD k 0 = l[k] := by rw [List.getD_eq_getElem?_getD, List.getElem?_eq_getElem hk2, Option.getD_some]
    refine x_callw (indexByteS_ok w2 signs64 (l.getD k 0)) ?_
    have e' : Go.Lib.indexByte signs64 (l.getD k 0) = six l[k] := by rw [e]; rfl
    rw [e']
    have hr := six_range l[k]
    by_cases h0 : six l[k] < 0
    · refine ve h0 ?_
      obtain ⟨b1, b2⟩ := unOk_bad hk2 h0
      rw [b1, b2]
      exact ⟨_, _, rfl, (H.nothing (sl_zero w2)).head⟩
    · refine ve h0 ?_
      obtain ⟨i1, i2, i3, i4⟩ := uxAll_inv (l.take k)
      have hv := uxAll_succ hk2
      have hlk : (l.take k).length = k := by simp; omega
      rw [hlk] at i4
      obtain ⟨x, hx⟩ : ∃ x : Nat, six l[k] = (x : Int) := ⟨(six l[k]).toNat, by omega⟩
      rw [hx] at hv hr ⊢
      rw [Int.toNat_natCast] at hv
      have hall' : ∀ i (hi : i < l.length), i < k + 1 → 0 ≤ six l[i] := fun i hi h => by
        by_cases h2 : i = k
        · subst h2; omega
        · exact hall i hi (by omega)
      generalize uxAll (l.take k) = S at *
      have hp := Nat.mod_lt S.held (show 0 < 2 ^ S.bits from Nat.pow_pos (by omega))
      have hp2 : 2 ^ S.bits ≤ 64 := Nat.pow_le_pow_right (n := 2) (by omega) (show S.bits ≤ 6 by omega)
      rw [ishl_nat (by omega) (by omega), ior_nat (b := x) (by rw [Nat.shiftLeft_eq]; omega) (by omega), or_add6 (by omega)]
      by_cases h2 : 2 ≤ S.bits
      · obtain ⟨c1, c2⟩ := ux_cut (h := S.held) h2 i1 i2 (show x < 64 by omega)
        have e1 : w64 ((S.bits : Int) + 6) = ((S.bits + 6 : Nat) : Int) := by unfold w64; omega
        have e2 : (8 : Int) ≤ ((S.bits + 6 : Nat) : Int) := by omega
        have e3 : w64 (((S.bits + 6 : Nat) : Int) - 8) = ((S.bits - 2 : Nat) : Int) := by unfold w64; omega
        refine ve (And.intro e1 (And.intro e2 e3)) ?_
        rw [ishr_nat (by omega), Nat.shiftRight_eq_div_pow, u8_mod', c1]
        refine x_lst H pl_u8 sl22 [UInt8.ofNat ((S.held % 64 * 64 + x) / 2 ^ (S.bits - 2) % 256)] (by simp) fun g3 w4 H => vs ?_
        refine x_app H pl_u8 sl22 (H.own (.head _)) ?_ ?_ fun fp5 v5 w5 H => vs ?_
        · simp only [List.length_cons, List.length_nil]; omega
        · simp only [List.length_cons, List.length_nil]; omega
        have hst : S.step x = ⟨S.held % 64 * 64 + x, S.bits - 2, S.out ++ [UInt8.ofNat ((S.held % 64 * 64 + x) / 2 ^ (S.bits - 2) % 256)]⟩ := by unfold Ux.step; rw [if_pos h2]
        rw [mask_int (by omega) (by omega), c2]
        refine ⟨(k + 1, v5, fp5), ⟨rfl, ?_, ?_, i64_eq ?_⟩, ⟨hk2, hall', ?_⟩, ?_⟩
        · rw [hv, hst]
        · rw [hv, hst]
        · show w64 ((k : Int) + 1) = ((k + 1 : Nat) : Int)
          unfold w64; omega
        · show Sep _ _ _ [Ck.own _ fp5 [v5] (uxAll (l.take (k + 1))).out]
          rw [hv, hst]; exact H.tail
        · show l.length - (k + 1) < l.length - k
          omega
      · have e1 : w64 ((S.bits : Int) + 6) = ((S.bits + 6 : Nat) : Int) := by unfold w64; omega
        have e2 : ¬ (8 : Int) ≤ ((S.bits + 6 : Nat) : Int) := by omega
        refine ve (And.intro e1 e2) ?_
        have hst : S.step x = ⟨S.held % 64 * 64 + x, S.bits + 6, S.out⟩ := by unfold Ux.step; rw [if_neg h2]
        have c0 := ux_cut0 (h := S.held) h2 i1 (show x < 64 by omega)
        rw [c0]
        refine ⟨(k + 1, v', fp), ⟨rfl, ?_, ?_, i64_eq ?_⟩, ⟨hk2, hall', ?_⟩, ?_⟩
        · rw [hv, hst]
        · rw [hv, hst]
        · show w64 ((k : Int) + 1) = ((k + 1 : Nat) : Int)
          unfold w64; omega
        · show Sep _ _ _ [Ck.own _ fp [v'] (uxAll (l.take (k + 1))).out]
          rw [hv, hst]; exact H
        · show l.length - (k + 1) < l.length - k
          omega
  · refine vh fun hlt => ?_
    obtain rfl : k = l.length := by omega
    rw [List.take_length] at H ⊢
    have hlen := (uxAll_inv l).2.2.2
    refine x_callb H (implSixes_ok w2 _ _ (H.own (.head _)) (by omega)) fun w3 H => vs (ways ?_ ?_)
    · refine vh fun he => ?_
      obtain ⟨b1, b2⟩ := unOk_good (fun i hi => hall i hi hi) he
      rw [b1, b2]
      exact ⟨_, _, rfl, H.head⟩
    · refine vh fun hne => ?_
      obtain ⟨b1, b2⟩ := unOk_ne hne
      rw [b1, b2]
      exact ⟨_, _, rfl, (H.nothing (sl_zero w3)).head⟩
end Go.Proofs.Ytagljofpmjaciaa.V
