/- Numbers as text: both sides. -/
import Derived.Test.YtcmckbgiiclomaaGreatDoorRows
import Derived.Test.YtcmckbgiiclomaaGreatDoorSa
import Derived.Shelf.Strconv.Itoa3
import Derived.Lib.QuietBelow
import Derived.Lib.AppendIntMem
import Derived.Test.YtcmckbgiiclomaaGreatDoorWa
import Derived.Test.YtcmckbgiiclomaaGreatDoorVu
namespace Go.Proofs.YtcmckbgiiclomaaGreatDoor.V
open Go Go.RowKit
set_option maxRecDepth 100000
set_option maxHeartbeats 400000
set_option linter.unusedSimpArgs false
set_option linter.unusedVariables false
set_option pp.deepTerms false
set_option pp.deepTerms.threshold 12

/-- The table of the library's that a number's text reads, by the name that the rows list. -/
def tabName : String := "internal/strconv.uint64pow10"
/-- The table is laid. -/
def Tab (w : World) : Prop := Lib.TabIs Tryz.prog w tabName .u64 Lib.pow10Tab
theorem Tab.below {w w' : World} (h : Tab w) (hb : Below w.heap.size w w') : Tab w' := Lib.tabBelow_of_tabIs h w' hb
theorem Tab.sep {n : Nat} {w0 w : World} {L : List Ck} (h : Tab w0) (H : Sep n w0 w L) (hn : w0.heap.size ≤ n) : Tab w := Lib.tabBelow_of_tabIs h w (H.bel.mono hn)

theorem itoa_ok (w : World) (n : Int) (hn : -9223372036854775808 ≤ n ∧ n < 9223372036854775808) (ht : Tab w) :
    ACalls Tryz.prog 50 #[.int .i64 n] w fun r w' => r = .string ⟨(Lib.itoa n).toArray⟩ ∧ Below w.heap.size w w' := by
  refine Calls.mono (Any.strconv_Itoa Tryz.laysItoa n hn.1 (by omega) w ht) fun e w' h => ?_
  obtain ⟨rfl, k, os, rfl⟩ := h
  exact ⟨_, rfl, rfl, below_regrown w _ os⟩
theorem implDigits_ok (w : World) (n : Int) (hn : -9223372036854775808 ≤ n ∧ n < 9223372036854775808) (ht : Tab w) :
    ACalls Tryz.prog 33 #[.int .i64 n] w fun r w' => r = .string ⟨(Lib.itoa n).toArray⟩ ∧ Below w.heap.size w w' := by
  have H := Sep.start w
  refine body_of follows Tryz.func33 rfl rfl _ rfl (by kernel_rfl) (vs ?_)
  refine x_callb H (itoa_ok w n hn ht) fun w1 H => vs ?_
  exact H.bel

/-! ### the statement's own digits -/
def ddig (u : Nat) : List UInt8 := if u = 0 then [] else Lib.decDigits u
theorem ddig_step {u : Nat} (h : u ≠ 0) : ddig u = ddig (u / 10) ++ [UInt8.ofNat (48 + u % 10)] := by
  unfold ddig
  rw [if_neg h]
  by_cases h1 : u < 10
  · rw [if_pos (by omega), Lib.decDigits, dif_pos h1, show u % 10 = u by omega]; rfl
  · rw [if_neg (by omega)]
    conv => lhs; rw [Lib.decDigits, dif_neg h1]
theorem ddig_pos {u : Nat} (h : u ≠ 0) : ddig u = Lib.decDigits u := by unfold ddig; rw [if_neg h]
theorem itoa_zero : Lib.itoa 0 = [48] := by
  unfold Lib.itoa
  rw [if_neg (by decide), show (0 : Int).toNat = 0 from rfl, Lib.decDigits, dif_pos (by decide)]; rfl
theorem itoa_neg {n : Int} (h : n < 0) : Lib.itoa n = 45 :: ddig n.natAbs := by
  unfold Lib.itoa
  rw [if_pos h, ddig_pos (by omega)]
theorem itoa_pos {n : Int} (h : 0 < n) : Lib.itoa n = ddig n.natAbs := by
  unfold Lib.itoa
  rw [if_neg (by omega), ddig_pos (by omega), show n.toNat = n.natAbs by omega]
theorem ddig_len : ∀ (k u : Nat), u < 10 ^ k → (ddig u).length ≤ k
  | 0, u, h => by
    obtain rfl : u = 0 := by simpa using h
    simp [ddig]
  | k + 1, u, h => by
    by_cases h0 : u = 0
    · subst h0; simp [ddig]
    · rw [ddig_step h0, List.length_append]
      have := ddig_len k (u / 10) (by rw [Nat.pow_succ] at h; omega)
      simp only [List.length_cons, List.length_nil]; omega
theorem digit_neg {m : Int} (h : m.tmod 10 < 0) : w64 (0 - m.tmod 10) = ((m.natAbs % 10 : Nat) : Int) := by
  have e := Int.natAbs_tmod m 10
  have : (m.tmod 10).natAbs < 10 := by rw [e]; simp; omega
  have e2 : (10 : Int).natAbs = 10 := rfl
  rw [e2] at e
  unfold w64; omega
theorem digit_pos {m : Int} (h : ¬ m.tmod 10 < 0) : m.tmod 10 = ((m.natAbs % 10 : Nat) : Int) := by
  have e := Int.natAbs_tmod m 10
  have e2 : (10 : Int).natAbs = 10 := rfl
  rw [e2] at e
  omega
theorem quo_abs (m : Int) : (m.tdiv 10).natAbs = m.natAbs / 10 := by
  have e := Int.natAbs_tdiv m 10
  have e2 : (10 : Int).natAbs = 10 := rfl
  rw [e2] at e
  exact e
theorem quo_range {m : Int} (h : -9223372036854775808 ≤ m ∧ m < 9223372036854775808) : -9223372036854775808 ≤ m.tdiv 10 ∧ m.tdiv 10 < 9223372036854775808 := by
  have := quo_abs m
  omega
theorem quo_ten {m : Int} (h : -9223372036854775808 ≤ m ∧ m < 9223372036854775808) : w64 (m.tdiv 10) = m.tdiv 10 := by
  have := quo_range h
  unfold w64; omega
theorem sign_u8 (k : Nat) (h : k < 10) : (48 + (k : Int)) % 256 = ((UInt8.ofNat (48 + k)).toNat : Int) := by
  rw [UInt8.toNat_ofNat']; omega

theorem sign_w (k : Nat) (h : k < 10) : w64 (48 + (k : Int)) % 256 = ((UInt8.ofNat (48 + k)).toNat : Int) := by
  rw [← sign_u8 k h]; unfold w64; omega
theorem specDigits_ok (w : World) (n : Int) (hn : -9223372036854775808 ≤ n ∧ n < 9223372036854775808) :
    ACalls Tryz.prog 36 #[.int .i64 n] w fun r w' => r = .string ⟨(Lib.itoa n).toArray⟩ ∧ Below w.heap.size w w' := by
  have H := Sep.start w
  refine body_of follows Tryz.func36 rfl rfl _ rfl (by kernel_rfl) (vs (ways ?_ ?_))
  · refine vh fun h0 => ?_
    subst h0
    rw [itoa_zero]
    exact ⟨rfl, H.bel⟩
  refine vh fun h0 => ?_
  refine loop_at (σ := Int × List UInt8) (fun x => [(0, .int .i64 x.1), (3, .bool (decide (n < 0))), (4, .string ⟨x.2.toArray⟩)])
    (fun x w' => (-9223372036854775808 ≤ x.1 ∧ x.1 < 9223372036854775808) ∧ ddig n.natAbs = ddig x.1.natAbs ++ x.2 ∧ Sep w.heap.size w w' []) (fun x => x.1.natAbs) (n, []) (vs trivial) ⟨hn, by simp, H⟩ ?_
  rintro ⟨m, out⟩ s w2 ⟨hm, hd, H⟩
  dsimp only at hm hd H
  have hol : out.length ≤ 40 := by
    have h1 := ddig_len 20 n.natAbs (by omega)
    rw [hd, List.length_append] at h1; omega
  refine vs (ways ?_ ?_)
  · refine vh fun hz => ?_
    subst hz
    have hd2 : ddig n.natAbs = out := by rw [hd]; simp [ddig]
    refine ways ?_ ?_
    · refine vh fun hs => ?_
      refine x_sadd (a := [45]) (by simp; omega) ?_
      refine vs ?_
      rw [itoa_neg hs, hd2]
      exact ⟨rfl, H.bel⟩
    · refine vh fun hs => ?_
      rw [itoa_pos (by omega), hd2]
      exact ⟨rfl, H.bel⟩
  · refine vh fun hz => ?_
    have hk : m.natAbs % 10 < 10 := Nat.mod_lt _ (by decide)
    have hm0 : m.natAbs ≠ 0 := by omega
    have hs1 := ddig_step hm0
    refine x_rem (b := 10) ?_
    refine vs (ways ?_ ?_)
    · refine vh fun hs => ?_
      refine ve (And.intro (digit_neg hs) (sign_w (m.natAbs % 10) hk)) ?_
      refine x_lst H pl_u8 sl22 [UInt8.ofNat (48 + m.natAbs % 10)] (by simp) fun g3 w3 H => vs ?_
      refine x_str Tryz.underlying22 Tryz.underlying5 Tryz.underlying9 (H.own (d := bytes 5) (fp := [g3]) (x := [UInt8.ofNat (48 + m.natAbs % 10)]) (.head _)) (vs ?_)
      refine x_sadd (by simp; omega) (vs ?_)
      refine x_quo (b := 10) (vs ?_)
      refine ⟨(m.tdiv 10, [UInt8.ofNat (48 + m.natAbs % 10)] ++ out), ⟨i64_eq (quo_ten hm), rfl⟩, ⟨quo_range hm, ?_, H.tail⟩, by dsimp only; rw [quo_abs]; omega⟩
      dsimp only
      rw [quo_abs, hd, hs1, List.append_assoc]
    · refine vh fun hs => ?_
      refine ve (And.intro (digit_pos hs) (sign_w (m.natAbs % 10) hk)) ?_
      refine x_lst H pl_u8 sl22 [UInt8.ofNat (48 + m.natAbs % 10)] (by simp) fun g3 w3 H => vs ?_
      refine x_str Tryz.underlying22 Tryz.underlying5 Tryz.underlying9 (H.own (d := bytes 5) (fp := [g3]) (x := [UInt8.ofNat (48 + m.natAbs % 10)]) (.head _)) (vs ?_)
      refine x_sadd (by simp; omega) (vs ?_)
      refine x_quo (b := 10) (vs ?_)
      refine ⟨(m.tdiv 10, [UInt8.ofNat (48 + m.natAbs % 10)] ++ out), ⟨i64_eq (quo_ten hm), rfl⟩, ⟨quo_range hm, ?_, H.tail⟩, by dsimp only; rw [quo_abs]; omega⟩
      dsimp only
      rw [quo_abs, hd, hs1, List.append_assoc]
end Go.Proofs.YtcmckbgiiclomaaGreatDoor.V
