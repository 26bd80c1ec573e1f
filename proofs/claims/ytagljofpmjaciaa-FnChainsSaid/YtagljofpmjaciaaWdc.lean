/- Draws of words and salts; what a longer key begins with. -/
import Derived.Test.YtagljofpmjaciaaWdb
import Derived.Test.YtagljofpmjaciaaWmc
namespace Go.Proofs.Ytagljofpmjaciaa.V
open Go Go.RowKit
set_option maxRecDepth 100000
set_option maxHeartbeats 4000000
set_option linter.unusedSimpArgs false
set_option linter.unusedVariables false
set_option pp.deepTerms false
set_option pp.deepTerms.threshold 3

theorem l1Once_ok {n : Nat} {w0 w : World} {L : List Ck} {g : Nat} {v : Value} {i h : Int} {a : List UInt8} (m : Int) (H : Sep n w0 w (curB g v i h :: L)) (hv : (bytes 5).rd w0 n [v] a) (hi : 0 ≤ i ∧ i ≤ a.length) :
    ACalls Try.prog 106 #[.pointer (some ⟨g, 0, none⟩), .int .i64 m] w fun r w' => ∃ (b : Bool) (i' h' : Int), r = .bool b ∧ (0 ≤ i' ∧ i' ≤ a.length) ∧ Sep n w0 w' (curB g v i' h' :: L) := by
  refine body_of follows Try.func106 rfl rfl _ rfl (by kernel_rfl) (vs ?_)
  refine x_call (l1Below_ok m H hv hi) fun _ w1 ⟨k, i1, h1, e, hk, hi1, H⟩ => ?_
  subst e
  refine vs ?_
  exact ⟨_, _, _, rfl, hi1, H⟩
theorem l22DrawText_ok {n : Nat} {w0 w : World} {L : List Ck} {g : Nat} {v : Value} {i h : Int} {a : List UInt8} (H : Sep n w0 w (curB g v i h :: L)) (hv : (bytes 5).rd w0 n [v] a) (hi : 0 ≤ i ∧ i ≤ a.length) :
    ACalls Try.prog 99 #[.pointer (some ⟨g, 0, none⟩)] w fun r w' => ∃ (b : List UInt8) (fp : List Nat) (i' h' : Int), b.length ≤ 402 ∧ (0 ≤ i' ∧ i' ≤ a.length) ∧ Sep n w0 w' (Ck.own (bytes 5) fp [r] b :: curB g v i' h' :: L) := by
  refine body_of follows Try.func99 rfl rfl _ rfl (by kernel_rfl) (vs ?_)
  refine x_call (l1Once_ok 30 H hv hi) fun _ w1 ⟨b, i1, h1, e, hi1, H⟩ => ?_
  subst e
  cases b with
  | true =>
    refine vs ?_
    refine x_call (l1Below_ok 3 H hv hi1) fun _ w2 ⟨k, i2, h2, e, hk, hi2, H⟩ => ?_
    subst e
    refine ve (show w64 (399 + (k : Int)) = ((399 + k : Nat) : Int) by rw [w64_id (by omega) (by omega)]; omega) ?_
    refine x_mk H pl_u8 (x := 0) sl22 trivial (by omega) (by omega) fun g3 w3 H => vs ?_
    exact ⟨_, _, _, _, by rw [List.length_replicate]; omega, hi2, H⟩
  | false =>
    refine vs ?_
    refine x_call (l1DrawBytes_ok 12 H hv hi1 (by omega)) fun r w2 ⟨b, fp, i2, h2, hb, hi2, H⟩ => vs ?_
    exact ⟨_, _, _, _, by omega, hi2, H⟩
theorem drawStretch_ok (w : World) (v : Value) (a : List UInt8) (hv : (bytes 5).rd w w.heap.size [v] a) :
    ACalls Try.prog 40 #[v] w fun r w' => ∃ (u1 u2 : Value) (b1 b2 : List UInt8) (f1 f2 : List Nat) (x y : Int), r = .tuple #[u1, u2, .int .i64 x, .int .i64 y] ∧ (b1.length ≤ 402 ∧ b2.length ≤ 402) ∧ (-9223372036854775808 ≤ x ∧ x < 9223372036854775808) ∧ (-9223372036854775808 ≤ y ∧ y < 9223372036854775808) ∧ Sep w.heap.size w w' [Ck.own (bytes 5) f2 [u2] b2, Ck.own (bytes 5) f1 [u1] b1] := by
  refine body_of follows Try.func40 rfl rfl _ rfl (by kernel_rfl) (vs ?_)
  refine x_call (l1New_ok w v a hv) fun _ w1 ⟨g, i, h, e, hi, H⟩ => ?_
  subst e
  refine vs ?_
  refine x_call (l22DrawText_ok H hv hi) fun r1 w2 ⟨b1, f1, i1, h1, hb1, hi1, H⟩ => vs ?_
  have H := H.front (c := curB g v i1 h1)
  refine x_call (l22DrawText_ok H hv hi1) fun r2 w3 ⟨b2, f2, i2, h2, hb2, hi2, H⟩ => vs ?_
  have H := H.front (c := curB g v i2 h2)
  refine x_lst H pl_i64 sl89 [1, 2, 3, 50, 51, 0, -1] (by simp) fun g4 w4 H => vs ?_
  refine x_call (l1PickInt_ok _ H hv hi2 (by simp)) fun _ w5 ⟨x, i3, h3, e, _, hx, hi3, H⟩ => ?_
  subst e
  refine vs ?_
  refine x_lst H pl_i64 sl89 [1, 32, 33, 44, 96, 97, 0, -1] (by simp) fun g6 w6 H => vs ?_
  refine x_call (l1PickInt_ok _ H hv hi3 (by simp)) fun _ w7 ⟨y, i4, h4, e, _, hy, hi4, H⟩ => ?_
  subst e
  refine vs ?_
  exact ⟨_, _, _, _, _, _, _, _, rfl, ⟨hb1, hb2⟩, hx, hy, H.tail⟩

/-! ### what a longer key begins with -/
theorem strO_head {k salt : List UInt8} {r : Nat} : ∀ n, ∃ t, strO k salt r (n + 1) = strO k salt r 1 ++ t
  | 0 => ⟨[], by simp⟩
  | n + 1 => by
    obtain ⟨t, h⟩ := strO_head (k := k) (salt := salt) (r := r) n
    exact ⟨t ++ strF k (salt ++ greatB ((n + 1 + 1 : Nat) : Int) 4) r, by rw [strO, h, List.append_assoc]⟩
theorem stretch_in {k salt : List UInt8} {r m : Int} (h : (1 ≤ r ∧ r ≤ 50) ∧ (1 ≤ m ∧ m ≤ 96) ∧ k.length ≤ 400 ∧ salt.length ≤ 400) : (stretch k salt r m).length = m ∧ stretch k salt r 1 = (stretch k salt r m).take 1 ∧ stretch k salt 1 32 = mac k (salt ++ [0, 0, 0, 1]) ∧ stretch k salt 2 32 = xorB (mac k (salt ++ [0, 0, 0, 1])) (mac k (mac k (salt ++ [0, 0, 0, 1]))) := by
  obtain ⟨h1, h2, h3, h4⟩ := h
  have eg : greatB 1 4 = [0, 0, 0, 1] := by decide +kernel
  have e1 : ∀ r, strO k salt r 1 = strF k (salt ++ [0, 0, 0, 1]) r := fun r => by
    show [] ++ strF k (salt ++ greatB ((0 + 1 : Nat) : Int) 4) r = _
    rw [List.nil_append]
    show strF k (salt ++ greatB 1 4) r = _
    rw [eg]
  refine ⟨?_, ?_, ?_, ?_⟩
  · unfold stretch
    rw [if_pos ⟨h1, h2, h3, h4⟩, List.length_take, strO_len h3 h4]
    omega
  · unfold stretch
    rw [if_pos ⟨h1, by omega, h3, h4⟩, if_pos ⟨h1, h2, h3, h4⟩, List.take_take, Nat.min_eq_left (by omega)]
    obtain ⟨n, hn⟩ : ∃ n, (m.toNat + 31) / 32 = n + 1 := ⟨(m.toNat + 31) / 32 - 1, by omega⟩
    obtain ⟨t, ht⟩ := strO_head (k := k) (salt := salt) (r := r.toNat - 1) n
    rw [hn, ht]
    show (strO k salt (r.toNat - 1) 1).take 1 = _
    rw [List.take_append_of_le_length (by rw [strO_len h3 h4]; omega)]
  · unfold stretch
    rw [if_pos ⟨by omega, by omega, h3, h4⟩]
    show (strO k salt 0 1).take 32 = _
    rw [List.take_of_length_le (by rw [strO_len h3 h4]; omega), e1]
    rfl
  · unfold stretch
    rw [if_pos ⟨by omega, by omega, h3, h4⟩]
    show (strO k salt 1 1).take 32 = _
    rw [List.take_of_length_le (by rw [strO_len h3 h4]; omega), e1]
    rfl
theorem stretch_out {k salt : List UInt8} {r m : Int} (h : ¬ ((1 ≤ r ∧ r ≤ 50) ∧ (1 ≤ m ∧ m ≤ 96) ∧ k.length ≤ 400 ∧ salt.length ≤ 400)) : stretch k salt r m = [] := by
  unfold stretch; rw [if_neg h]
end Go.Proofs.Ytagljofpmjaciaa.V
