/- Words of 32 bits, and what a hash comes to, in plain Lean. -/
import Derived.Test.YtcmckbgiiclomaaGreatDoorVw
namespace Go.Proofs.YtcmckbgiiclomaaGreatDoor.V
open Go Go.RowKit
set_option linter.unusedVariables false
set_option linter.unusedSimpArgs false

/-! ### bits -/
theorem ofInt_w64 (n : Int) : BitVec.ofInt 64 (w64 n) = BitVec.ofInt 64 n := by
  apply BitVec.eq_of_toNat_eq
  rw [BitVec.toNat_ofInt, BitVec.toNat_ofInt]
  congr 1
  unfold w64
  omega
theorem ofInt_nat (b : BitVec 64) : BitVec.ofInt 64 (b.toNat : Int) = b := by simp
theorem iand_def (a b : Int) : iand .i64 a b = w64 ((BitVec.ofInt 64 a &&& BitVec.ofInt 64 b).toNat : Int) := by unfold iand; rw [wrap_i64]; rfl
theorem ior_def (a b : Int) : ior .i64 a b = w64 ((BitVec.ofInt 64 a ||| BitVec.ofInt 64 b).toNat : Int) := by unfold ior; rw [wrap_i64]; rfl
theorem ixor_def (a b : Int) : ixor .i64 a b = w64 ((BitVec.ofInt 64 a ^^^ BitVec.ofInt 64 b).toNat : Int) := by unfold ixor; rw [wrap_i64]; rfl
theorem ofInt_iand (a b : Int) : BitVec.ofInt 64 (iand .i64 a b) = BitVec.ofInt 64 a &&& BitVec.ofInt 64 b := by rw [iand_def, ofInt_w64, ofInt_nat]
theorem ofInt_ior (a b : Int) : BitVec.ofInt 64 (ior .i64 a b) = BitVec.ofInt 64 a ||| BitVec.ofInt 64 b := by rw [ior_def, ofInt_w64, ofInt_nat]
theorem ofInt_ixor (a b : Int) : BitVec.ofInt 64 (ixor .i64 a b) = BitVec.ofInt 64 a ^^^ BitVec.ofInt 64 b := by rw [ixor_def, ofInt_w64, ofInt_nat]

@[irreducible] def word (n : Int) : Int := n % 4294967296
theorem word_range (n : Int) : 0 ≤ word n ∧ word n < 4294967296 := by unfold word; omega
theorem word_id {n : Int} (h : 0 ≤ n ∧ n < 4294967296) : word n = n := by unfold word; omega
theorem iand_mask (n : Int) (k : Nat) (hk : k ≤ 62) : iand .i64 n ((2 ^ k - 1 : Nat) : Int) = n % ((2 ^ k : Nat) : Int) := by
  have hp : 2 ^ k ≤ 2 ^ 62 := Nat.pow_le_pow_right (by omega) hk
  have h0 : 0 < 2 ^ k := Nat.pow_pos (by omega)
  have hd : 2 ^ k ∣ 2 ^ 64 := Nat.pow_dvd_pow 2 (by omega)
  have e1 : (BitVec.ofInt 64 n &&& BitVec.ofInt 64 ((2 ^ k - 1 : Nat) : Int)).toNat = (n % ((2 ^ k : Nat) : Int)).toNat := by
    rw [BitVec.toNat_and, BitVec.toNat_ofInt, BitVec.toNat_ofInt]
    have e2 : (((2 ^ k - 1 : Nat) : Int) % ((2 ^ 64 : Nat) : Int)).toNat = 2 ^ k - 1 := by omega
    rw [e2, Nat.and_two_pow_sub_one_eq_mod]
    have e3 : ((n % ((2 ^ 64 : Nat) : Int)).toNat % 2 ^ k : Nat) = (((n % ((2 ^ 64 : Nat) : Int)) % ((2 ^ k : Nat) : Int))).toNat := by
      have hx : 0 ≤ n % ((2 ^ 64 : Nat) : Int) := Int.emod_nonneg _ (by decide)
      obtain ⟨x, hx⟩ := Int.eq_ofNat_of_zero_le hx
      rw [hx, ← Int.natCast_emod, Int.toNat_natCast, Int.toNat_natCast]
    rw [e3, Int.emod_emod_of_dvd _ (Int.natCast_dvd_natCast.2 hd)]
  have h1 : 0 ≤ n % ((2 ^ k : Nat) : Int) := Int.emod_nonneg _ (by omega)
  have h2 : n % ((2 ^ k : Nat) : Int) < ((2 ^ k : Nat) : Int) := Int.emod_lt_of_pos _ (by omega)
  rw [iand_def, e1, Int.toNat_of_nonneg h1, w64_id (by omega) (by omega)]
theorem iand_word (n : Int) : iand .i64 n 4294967295 = word n := by
  have := iand_mask n 32 (by omega)
  unfold word
  exact this
theorem iand_31 (n : Int) : iand .i64 n 31 = ((n % 32).toNat : Int) := by
  have := iand_mask n 5 (by omega)
  have e : iand .i64 n 31 = n % 32 := this
  rw [e]; omega

theorem and_ones {e : Int} (h : 0 ≤ e ∧ e < 4294967296) : BitVec.ofInt 64 e &&& BitVec.ofInt 64 4294967295 = BitVec.ofInt 64 e := by
  have h1 := iand_word e
  rw [word_id h] at h1
  rw [← ofInt_iand, h1]
def ch (e f g : Int) : Int := ixor .i64 (iand .i64 e f) (iand .i64 (ixor .i64 4294967295 e) g)
def maj (a b c : Int) : Int := ixor .i64 (ixor .i64 (iand .i64 a b) (iand .i64 a c)) (iand .i64 b c)
theorem ch_bits (E F G M : BitVec 64) (h : E &&& M = E) : (E &&& F) ||| ((M ^^^ E) &&& G) = (E &&& F) ^^^ ((M ^^^ E) &&& G) := by
  apply BitVec.eq_of_getLsbD_eq
  intro i hi
  have hb : (E &&& M).getLsbD i = E.getLsbD i := by rw [h]
  simp only [BitVec.getLsbD_and, BitVec.getLsbD_or, BitVec.getLsbD_xor] at hb ⊢
  revert hb
  cases E.getLsbD i <;> cases M.getLsbD i <;> cases F.getLsbD i <;> cases G.getLsbD i <;> decide
theorem maj_bits (A B C : BitVec 64) : ((A &&& B) ||| (A &&& C)) ||| (B &&& C) = ((A &&& B) ^^^ (A &&& C)) ^^^ (B &&& C) := by
  apply BitVec.eq_of_getLsbD_eq
  intro i hi
  simp only [BitVec.getLsbD_and, BitVec.getLsbD_or, BitVec.getLsbD_xor]
  cases A.getLsbD i <;> cases B.getLsbD i <;> cases C.getLsbD i <;> decide
theorem ch_eq {e f g : Int} (h : 0 ≤ e ∧ e < 4294967296) : ior .i64 (iand .i64 e f) (iand .i64 (ixor .i64 4294967295 e) g) = ch e f g := by
  unfold ch
  rw [ior_def, ixor_def (iand .i64 e f), ofInt_iand, ofInt_iand, ofInt_ixor, ch_bits _ _ _ _ (and_ones h)]
theorem maj_eq {a b c : Int} : ior .i64 (ior .i64 (iand .i64 a b) (iand .i64 a c)) (iand .i64 b c) = maj a b c := by
  unfold maj
  rw [ior_def, ixor_def, ofInt_ior, ofInt_ixor, ofInt_iand, ofInt_iand, ofInt_iand, maj_bits]

/-! ### words turned, mixed -/
def turn (n k : Int) : Int := word (ior .i64 (ishl .i64 (word n) (k % 32).toNat) (ishr .i64 (word n) (32 - (k % 32).toNat)))
theorem turn_mod (n : Int) {k k' : Int} (h : k % 32 = k' % 32) : turn n k = turn n k' := by unfold turn; rw [h]
def mix (x : Int) (a b c : Nat) (s : Bool) : Int := ixor .i64 (ixor .i64 (turn x (32 - a)) (turn x (32 - b))) (if s = true then ishr .i64 (word x) c else turn x (32 - c))
/-- Four bytes, the first one first. -/
def w4 (a b c d : UInt8) : Int := ior .i64 (ior .i64 (ior .i64 (ishl .i64 (a.toNat : Int) 24) (ishl .i64 (b.toNat : Int) 16)) (ishl .i64 (c.toNat : Int) 8)) (d.toNat : Int)
theorem w4_range (a b c d : UInt8) : 0 ≤ w4 a b c d ∧ w4 a b c d < 4294967296 := by
  have ha := a.toNat_lt; have hb := b.toNat_lt; have hc := c.toNat_lt; have hd := d.toNat_lt
  unfold w4
  rw [ishl_nat (by omega) (by omega), ishl_nat (by omega) (by omega), ishl_nat (by omega) (by omega)]
  have e1 : a.toNat <<< 24 < 2 ^ 32 := by rw [Nat.shiftLeft_eq]; omega
  have e2 : b.toNat <<< 16 < 2 ^ 32 := by rw [Nat.shiftLeft_eq]; omega
  have e3 : c.toNat <<< 8 < 2 ^ 32 := by rw [Nat.shiftLeft_eq]; omega
  have o1 := Nat.or_lt_two_pow e1 e2
  have o2 := Nat.or_lt_two_pow o1 e3
  have o3 := Nat.or_lt_two_pow o2 (show d.toNat < 2 ^ 32 by omega)
  rw [ior_nat (by omega) (by omega), ior_nat (by omega) (by omega), ior_nat (by omega) (by omega)]
  omega
def wordsN (b : List UInt8) (k : Nat) : List Int := (List.range k).map fun i => w4 (b.getD (4 * i) 0) (b.getD (4 * i + 1) 0) (b.getD (4 * i + 2) 0) (b.getD (4 * i + 3) 0)
theorem wordsN_succ (b : List UInt8) (k : Nat) : wordsN b (k + 1) = wordsN b k ++ [w4 (b.getD (4 * k) 0) (b.getD (4 * k + 1) 0) (b.getD (4 * k + 2) 0) (b.getD (4 * k + 3) 0)] := by
  unfold wordsN; rw [List.range_succ, List.map_append]; rfl
def Words (l : List Int) : Prop := ∀ x ∈ l, 0 ≤ x ∧ x < 4294967296
theorem wordsN_words (b : List UInt8) (k : Nat) : Words (wordsN b k) := by
  intro x hx
  obtain ⟨i, _, rfl⟩ := List.mem_map.1 hx
  exact w4_range ..
theorem Words.app {l m : List Int} (h : Words l) (h' : Words m) : Words (l ++ m) := fun x hx => (List.mem_append.1 hx).elim (h x) (h' x)
theorem Words.one (n : Int) : Words [word n] := fun x hx => by simp only [List.mem_singleton] at hx; subst hx; exact word_range n
theorem Words.getD {l : List Int} (h : Words l) (i : Nat) : 0 ≤ l.getD i 0 ∧ l.getD i 0 < 4294967296 := by
  rw [List.getD_eq_getElem?_getD]
  cases hx : l[i]? with
  | none => simp
  | some x => simp only [Option.getD_some]; exact h x (List.mem_of_getElem? hx)
/-- One more word of a block. -/
def more (w : List Int) : Int := word (w64 (w64 (w64 (mix (w.getD (w.length - 2) 0) 17 19 10 true + w.getD (w.length - 7) 0) + mix (w.getD (w.length - 15) 0) 7 18 3 true) + w.getD (w.length - 16) 0))
def sched (b : List UInt8) : Nat → List Int
  | 0 => wordsN b 16
  | n + 1 => sched b n ++ [more (sched b n)]
theorem sched_len (b : List UInt8) : ∀ n, (sched b n).length = 16 + n
  | 0 => by simp [sched, wordsN]
  | n + 1 => by simp [sched, sched_len b n]; omega
theorem sched_words (b : List UInt8) : ∀ n, Words (sched b n)
  | 0 => wordsN_words b 16
  | n + 1 => (sched_words b n).app (Words.one _)

def table64 : List Int := [0x428a2f98, 0x71374491, 0xb5c0fbcf, 0xe9b5dba5, 0x3956c25b, 0x59f111f1, 0x923f82a4, 0xab1c5ed5, 0xd807aa98, 0x12835b01, 0x243185be, 0x550c7dc3, 0x72be5d74, 0x80deb1fe, 0x9bdc06a7, 0xc19bf174, 0xe49b69c1, 0xefbe4786, 0x0fc19dc6, 0x240ca1cc, 0x2de92c6f, 0x4a7484aa, 0x5cb0a9dc, 0x76f988da, 0x983e5152, 0xa831c66d, 0xb00327c8, 0xbf597fc7, 0xc6e00bf3, 0xd5a79147, 0x06ca6351, 0x14292967, 0x27b70a85, 0x2e1b2138, 0x4d2c6dfc, 0x53380d13, 0x650a7354, 0x766a0abb, 0x81c2c92e, 0x92722c85, 0xa2bfe8a1, 0xa81a664b, 0xc24b8b70, 0xc76c51a3, 0xd192e819, 0xd6990624, 0xf40e3585, 0x106aa070, 0x19a4c116, 0x1e376c08, 0x2748774c, 0x34b0bcb5, 0x391c0cb3, 0x4ed8aa4a, 0x5b9cca4f, 0x682e6ff3, 0x748f82ee, 0x78a5636f, 0x84c87814, 0x8cc70208, 0x90befffa, 0xa4506ceb, 0xbef9a3f7, 0xc67178f2]
def start8 : List Int := [0x6a09e667, 0xbb67ae85, 0x3c6ef372, 0xa54ff53a, 0x510e527f, 0x9b05688c, 0x1f83d9ab, 0x5be0cd19]
theorem table64_len : table64.length = 64 := rfl
theorem table64_words : Words table64 := by unfold Words table64; decide
theorem start8_words : Words start8 := by unfold Words start8; decide

structure S8 where
  a : Int
  b : Int
  c : Int
  d : Int
  e : Int
  f : Int
  g : Int
  h : Int
def S8.list (s : S8) : List Int := [s.a, s.b, s.c, s.d, s.e, s.f, s.g, s.h]
def S8.of (l : List Int) : S8 := ⟨word (l.getD 0 0), word (l.getD 1 0), word (l.getD 2 0), word (l.getD 3 0), word (l.getD 4 0), word (l.getD 5 0), word (l.getD 6 0), word (l.getD 7 0)⟩
def S8.one (s : S8) (k w : Int) : Int := w64 (w64 (w64 (w64 (s.h + mix s.e 6 11 25 false) + ch s.e s.f s.g) + k) + w)
def S8.two (s : S8) : Int := w64 (mix s.a 2 13 22 false + maj s.a s.b s.c)
def S8.round (s : S8) (k w : Int) : S8 := ⟨word (w64 (s.one k w + s.two)), s.a, s.b, s.c, word (w64 (s.d + s.one k w)), s.e, s.f, s.g⟩
def S8.run (s : S8) (l : List Int) : Nat → S8
  | 0 => s
  | t + 1 => (S8.run s l t).round (table64.getD t 0) (l.getD t 0)
theorem S8.of_words (l : List Int) : Words (S8.of l).list := by
  intro x hx
  simp only [S8.list, S8.of, List.mem_cons, List.not_mem_nil, or_false] at hx
  rcases hx with rfl | rfl | rfl | rfl | rfl | rfl | rfl | rfl <;> exact word_range _
theorem S8.round_words {s : S8} (h : Words s.list) (k w : Int) : Words (s.round k w).list := by
  intro x hx
  simp only [S8.list, S8.round, List.mem_cons, List.not_mem_nil, or_false] at hx
  rcases hx with rfl | rfl | rfl | rfl | rfl | rfl | rfl | rfl
  · exact word_range _
  · exact h _ (by simp [S8.list])
  · exact h _ (by simp [S8.list])
  · exact h _ (by simp [S8.list])
  · exact word_range _
  · exact h _ (by simp [S8.list])
  · exact h _ (by simp [S8.list])
  · exact h _ (by simp [S8.list])
theorem S8.run_words {s : S8} (h : Words s.list) (l : List Int) : ∀ t, Words (s.run l t).list
  | 0 => h
  | t + 1 => S8.round_words (S8.run_words h l t) _ _
/-- A block taken in. -/
def hashBlock (st : List Int) (b : List UInt8) : List Int := (List.range 8).map fun i => word (w64 ((((S8.of st).run (sched b 48) 64).list).getD i 0 + word (st.getD i 0)))
theorem hashBlock_words (st : List Int) (b : List UInt8) : Words (hashBlock st b) := by
  intro x hx
  obtain ⟨i, _, rfl⟩ := List.mem_map.1 hx
  exact word_range _
theorem hashBlock_len (st : List Int) (b : List UInt8) : (hashBlock st b).length = 8 := by simp [hashBlock]
def zerosFor (n : Nat) : Nat := (119 - n % 64) % 64
end Go.Proofs.YtcmckbgiiclomaaGreatDoor.V
