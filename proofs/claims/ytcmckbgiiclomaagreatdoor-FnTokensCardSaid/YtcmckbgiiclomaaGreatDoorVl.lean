/- Numbers by their bits, strings, conversions: rules for a walk. -/
import Derived.Test.YtcmckbgiiclomaaGreatDoorVk
import Derived.Laws.BytesString
import Derived.Laws.Strings
import Derived.Laws.Concat
import Derived.Laws.Small
import Derived.Laws.BytesArg
namespace Go.Proofs.YtcmckbgiiclomaaGreatDoor.V
open Go Go.RowKit
set_option linter.unusedVariables false

@[irreducible] def iand (k : IntKind) (a b : Int) : Int := k.wrap (BitVec.ofInt k.bits a &&& BitVec.ofInt k.bits b).toNat
@[irreducible] def ior (k : IntKind) (a b : Int) : Int := k.wrap (BitVec.ofInt k.bits a ||| BitVec.ofInt k.bits b).toNat
@[irreducible] def ixor (k : IntKind) (a b : Int) : Int := k.wrap (BitVec.ofInt k.bits a ^^^ BitVec.ofInt k.bits b).toNat
@[irreducible] def ishl (k : IntKind) (a : Int) (n : Nat) : Int := k.wrap (a * 2 ^ min n k.bits)
@[irreducible] def ishr (k : IntKind) (a : Int) (n : Nat) : Int := a.fdiv (2 ^ min n k.bits)

theorem toNat_nat64 (a : Nat) : (BitVec.ofInt 64 (a : Int)).toNat = a % 18446744073709551616 := by
  rw [BitVec.ofInt_natCast, BitVec.toNat_ofNat]
theorem wrap_nat64 {a : Nat} (h : a < 9223372036854775808) : IntKind.i64.wrap (a : Int) = a := by rw [wrap_i64]; exact w64_id (by omega) (by omega)
theorem and_lt {a b n : Nat} (h : a < n) : a &&& b < n := Nat.lt_of_le_of_lt Nat.and_le_left h
theorem iand_nat {a b : Nat} (ha : a < 9223372036854775808) : iand .i64 (a : Int) (b : Int) = ((a &&& b : Nat) : Int) := by
  have e : (BitVec.ofInt IntKind.i64.bits (a : Int) &&& BitVec.ofInt IntKind.i64.bits (b : Int)).toNat = a &&& b := by
    show (BitVec.ofInt 64 (a : Int) &&& BitVec.ofInt 64 (b : Int)).toNat = _
    rw [BitVec.toNat_and, toNat_nat64, toNat_nat64, Nat.mod_eq_of_lt (by omega)]
    have h2 : ∀ x : Nat, x % 18446744073709551616 = x % 2 ^ 64 := fun _ => rfl
    rw [h2, ← Nat.and_two_pow_sub_one_eq_mod b 64, Nat.and_comm b, ← Nat.and_assoc, Nat.and_two_pow_sub_one_eq_mod a 64, Nat.mod_eq_of_lt (by omega)]
  unfold iand
  rw [e]
  exact wrap_nat64 (and_lt ha)
theorem or_lt63 {a b : Nat} (ha : a < 9223372036854775808) (hb : b < 9223372036854775808) : a ||| b < 9223372036854775808 := Nat.or_lt_two_pow (n := 63) ha hb
theorem xor_lt63 {a b : Nat} (ha : a < 9223372036854775808) (hb : b < 9223372036854775808) : a ^^^ b < 9223372036854775808 := Nat.xor_lt_two_pow (n := 63) ha hb
theorem ior_nat {a b : Nat} (ha : a < 9223372036854775808) (hb : b < 9223372036854775808) : ior .i64 (a : Int) (b : Int) = ((a ||| b : Nat) : Int) := by
  have e : (BitVec.ofInt IntKind.i64.bits (a : Int) ||| BitVec.ofInt IntKind.i64.bits (b : Int)).toNat = a ||| b := by
    show (BitVec.ofInt 64 (a : Int) ||| BitVec.ofInt 64 (b : Int)).toNat = _
    rw [BitVec.toNat_or, toNat_nat64, toNat_nat64, Nat.mod_eq_of_lt (by omega), Nat.mod_eq_of_lt (by omega)]
  unfold ior
  rw [e]
  exact wrap_nat64 (or_lt63 ha hb)
theorem ixor_nat {a b : Nat} (ha : a < 9223372036854775808) (hb : b < 9223372036854775808) : ixor .i64 (a : Int) (b : Int) = ((a ^^^ b : Nat) : Int) := by
  have e : (BitVec.ofInt IntKind.i64.bits (a : Int) ^^^ BitVec.ofInt IntKind.i64.bits (b : Int)).toNat = a ^^^ b := by
    show (BitVec.ofInt 64 (a : Int) ^^^ BitVec.ofInt 64 (b : Int)).toNat = _
    rw [BitVec.toNat_xor, toNat_nat64, toNat_nat64, Nat.mod_eq_of_lt (by omega), Nat.mod_eq_of_lt (by omega)]
  unfold ixor
  rw [e]
  exact wrap_nat64 (xor_lt63 ha hb)
theorem ishl_nat {a n : Nat} (h : a * 2 ^ n < 9223372036854775808) (hn : n ≤ 64) : ishl .i64 (a : Int) n = ((a <<< n : Nat) : Int) := by
  unfold ishl
  rw [show min n IntKind.i64.bits = n from Nat.min_eq_left hn, Nat.shiftLeft_eq, show (a : Int) * 2 ^ n = ((a * 2 ^ n : Nat) : Int) by simp]
  exact wrap_nat64 h
theorem ishr_nat {a n : Nat} (hn : n ≤ 64) : ishr .i64 (a : Int) n = ((a >>> n : Nat) : Int) := by
  unfold ishr
  rw [show min n IntKind.i64.bits = n from Nat.min_eq_left hn, Nat.shiftRight_eq_div_pow, show ((2 : Int) ^ n) = ((2 ^ n : Nat) : Int) by simp]
  rw [Int.fdiv_eq_ediv_of_nonneg _ (Int.natCast_nonneg _)]; simp
/-- The same for bytes. -/
theorem toNat_nat8 (a : Nat) : (BitVec.ofInt 8 (a : Int)).toNat = a % 256 := by
  rw [BitVec.ofInt_natCast, BitVec.toNat_ofNat]
theorem wrap_nat8 {a : Nat} (h : a < 256) : IntKind.u8.wrap (a : Int) = a := by rw [wrap_u8]; omega
theorem iand_u8 {a b : UInt8} : iand .u8 (a.toNat : Int) (b.toNat : Int) = ((a &&& b).toNat : Int) := by
  have e : (BitVec.ofInt IntKind.u8.bits (a.toNat : Int) &&& BitVec.ofInt IntKind.u8.bits (b.toNat : Int)).toNat = (a &&& b).toNat := by
    show (BitVec.ofInt 8 (a.toNat : Int) &&& BitVec.ofInt 8 (b.toNat : Int)).toNat = _
    rw [BitVec.toNat_and, toNat_nat8, toNat_nat8, Nat.mod_eq_of_lt a.toNat_lt, Nat.mod_eq_of_lt b.toNat_lt, UInt8.toNat_and]
  unfold iand
  rw [e]
  exact wrap_nat8 (UInt8.toNat_lt _)
theorem ixor_u8 {a b : UInt8} : ixor .u8 (a.toNat : Int) (b.toNat : Int) = ((a ^^^ b).toNat : Int) := by
  have e : (BitVec.ofInt IntKind.u8.bits (a.toNat : Int) ^^^ BitVec.ofInt IntKind.u8.bits (b.toNat : Int)).toNat = (a ^^^ b).toNat := by
    show (BitVec.ofInt 8 (a.toNat : Int) ^^^ BitVec.ofInt 8 (b.toNat : Int)).toNat = _
    rw [BitVec.toNat_xor, toNat_nat8, toNat_nat8, Nat.mod_eq_of_lt a.toNat_lt, Nat.mod_eq_of_lt b.toNat_lt, UInt8.toNat_xor]
  unfold ixor
  rw [e]
  exact wrap_nat8 (UInt8.toNat_lt _)
theorem ior_u8 {a b : UInt8} : ior .u8 (a.toNat : Int) (b.toNat : Int) = ((a ||| b).toNat : Int) := by
  have e : (BitVec.ofInt IntKind.u8.bits (a.toNat : Int) ||| BitVec.ofInt IntKind.u8.bits (b.toNat : Int)).toNat = (a ||| b).toNat := by
    show (BitVec.ofInt 8 (a.toNat : Int) ||| BitVec.ofInt 8 (b.toNat : Int)).toNat = _
    rw [BitVec.toNat_or, toNat_nat8, toNat_nat8, Nat.mod_eq_of_lt a.toNat_lt, Nat.mod_eq_of_lt b.toNat_lt, UInt8.toNat_or]
  unfold ior
  rw [e]
  exact wrap_nat8 (UInt8.toNat_lt _)

theorem w64_u8 {b : UInt8} : w64 (b.toNat : Int) = (b.toNat : Int) := by have := b.toNat_lt; unfold w64; omega

/-! ### operations -/
theorem run_bits {P : Program} {w : World} {t : TypeId} {x y : Operand} {k : IntKind} {a b : Int} :
    (do eqGuard .and t x y (.int k a) (.int k b); binOp .and t (.int k a) (.int k b) : Sem Value).run P w = .ok (.int k (iand k a b)) w ∧
    (do eqGuard .or t x y (.int k a) (.int k b); binOp .or t (.int k a) (.int k b) : Sem Value).run P w = .ok (.int k (ior k a b)) w ∧
    (do eqGuard .xor t x y (.int k a) (.int k b); binOp .xor t (.int k a) (.int k b) : Sem Value).run P w = .ok (.int k (ixor k a b)) w := by
  refine ⟨?_, ?_, ?_⟩ <;> simp [eqGuard, binOp, Op.intBits, iand, ior, ixor]
theorem run_shift {P : Program} {w : World} {t : TypeId} {x y : Operand} {k k' : IntKind} {a : Int} {n : Nat} :
    (do eqGuard .shl t x y (.int k a) (.int k' (n : Int)); binOp .shl t (.int k a) (.int k' (n : Int)) : Sem Value).run P w = .ok (.int k (ishl k a n)) w ∧
    (do eqGuard .shr t x y (.int k a) (.int k' (n : Int)); binOp .shr t (.int k a) (.int k' (n : Int)) : Sem Value).run P w = .ok (.int k (ishr k a n)) w := by
  have h : ¬ ((n : Int) < 0) := by omega
  refine ⟨?_, ?_⟩ <;> simp [eqGuard, binOp, Op.shift, ishl, ishr, h]
theorem run_div {P : Program} {w : World} {t : TypeId} {x y : Operand} {k : IntKind} {a b : Int} (h : b ≠ 0) :
    (do eqGuard .quo t x y (.int k a) (.int k b); binOp .quo t (.int k a) (.int k b) : Sem Value).run P w = .ok (.int k (k.wrap (a.tdiv b))) w ∧
    (do eqGuard .rem t x y (.int k a) (.int k b); binOp .rem t (.int k a) (.int k b) : Sem Value).run P w = .ok (.int k (a.tmod b)) w := by
  refine ⟨?_, ?_⟩ <;> simp [eqGuard, binOp, Op.intDiv, h]
theorem beq_dec {α : Type} [DecidableEq α] [BEq α] [LawfulBEq α] (a b : α) : (a == b) = decide (a = b) := by by_cases h : a = b <;> simp [h]
theorem run_strs {P : Program} {w : World} {t : TypeId} {x y : Operand} {a b : List UInt8} :
    (do eqGuard .eql t x y (.string ⟨a.toArray⟩) (.string ⟨b.toArray⟩); binOp .eql t (.string ⟨a.toArray⟩) (.string ⟨b.toArray⟩) : Sem Value).run P w = .ok (.bool (decide (a = b))) w ∧
    (do eqGuard .neq t x y (.string ⟨a.toArray⟩) (.string ⟨b.toArray⟩); binOp .neq t (.string ⟨a.toArray⟩) (.string ⟨b.toArray⟩) : Sem Value).run P w = .ok (.bool (decide (¬ a = b))) w := by
  refine ⟨?_, ?_⟩ <;> simp [eqGuard, binOp, Op.stringOp, beq_dec]
theorem run_sadd {P : Program} {w : World} {t : TypeId} {x y : Operand} {a b : List UInt8} (h : a.length + b.length ≤ 9223372036854775807) :
    (do eqGuard .add t x y (.string ⟨a.toArray⟩) (.string ⟨b.toArray⟩); binOp .add t (.string ⟨a.toArray⟩) (.string ⟨b.toArray⟩) : Sem Value).run P w = .ok (.string ⟨(a ++ b).toArray⟩) w := by
  have h1 := run_string_add_sum (P := P) (w := w) ⟨a.toArray⟩ ⟨b.toArray⟩ (by rw [str_size, str_size]; exact h)
  have h2 : (⟨a.toArray⟩ ++ ⟨b.toArray⟩ : ByteArray) = ⟨(a ++ b).toArray⟩ := by
    rw [ByteArray.mk_append_mk]
  rw [h2] at h1
  simp only [eqGuard, binOp, Sem.run_bind]
  exact h1
theorem run_bools {P : Program} {w : World} {t : TypeId} {x y : Operand} {a b : Bool} (h : P.underlying t = some .bool) :
    (do eqGuard .eql t x y (.bool a) (.bool b); binOp .eql t (.bool a) (.bool b) : Sem Value).run P w = .ok (.bool (decide (a = b))) w ∧
    (do eqGuard .neq t x y (.bool a) (.bool b); binOp .neq t (.bool a) (.bool b) : Sem Value).run P w = .ok (.bool (decide (¬ a = b))) w := by
  refine ⟨?_, ?_⟩
  · simp [eqGuard, run_eql_bool w t a b h, beq_dec]
  · simp [eqGuard, run_neq_bool w t a b h, beq_dec]
theorem run_cvint {P : Program} {w : World} {s t : TypeId} {k k' : IntKind} {a : Int} {td : TypeDesc} (hs : P.underlying s = some td) (ht : P.underlying t = some (.int k')) : (convert s t (.int k a)).run P w = .ok (.int k' (k'.wrap a)) w := by
  simp [convert, run_underlying' hs, run_underlying' ht, Conv.intToInt]

section
variable {P : Program} {w : World} {K : Value → World → Prop} {tg : Tg K} {t : TypeId} {x y : Operand} {k k' : IntKind} {a b : Int} {n : Nat}
theorem b_and : Bin P K tg .and t x y (.int k a) (.int k b) w = K (.int k (iand k a b)) w := by unfold Bin vS; rw [run_bits.1]
theorem b_or : Bin P K tg .or t x y (.int k a) (.int k b) w = K (.int k (ior k a b)) w := by unfold Bin vS; rw [run_bits.2.1]
theorem b_xor : Bin P K tg .xor t x y (.int k a) (.int k b) w = K (.int k (ixor k a b)) w := by unfold Bin vS; rw [run_bits.2.2]
theorem b_shl : Bin P K tg .shl t x y (.int k a) (.int k' (n : Int)) w = K (.int k (ishl k a n)) w := by unfold Bin vS; rw [run_shift.1]
theorem b_shr : Bin P K tg .shr t x y (.int k a) (.int k' (n : Int)) w = K (.int k (ishr k a n)) w := by unfold Bin vS; rw [run_shift.2]
theorem b_shl_lit : Bin P K tg .shl t x y (.int k a) (.int k' (no_index (@OfNat.ofNat Int n instOfNat))) w = K (.int k (ishl k a n)) w := b_shl
theorem b_shr_lit : Bin P K tg .shr t x y (.int k a) (.int k' (no_index (@OfNat.ofNat Int n instOfNat))) w = K (.int k (ishr k a n)) w := b_shr
theorem x_quo (h : K (.int k (k.wrap (a.tdiv b))) w) (hb : b ≠ 0 := by decide) : Bin P K tg .quo t x y (.int k a) (.int k b) w := by unfold Bin; exact vS_run (run_div hb).1 h
theorem x_rem (h : K (.int k (a.tmod b)) w) (hb : b ≠ 0 := by decide) : Bin P K tg .rem t x y (.int k a) (.int k b) w := by unfold Bin; exact vS_run (run_div hb).2 h
theorem b_seql {a b : List UInt8} : Bin P K tg .eql t x y (.string ⟨a.toArray⟩) (.string ⟨b.toArray⟩) w = K (.bool (decide (a = b))) w := by unfold Bin vS; rw [run_strs.1]
theorem b_sneq {a b : List UInt8} : Bin P K tg .neq t x y (.string ⟨a.toArray⟩) (.string ⟨b.toArray⟩) w = K (.bool (decide (¬ a = b))) w := by unfold Bin vS; rw [run_strs.2]
theorem x_sadd {a b : List UInt8} (hl : a.length + b.length ≤ 9223372036854775807) (h : K (.string ⟨(a ++ b).toArray⟩) w) : Bin P K tg .add t x y (.string ⟨a.toArray⟩) (.string ⟨b.toArray⟩) w := by unfold Bin; exact vS_run (run_sadd hl) h
theorem b_beql {a b : Bool} (h : P.underlying t = some .bool) : Bin P K tg .eql t x y (.bool a) (.bool b) w = K (.bool (decide (a = b))) w := by unfold Bin vS; rw [(run_bools h).1]
theorem b_bneq {a b : Bool} (h : P.underlying t = some .bool) : Bin P K tg .neq t x y (.bool a) (.bool b) w = K (.bool (decide (¬ a = b))) w := by unfold Bin vS; rw [(run_bools h).2]
theorem cv_int {s t : TypeId} {td : TypeDesc} (hs : P.underlying s = some td) (ht : P.underlying t = some (.int k')) : VS P K tg (convert s t (.int k a)) w = K (.int k' (k'.wrap a)) w := by unfold VS vS; rw [run_cvint hs ht]
theorem cv_str {s t : TypeId} {l : ByteArray} (hs : P.underlying s = some .string) (ht : P.underlying t = some .string) : VS P K tg (convert s t (.string l)) w = K (.string l) w := by
  unfold VS vS; simp [convert, run_underlying' hs, run_underlying' ht]
/-- Bytes made a string. -/
theorem run_str {P : Program} {w : World} {s t e : TypeId} {m : Nat} {v : Value} {l : List UInt8} (hs : P.underlying s = some (.slice e)) (he : P.underlying e = some (.int .u8)) (ht : P.underlying t = some .string) (h : (bytes e).rd w m [v] l) : (convert s t v).run P w = .ok (.string ⟨l.toArray⟩) w := by
  obtain ⟨A, c, rfl, h1, h2, h3⟩ := sl_open h
  obtain ⟨_, h3⟩ := pl_u8.slRd.1 h3
  cases A with
  | none =>
    cases l with
    | nil =>
      rw [run_convert_bytes_string w s t e none _ c hs he ht]
      simp [Conv.bytesToString, ByteArray.empty, ByteArray.emptyWithCapacity]
      rfl
    | cons b l => have := (h3 0 (by simp)).1; cases this
  | some ad => exact run_convert_bytes_back w s t e ad c l hs he ht fun j hj => (h3 j hj).2.2
theorem x_str {s t e : TypeId} {m : Nat} {v : Value} {l : List UInt8} (hs : P.underlying s = some (.slice e)) (he : P.underlying e = some (.int .u8)) (ht : P.underlying t = some .string) (hr : (bytes e).rd w m [v] l) (h : K (.string ⟨l.toArray⟩) w) : VS P K tg (convert s t v) w := vS_run (run_str hs he ht hr) h
/-- A string's byte. -/
theorem run_sidx {P : Program} {w : World} {t : TypeId} {k : IntKind} {i : Int} {l : List UInt8} (ht : P.underlying t = some .string) (h0 : 0 ≤ i) (h1 : i < (l.length : Int)) : (Instr.index t (.string ⟨l.toArray⟩) (.int k i)).run P w = .ok (.int .u8 ((l.getD i.toNat 0).toNat : Int)) w := by
  rw [List.getD_eq_getElem?_getD, List.getElem?_eq_getElem (show i.toNat < l.length by omega), Option.getD_some]
  rw [run_index_string w t _ k i ht, dif_pos ⟨h0, by rw [str_size]; exact h1⟩]
  congr 3
theorem x_sidx {t : TypeId} {k : IntKind} {i : Int} {l : List UInt8} (ht : P.underlying t = some .string) (h0 : 0 ≤ i) (h1 : i < (l.length : Int)) (h : K (.int .u8 ((l.getD i.toNat 0).toNat : Int)) w) : VS P K tg (Instr.index t (.string ⟨l.toArray⟩) (.int k i)) w := vS_run (run_sidx ht h0 h1) h
end

section
variable {P : Program} {m : Nat} {G : List (Nat × Nat)} {w0 : World} {K : Value → Prop} {tg : Tg (m, G, w0, K)} {t : TypeId} {x y : Operand} {k k' : IntKind} {a b : Int} {n : Nat}
theorem qb_and : QBin P m G w0 K tg .and t x y (.int k a) (.int k b) = K (.int k (iand k a b)) := QS_eq fun w => run_bits.1
theorem qb_or : QBin P m G w0 K tg .or t x y (.int k a) (.int k b) = K (.int k (ior k a b)) := QS_eq fun w => run_bits.2.1
theorem qb_xor : QBin P m G w0 K tg .xor t x y (.int k a) (.int k b) = K (.int k (ixor k a b)) := QS_eq fun w => run_bits.2.2
theorem qb_shl : QBin P m G w0 K tg .shl t x y (.int k a) (.int k' (n : Int)) = K (.int k (ishl k a n)) := QS_eq fun w => run_shift.1
theorem qb_shr : QBin P m G w0 K tg .shr t x y (.int k a) (.int k' (n : Int)) = K (.int k (ishr k a n)) := QS_eq fun w => run_shift.2
theorem qb_shl_lit : QBin P m G w0 K tg .shl t x y (.int k a) (.int k' (no_index (@OfNat.ofNat Int n instOfNat))) = K (.int k (ishl k a n)) := qb_shl
theorem qb_shr_lit : QBin P m G w0 K tg .shr t x y (.int k a) (.int k' (no_index (@OfNat.ofNat Int n instOfNat))) = K (.int k (ishr k a n)) := qb_shr
theorem qx_quo (h : K (.int k (k.wrap (a.tdiv b)))) (hb : b ≠ 0 := by decide) : QBin P m G w0 K tg .quo t x y (.int k a) (.int k b) := QS_of (fun w _ => (run_div hb).1) h
theorem qx_rem (h : K (.int k (a.tmod b))) (hb : b ≠ 0 := by decide) : QBin P m G w0 K tg .rem t x y (.int k a) (.int k b) := QS_of (fun w _ => (run_div hb).2) h
theorem qb_seql {a b : List UInt8} : QBin P m G w0 K tg .eql t x y (.string ⟨a.toArray⟩) (.string ⟨b.toArray⟩) = K (.bool (decide (a = b))) := QS_eq fun w => run_strs.1
theorem qb_sneq {a b : List UInt8} : QBin P m G w0 K tg .neq t x y (.string ⟨a.toArray⟩) (.string ⟨b.toArray⟩) = K (.bool (decide (¬ a = b))) := QS_eq fun w => run_strs.2
theorem qx_sadd {a b : List UInt8} (hl : a.length + b.length ≤ 9223372036854775807) (h : K (.string ⟨(a ++ b).toArray⟩)) : QBin P m G w0 K tg .add t x y (.string ⟨a.toArray⟩) (.string ⟨b.toArray⟩) := QS_of (fun w _ => run_sadd hl) h
theorem qb_beql {a b : Bool} (h : P.underlying t = some .bool) : QBin P m G w0 K tg .eql t x y (.bool a) (.bool b) = K (.bool (decide (a = b))) := QS_eq fun w => (run_bools h).1
theorem qb_bneq {a b : Bool} (h : P.underlying t = some .bool) : QBin P m G w0 K tg .neq t x y (.bool a) (.bool b) = K (.bool (decide (¬ a = b))) := QS_eq fun w => (run_bools h).2
theorem qcv_int {s t : TypeId} {td : TypeDesc} (hs : P.underlying s = some td) (ht : P.underlying t = some (.int k')) : QS P m G w0 K tg (convert s t (.int k a)) = K (.int k' (k'.wrap a)) := QS_eq fun w => run_cvint hs ht
theorem qx_sidx {t : TypeId} {k : IntKind} {i : Int} {l : List UInt8} (ht : P.underlying t = some .string) (h0 : 0 ≤ i) (h1 : i < (l.length : Int)) (h : K (.int .u8 ((l.getD i.toNat 0).toNat : Int))) : QS P m G w0 K tg (Instr.index t (.string ⟨l.toArray⟩) (.int k i)) := QS_of (fun w _ => run_sidx ht h0 h1) h
end
end Go.Proofs.YtcmckbgiiclomaaGreatDoor.V
