/- What each operation comes to, in the small logic: equations for a walk by rewriting. -/
import Derived.Test.YtcmckbgiiclomaaGreatDoorVa
import Derived.Laws.AppendOwn
import Derived.Laws.OwnMore
import Derived.Laws.MakeOwn
import Derived.Laws.BytesArg
import Derived.Laws.IdiomStrings
import Derived.Laws.CopyOwn
import Derived.Laws.Slices
import Derived.Tactics
namespace Go.Proofs.YtcmckbgiiclomaaGreatDoor.V
open Go Go.RowKit

/-- A value's computation runs to its end, and what follows. -/
def vS (P : Program) (x : Sem Value) (w : World) (K : Value → World → Prop) : Prop := match x.run P w with | .ok v w' => K v w' | .halt _ _ => False
def vU (P : Program) (x : Sem Unit) (w : World) (K : Value → World → Prop) : Prop := match x.run P w with | .ok _ w' => K undef w' | .halt _ _ => False
theorem vS_run {P : Program} {x : Sem Value} {w w' : World} {v : Value} {K : Value → World → Prop} (h : x.run P w = .ok v w') (hk : K v w') : vS P x w K := by
  unfold vS; rw [h]; exact hk
theorem vU_run {P : Program} {x : Sem Unit} {w w' : World} {u : Unit} {K : Value → World → Prop} (h : x.run P w = .ok u w') (hk : K undef w') : vU P x w K := by
  unfold vU; rw [h]; exact hk
theorem vS_pure {P : Program} {v : Value} {w : World} {K : Value → World → Prop} : vS P (pure v) w K = K v w := rfl

section ops
variable {P : Program} {s : Sl} {w : World} {K : Value → World → Prop} {d : Option Tmp} {ty : TypeId} {pos : String} {af : Array Edge} {g : Option (Nat × Bool)}

theorem aop_v {o : Oper} {x : Sem Value} (h : execOp (ev s) o = (do pure (.value (← x)))) : aop P o s w K = vS P x w K := by
  unfold aop vS
  rw [h]
  simp only [Sem.run_bind]
  cases x.run P w <;> rfl
theorem aop_u {o : Oper} {x : Sem Unit} (h : execOp (ev s) o = (do x; pure .skip)) : aop P o s w K = vU P x w K := by
  unfold aop vU
  rw [h]
  simp only [Sem.run_bind]
  cases x.run P w <;> rfl

theorem aop_move (x : Operand) : aop P ⟨d, .move x, ty, pos, af, g⟩ s w K = K (ev s x) w := rfl
theorem aop_assign (x : Operand) : aop P ⟨d, .assign x, ty, pos, af, g⟩ s w K = K (ev s x) w := rfl
theorem aop_pick (c a b : Operand) : aop P ⟨d, .pick c a b, ty, pos, af, g⟩ s w K ↔ ∃ t, ev s c = .bool t ∧ K (if t = true then ev s a else ev s b) w := by
  unfold aop
  simp only [execOp]
  cases h : ev s c <;> simp [asBool, aopR]
theorem aop_alloc (e : TypeId) : aop P ⟨d, .alloc e, ty, pos, af, g⟩ s w K = vS P (Instr.alloc e true (.tuple #[])) w K := aop_v rfl
theorem aop_box (e : TypeId) (x : Operand) : aop P ⟨d, .box e x, ty, pos, af, g⟩ s w K = vS P (Instr.box e (ev s x)) w K := aop_v rfl
theorem aop_build (t : TypeId) (ps : Array (Nat × Operand)) : aop P ⟨d, .build t ps, ty, pos, af, g⟩ s w K = vS P (Instr.build t (ps.map fun (i, x) => (i, ev s x))) w K := aop_v rfl
theorem aop_buildSlice (t : TypeId) (n : Nat) (ps : Array (Nat × Operand)) : aop P ⟨d, .buildSlice t n ps, ty, pos, af, g⟩ s w K = vS P (Instr.buildSlice t n (ps.map fun (i, x) => (i, ev s x))) w K := aop_v rfl
theorem aop_load (t : TypeId) (a : Operand) : aop P ⟨d, .load t a, ty, pos, af, g⟩ s w K = vS P (Instr.loadAt t (ev s a)) w K := aop_v rfl
theorem aop_store (t : TypeId) (a x : Operand) : aop P ⟨d, .store t a x, ty, pos, af, g⟩ s w K = vU P (Instr.storeAt t (ev s a) (ev s x)) w K := aop_u rfl
theorem aop_bin (op : BinOp) (t : TypeId) (x y : Operand) (t2 : TypeId) : aop P ⟨d, .binOp op t x y t2, ty, pos, af, g⟩ s w K = vS P (do eqGuard op t x y (ev s x) (ev s y); binOp op t (ev s x) (ev s y)) w K := aop_v rfl
theorem aop_un (op : UnOp) (t : TypeId) (x : Operand) : aop P ⟨d, .unOp op t x, ty, pos, af, g⟩ s w K = vS P (Op.unary op (ev s x)) w K := aop_v rfl
theorem aop_convert (src dst : TypeId) (x : Operand) : aop P ⟨d, .convert src dst x, ty, pos, af, g⟩ s w K = vS P (convert src dst (ev s x)) w K := aop_v rfl
theorem aop_makeFunc (fn : Fn) (a b : Array Operand) : aop P ⟨d, .makeFunc fn a b, ty, pos, af, g⟩ s w K = K (.func fn (a.map (ev s)) (b.map (ev s))) w := (aop_v rfl).trans rfl
theorem aop_makeSlice (t : TypeId) (a b : Operand) : aop P ⟨d, .makeSlice t a b, ty, pos, af, g⟩ s w K = vS P (Instr.makeSlice t (ev s a) (ev s b)) w K := aop_v rfl
theorem aop_slice (t : TypeId) (x : Operand) (lo hi mx : Option Operand) : aop P ⟨d, .slice t x lo hi mx, ty, pos, af, g⟩ s w K = vS P (Instr.sliceAt t (ev s x) (lo.map (ev s)) (hi.map (ev s)) (mx.map (ev s))) w K := aop_v rfl
theorem aop_fieldAddr (t : TypeId) (x : Operand) (f : Nat) : aop P ⟨d, .fieldAddr t x f, ty, pos, af, g⟩ s w K = vS P (Instr.fieldAt t (ev s x) f) w K := aop_v rfl
theorem aop_field (t : TypeId) (x : Operand) (f : Nat) : aop P ⟨d, .field t x f, ty, pos, af, g⟩ s w K = vS P (Instr.field t (ev s x) f) w K := aop_v rfl
theorem aop_indexAddr (t : TypeId) (x i : Operand) : aop P ⟨d, .indexAddr t x i, ty, pos, af, g⟩ s w K = vS P (Instr.indexAt t (ev s x) (ev s i)) w K := aop_v rfl
theorem aop_index (t : TypeId) (x i : Operand) : aop P ⟨d, .index t x i, ty, pos, af, g⟩ s w K = vS P (Instr.index t (ev s x) (ev s i)) w K := aop_v rfl
theorem aop_extract (x : Operand) (i : Nat) : aop P ⟨d, .extract x i, ty, pos, af, g⟩ s w K = vS P (Instr.extract (ev s x) i) w K := aop_v rfl

/-- May a call of function f be entered? -/
def entersB (P : Program) (f : FuncId) : Bool := match P.funcs[f]? with | some fn => fn.body.isSome && !(fn.name == "runtime.NumGoroutine") | none => false
theorem run_callFunc {f : FuncId} {args : Array Value} (h : entersB P f = true) : (callFunc f args).run P w = .ok (.enter f args) w := by
  unfold entersB at h
  unfold callFunc
  cases hf : P.funcs[f]? with
  | none => rw [hf] at h; cases h
  | some fn =>
    rw [hf] at h
    simp only [Bool.and_eq_true, Bool.not_eq_true'] at h
    have hb : ¬ fn.body = none := by intro e; rw [e] at h; cases h.1
    have hn : ¬ fn.name = "runtime.NumGoroutine" := by intro e; rw [e] at h; exact absurd h.2 (by decide)
    simp [hf, hn, hb]
theorem aop_call {f : FuncId} (h : entersB P f = true) (xs : Array Operand) (ts : Array TypeId) :
    aop P ⟨d, .call ⟨.value (.func f), xs, ts⟩, ty, pos, af, g⟩ s w K = ACalls P f (xs.map (ev s)) w K := by
  unfold aop
  have : execOp (ev s) ⟨d, .call ⟨.value (.func f), xs, ts⟩, ty, pos, af, g⟩ = callFunc f (xs.map (ev s)) := by
    simp only [execOp, resolve, ev, Deferred.ofValue, pure_bind, invoke]
    simp
  rw [this, run_callFunc h]
  rfl
theorem aop_callv {f : FuncId} (h : entersB P f = true) (t : Tmp) (xs : Array Operand) (ts : Array TypeId) (fs cs : Array Value) (ht : s t = .func (.func f) fs cs) :
    aop P ⟨d, .call ⟨.value (.tmp t), xs, ts⟩, ty, pos, af, g⟩ s w K = ACalls P f (fs ++ xs.map (ev s) ++ cs) w K := by
  unfold aop
  have : execOp (ev s) ⟨d, .call ⟨.value (.tmp t), xs, ts⟩, ty, pos, af, g⟩ = callFunc f (fs ++ xs.map (ev s) ++ cs) := by
    simp only [execOp, resolve, ev, ht, Deferred.ofValue, pure_bind, invoke]
  rw [this, run_callFunc h]
  rfl
theorem aop_len (xs : Array Operand) (ts : Array TypeId) : aop P ⟨d, .call ⟨.builtin .len, xs, ts⟩, ty, pos, af, g⟩ s w K = vS P (Builtin.len_ ts ty (xs.map (ev s))) w K := aop_v rfl
theorem aop_append (xs : Array Operand) (ts : Array TypeId) : aop P ⟨d, .call ⟨.builtin .append, xs, ts⟩, ty, pos, af, g⟩ s w K = vS P (Builtin.append_ ts ty (xs.map (ev s))) w K := aop_v rfl
theorem aop_copy (xs : Array Operand) (ts : Array TypeId) : aop P ⟨d, .call ⟨.builtin .copy, xs, ts⟩, ty, pos, af, g⟩ s w K = vS P (Builtin.copy_ ts ty (xs.map (ev s))) w K := aop_v rfl
theorem aop_clear (xs : Array Operand) (ts : Array TypeId) : aop P ⟨d, .call ⟨.builtin .clear, xs, ts⟩, ty, pos, af, g⟩ s w K = vS P (Builtin.clear_ ts ty (xs.map (ev s))) w K := aop_v rfl
theorem aop_min (xs : Array Operand) (ts : Array TypeId) : aop P ⟨d, .call ⟨.builtin .min, xs, ts⟩, ty, pos, af, g⟩ s w K = vS P (Builtin.min_ ts ty (xs.map (ev s))) w K := aop_v rfl
theorem aop_max (xs : Array Operand) (ts : Array TypeId) : aop P ⟨d, .call ⟨.builtin .max, xs, ts⟩, ty, pos, af, g⟩ s w K = vS P (Builtin.max_ ts ty (xs.map (ev s))) w K := aop_v rfl
end ops

/-! ### numbers -/
/-- An int, wrapped round. -/
@[irreducible] def w64 (n : Int) : Int := (n + 9223372036854775808) % 18446744073709551616 - 9223372036854775808
theorem wrap_i64 (n : Int) : IntKind.i64.wrap n = w64 n := by
  have e : IntKind.i64.wrap n = if n % 18446744073709551616 ≥ 9223372036854775808 then n % 18446744073709551616 - 18446744073709551616 else n % 18446744073709551616 := by
    simp [IntKind.wrap, IntKind.bits, IntKind.signed]
  rw [e]
  unfold w64
  split <;> omega
theorem w64_id {n : Int} (h0 : -9223372036854775808 ≤ n) (h1 : n < 9223372036854775808) : w64 n = n := by unfold w64; omega
theorem wrap_u8 (n : Int) : IntKind.u8.wrap n = n % 256 := by simp [IntKind.wrap, IntKind.bits, IntKind.signed]

section arith
variable {P : Program} {w : World} {K : Value → World → Prop} {t : TypeId} {x y : Operand} {k : IntKind} {a b : Int}
theorem vb_add : vS P (do eqGuard .add t x y (.int k a) (.int k b); binOp .add t (.int k a) (.int k b)) w K = K (.int k (k.wrap (a + b))) w := by simp [vS, eqGuard, binOp, Op.intArith]
theorem vb_sub : vS P (do eqGuard .sub t x y (.int k a) (.int k b); binOp .sub t (.int k a) (.int k b)) w K = K (.int k (k.wrap (a - b))) w := by simp [vS, eqGuard, binOp, Op.intArith]
theorem vb_mul : vS P (do eqGuard .mul t x y (.int k a) (.int k b); binOp .mul t (.int k a) (.int k b)) w K = K (.int k (k.wrap (a * b))) w := by simp [vS, eqGuard, binOp, Op.intArith]
theorem vb_lss : vS P (do eqGuard .lss t x y (.int k a) (.int k b); binOp .lss t (.int k a) (.int k b)) w K = K (.bool (decide (a < b))) w := by simp [vS, eqGuard, binOp, Op.intCmp]
theorem vb_leq : vS P (do eqGuard .leq t x y (.int k a) (.int k b); binOp .leq t (.int k a) (.int k b)) w K = K (.bool (decide (a ≤ b))) w := by simp [vS, eqGuard, binOp, Op.intCmp]
theorem vb_gtr : vS P (do eqGuard .gtr t x y (.int k a) (.int k b); binOp .gtr t (.int k a) (.int k b)) w K = K (.bool (decide (b < a))) w := by simp [vS, eqGuard, binOp, Op.intCmp]
theorem vb_geq : vS P (do eqGuard .geq t x y (.int k a) (.int k b); binOp .geq t (.int k a) (.int k b)) w K = K (.bool (decide (b ≤ a))) w := by simp [vS, eqGuard, binOp, Op.intCmp]
theorem vb_eql : vS P (do eqGuard .eql t x y (.int k a) (.int k b); binOp .eql t (.int k a) (.int k b)) w K = K (.bool (decide (a = b))) w := by
  have : (a == b) = decide (a = b) := by by_cases h : a = b <;> simp [h]
  simp [vS, eqGuard, binOp, Op.intCmp, this]
theorem vb_neq : vS P (do eqGuard .neq t x y (.int k a) (.int k b); binOp .neq t (.int k a) (.int k b)) w K = K (.bool (decide (¬ a = b))) w := by
  have : (a != b) = decide (¬ a = b) := by by_cases h : a = b <;> simp [h]
  simp [vS, eqGuard, binOp, Op.intCmp, this]
theorem vu_not {c : Bool} : vS P (Op.unary .not (.bool c)) w K = K (.bool (!c)) w := rfl
theorem vu_neg : vS P (Op.unary .neg (.int k a)) w K = K (.int k (k.wrap (0 - a))) w := rfl
end arith

end Go.Proofs.YtcmckbgiiclomaaGreatDoor.V
