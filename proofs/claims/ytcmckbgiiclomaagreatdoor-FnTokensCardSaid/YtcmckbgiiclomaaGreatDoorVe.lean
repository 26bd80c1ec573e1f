/- The logic's words once more, each with a mark that keeps rewriting out of what is still to come; one step of a walk, by rewriting. -/
import Derived.Test.YtcmckbgiiclomaaGreatDoorVd
namespace Go.Proofs.YtcmckbgiiclomaaGreatDoor.V
open Go Go.RowKit

/-- A mark that hangs on what is not to be looked into. -/
inductive Tg {α : Type} (a : α) : Type where
  | mk
def Acode (P : Program) (c : Code) (Q : AX → Sl → World → Prop) (_ : Tg (c, Q)) (s : Sl) (w : World) : Prop := acode P c Q s w
def Aops (P : Program) (ops : Array Oper) (K : Sl → World → Prop) (l : List Oper) (_ : Tg (ops, K, l)) (s : Sl) (w : World) : Prop := aops P ops K l s w
def Adraw (P : Program) (ops : Array Oper) (K : Sl → World → Prop) (_ : Tg (ops, K)) (s : Sl) (w : World) : Prop := adraw P ops K s w
def Aop (P : Program) (o : Oper) (K : Value → World → Prop) (_ : Tg (o, K)) (s : Sl) (w : World) : Prop := aop P o s w K
def VS (P : Program) (K : Value → World → Prop) (_ : Tg K) (x : Sem Value) (w : World) : Prop := vS P x w K
def VU (P : Program) (K : Value → World → Prop) (_ : Tg K) (x : Sem Unit) (w : World) : Prop := vU P x w K
def ACall (P : Program) (f : FuncId) (R : Value → World → Prop) (_ : Tg R) (args : Array Value) (w : World) : Prop := ACalls P f args w R
def Loop (P : Program) (b : Code) (Q : AX → Sl → World → Prop) (_ : Tg (b, Q)) (s : Sl) (w : World) : Prop := acode P (.loop b) Q s w
def Then (K : Sl → World → Prop) (Q : AX → Sl → World → Prop) (_ : Tg (K, Q)) (e : AX) (s : Sl) (w : World) : Prop := thenQ K Q e s w
def Block (i : Nat) (Q : AX → Sl → World → Prop) (_ : Tg Q) (e : AX) (s : Sl) (w : World) : Prop := blockQ i Q e s w
def Ret (P : Program) (rs : List ResultVar) (R : Value → World → Prop) (_ : Tg R) (e : AX) (s : Sl) (w : World) : Prop := retQ P rs R e s w

/-- Two ways, by a test. -/
def If (A B : Prop) (_ : Tg (A, B)) (c : Prop) : Prop := (c → A) ∧ (¬ c → B)
theorem if_true {A B : Prop} {t : Tg (A, B)} : If A B t True = A := by simp [If]
theorem if_false {A B : Prop} {t : Tg (A, B)} : If A B t False = B := by simp [If]
theorem if_not {A B : Prop} {t : Tg (A, B)} {c : Prop} : If A B t (¬ c) = If B A .mk c := by simp only [If, Classical.not_not, and_comm]
theorem ways {A B : Prop} {t : Tg (A, B)} {c : Prop} (h1 : c → A) (h2 : ¬ c → B) : If A B t c := ⟨h1, h2⟩
/-- Two ways, by a value. -/
def Br (A B : Prop) (_ : Tg (A, B)) (v : Value) : Prop := ∃ y, v = .bool y ∧ (if y = true then A else B)
theorem br_bool {A B : Prop} {t : Tg (A, B)} {y : Bool} : Br A B t (.bool y) = If A B .mk (y = true) := by cases y <;> simp [Br, If]

section code
variable {P : Program} {Q : AX → Sl → World → Prop} {s : Sl} {w : World} {K : Sl → World → Prop} {R : Value → World → Prop}
theorem ac_skip {t : Tg (Code.skip, Q)} : Acode P .skip Q t s w = Q .normal s w := rfl
theorem ac_region {id : Nat} {l : List Oper} {t : Tg (Code.region id l.toArray false, Q)} : Acode P (.region id l.toArray false) Q t s w = Aops P l.toArray (Q .normal) l .mk s w := rfl
theorem ac_draw {id : Nat} {l : List Oper} {t : Tg (Code.region id l.toArray true, Q)} : Acode P (.region id l.toArray true) Q t s w = Adraw P l.toArray (Q .normal) .mk s w := rfl
theorem ac_seq {a b : Code} {t : Tg (Code.seq a b, Q)} : Acode P (.seq a b) Q t s w = Acode P a (Then (Acode P b Q .mk) Q .mk) .mk s w := rfl
theorem ac_cond {c : Operand} {a b : Code} {t : Tg (Code.cond c a b, Q)} : Acode P (.cond c a b) Q t s w = Br (Acode P a Q .mk s w) (Acode P b Q .mk s w) .mk (ev s c) := rfl
theorem ac_block {id : Nat} {b : Code} {t : Tg (Code.block id b, Q)} : Acode P (.block id b) Q t s w = Acode P b (Block id Q .mk) .mk s w := rfl
theorem ac_loop {b : Code} {t : Tg (Code.loop b, Q)} : Acode P (.loop b) Q t s w = Loop P b Q .mk s w := rfl
theorem ac_exit {id : Nat} {t : Tg (Code.exit id, Q)} : Acode P (.exit id) Q t s w = Q (.exit id) s w := rfl
theorem ac_ret {t : Tg (Code.ret, Q)} : Acode P .ret Q t s w = Q .ret s w := rfl
theorem then_normal {t : Tg (K, Q)} : Then K Q t .normal s w = K s w := rfl
theorem then_exit {i : Nat} {t : Tg (K, Q)} : Then K Q t (.exit i) s w = Q (.exit i) s w := rfl
theorem then_ret {t : Tg (K, Q)} : Then K Q t .ret s w = Q .ret s w := rfl
theorem block_normal {i : Nat} {t : Tg Q} : Block i Q t .normal s w = Q .normal s w := rfl
theorem block_exit {i j : Nat} {t : Tg Q} : Block i Q t (.exit j) s w = if j = i then Q .normal s w else Q (.exit j) s w := by simp only [Block, blockQ]; split <;> rfl
theorem block_ret {i : Nat} {t : Tg Q} : Block i Q t .ret s w = Q .ret s w := rfl
theorem ret_ret {rs : List ResultVar} {t : Tg R} : Ret P rs R t .ret s w = resOf P s w rs fun vs => R (oneOf vs) w := rfl
theorem ret_normal {rs : List ResultVar} {t : Tg R} : Ret P rs R t .normal s w = resOf P s w rs fun vs => R (oneOf vs) w := rfl
theorem as_nil {ops : Array Oper} {t : Tg (ops, K, ([] : List Oper))} : Aops P ops K [] t s w = K s w := rfl
theorem as_cons {ops : Array Oper} {d : Option Tmp} {op : Op} {ty : TypeId} {pos : String} {af : Array Edge} {rest : List Oper} {t : Tg (ops, K, (⟨d, op, ty, pos, af, none⟩ : Oper) :: rest)} :
    Aops P ops K (⟨d, op, ty, pos, af, none⟩ :: rest) t s w = Aop P ⟨d, op, ty, pos, af, none⟩ (fun v w' => Aops P ops K rest .mk (putS s d v) w') .mk s w := rfl
/-- A guarded operation: whether it is carried out hangs on what number j has yielded. -/
theorem as_guard {ops : Array Oper} {d : Option Tmp} {op : Op} {ty : TypeId} {pos : String} {af : Array Edge} {j : Nat} {b : Bool} {rest : List Oper} {t : Tg (ops, K, (⟨d, op, ty, pos, af, some (j, b)⟩ : Oper) :: rest)} :
    Aops P ops K (⟨d, op, ty, pos, af, some (j, b)⟩ :: rest) t s w = If (Aop P ⟨d, op, ty, pos, af, some (j, b)⟩ (fun v w' => Aops P ops K rest .mk (putS s d v) w') .mk s w) (Aops P ops K rest .mk (putS s d undef) w) .mk (yl ops s j = some b) := by
  simp only [Aops, Aop, aops, Region.wanted, beq_iff_eq, If]
  split <;> simp_all
theorem putS_some {d : Nat} {v : Value} : putS s (some d) v = upd s d v := rfl
theorem putS_none {v : Value} : putS s none v = s := rfl
theorem ev_tmp {t : Tmp} : ev s (.tmp t) = s t := rfl
theorem ev_const {v : Value} : ev s (.const v) = v := rfl
theorem ev_func {f : FuncId} : ev s (.func f) = .func (.func f) #[] #[] := rfl
theorem upd_at {d t : Nat} {v : Value} : upd s d v t = if t = d then v else s t := rfl
theorem yl_at {l : List Oper} {j : Nat} : yl l.toArray s j = ((l[j]?).bind (·.dst)).bind fun d => boolOf (s d) := by simp [yl]
theorem boolOf_bool {b : Bool} : boolOf (.bool b) = some b := rfl
theorem ex_bool {b : Bool} {Y : Bool → Prop} : (∃ t, Value.bool b = Value.bool t ∧ Y t) = Y b := by simp
theorem some_bool {a b : Bool} : (some a = some b) = (a = b) := by simp
end code

section ops
variable {P : Program} {s : Sl} {w : World} {K : Value → World → Prop} {d : Option Tmp} {ty : TypeId} {pos : String} {af : Array Edge} {g : Option (Nat × Bool)}
theorem o_move {x : Operand} {t : Tg ((⟨d, .move x, ty, pos, af, g⟩ : Oper), K)} : Aop P ⟨d, .move x, ty, pos, af, g⟩ K t s w = K (ev s x) w := rfl
theorem o_assign {x : Operand} {t : Tg ((⟨d, .assign x, ty, pos, af, g⟩ : Oper), K)} : Aop P ⟨d, .assign x, ty, pos, af, g⟩ K t s w = K (ev s x) w := rfl
def Pick (K : Value → World → Prop) (_ : Tg K) (c a b : Value) (w : World) : Prop := ∃ t, c = .bool t ∧ K (if t = true then a else b) w
theorem o_pick {c a b : Operand} {t : Tg ((⟨d, .pick c a b, ty, pos, af, g⟩ : Oper), K)} : Aop P ⟨d, .pick c a b, ty, pos, af, g⟩ K t s w = Pick K .mk (ev s c) (ev s a) (ev s b) w := propext (aop_pick c a b)
theorem pick_bool {c : Bool} {a b : Value} {t : Tg K} : Pick K t (.bool c) a b w = K (if c = true then a else b) w := by simp [Pick]
theorem o_alloc {e : TypeId} {t : Tg ((⟨d, .alloc e, ty, pos, af, g⟩ : Oper), K)} : Aop P ⟨d, .alloc e, ty, pos, af, g⟩ K t s w = VS P K .mk (Instr.alloc e true (.tuple #[])) w := aop_alloc e
theorem o_box {e : TypeId} {x : Operand} {t : Tg ((⟨d, .box e x, ty, pos, af, g⟩ : Oper), K)} : Aop P ⟨d, .box e x, ty, pos, af, g⟩ K t s w = VS P K .mk (Instr.box e (ev s x)) w := aop_box e x
theorem o_build {y : TypeId} {ps : List (Nat × Operand)} {t : Tg ((⟨d, .build y ps.toArray, ty, pos, af, g⟩ : Oper), K)} : Aop P ⟨d, .build y ps.toArray, ty, pos, af, g⟩ K t s w = VS P K .mk (Instr.build y (ps.map fun p => (p.1, ev s p.2)).toArray) w := by
  rw [show (ps.map fun p => (p.1, ev s p.2)).toArray = ps.toArray.map fun p => (p.1, ev s p.2) by simp]; exact aop_build y ps.toArray
theorem o_buildSlice {y : TypeId} {n : Nat} {ps : List (Nat × Operand)} {t : Tg ((⟨d, .buildSlice y n ps.toArray, ty, pos, af, g⟩ : Oper), K)} : Aop P ⟨d, .buildSlice y n ps.toArray, ty, pos, af, g⟩ K t s w = VS P K .mk (Instr.buildSlice y n (ps.map fun p => (p.1, ev s p.2)).toArray) w := by
  rw [show (ps.map fun p => (p.1, ev s p.2)).toArray = ps.toArray.map fun p => (p.1, ev s p.2) by simp]; exact aop_buildSlice y n ps.toArray
theorem o_load {y : TypeId} {a : Operand} {t : Tg ((⟨d, .load y a, ty, pos, af, g⟩ : Oper), K)} : Aop P ⟨d, .load y a, ty, pos, af, g⟩ K t s w = VS P K .mk (Instr.loadAt y (ev s a)) w := aop_load y a
theorem o_store {y : TypeId} {a x : Operand} {t : Tg ((⟨d, .store y a x, ty, pos, af, g⟩ : Oper), K)} : Aop P ⟨d, .store y a x, ty, pos, af, g⟩ K t s w = VU P K .mk (Instr.storeAt y (ev s a) (ev s x)) w := aop_store y a x
/-- A binary operation, on values. -/
def Bin (P : Program) (K : Value → World → Prop) (_ : Tg K) (op : BinOp) (y : TypeId) (x z : Operand) (a b : Value) (w : World) : Prop := vS P (do eqGuard op y x z a b; binOp op y a b) w K
theorem o_bin {op : BinOp} {y : TypeId} {x z : Operand} {y2 : TypeId} {t : Tg ((⟨d, .binOp op y x z y2, ty, pos, af, g⟩ : Oper), K)} : Aop P ⟨d, .binOp op y x z y2, ty, pos, af, g⟩ K t s w = Bin P K .mk op y x z (ev s x) (ev s z) w := aop_bin op y x z y2
theorem o_un {op : UnOp} {y : TypeId} {x : Operand} {t : Tg ((⟨d, .unOp op y x, ty, pos, af, g⟩ : Oper), K)} : Aop P ⟨d, .unOp op y x, ty, pos, af, g⟩ K t s w = VS P K .mk (Op.unary op (ev s x)) w := aop_un op y x
theorem o_convert {a b : TypeId} {x : Operand} {t : Tg ((⟨d, .convert a b x, ty, pos, af, g⟩ : Oper), K)} : Aop P ⟨d, .convert a b x, ty, pos, af, g⟩ K t s w = VS P K .mk (convert a b (ev s x)) w := aop_convert a b x
theorem o_makeFunc {fn : Fn} {a b : List Operand} {t : Tg ((⟨d, .makeFunc fn a.toArray b.toArray, ty, pos, af, g⟩ : Oper), K)} : Aop P ⟨d, .makeFunc fn a.toArray b.toArray, ty, pos, af, g⟩ K t s w = K (.func fn (a.map (ev s)).toArray (b.map (ev s)).toArray) w := by
  rw [show (a.map (ev s)).toArray = a.toArray.map (ev s) by simp, show (b.map (ev s)).toArray = b.toArray.map (ev s) by simp]; exact aop_makeFunc fn a.toArray b.toArray
theorem o_makeSlice {y : TypeId} {a b : Operand} {t : Tg ((⟨d, .makeSlice y a b, ty, pos, af, g⟩ : Oper), K)} : Aop P ⟨d, .makeSlice y a b, ty, pos, af, g⟩ K t s w = VS P K .mk (Instr.makeSlice y (ev s a) (ev s b)) w := aop_makeSlice y a b
theorem o_slice {y : TypeId} {x : Operand} {lo hi mx : Option Operand} {t : Tg ((⟨d, .slice y x lo hi mx, ty, pos, af, g⟩ : Oper), K)} : Aop P ⟨d, .slice y x lo hi mx, ty, pos, af, g⟩ K t s w = VS P K .mk (Instr.sliceAt y (ev s x) (lo.map (ev s)) (hi.map (ev s)) (mx.map (ev s))) w := aop_slice y x lo hi mx
theorem o_fieldAddr {y : TypeId} {x : Operand} {f : Nat} {t : Tg ((⟨d, .fieldAddr y x f, ty, pos, af, g⟩ : Oper), K)} : Aop P ⟨d, .fieldAddr y x f, ty, pos, af, g⟩ K t s w = VS P K .mk (Instr.fieldAt y (ev s x) f) w := aop_fieldAddr y x f
theorem o_field {y : TypeId} {x : Operand} {f : Nat} {t : Tg ((⟨d, .field y x f, ty, pos, af, g⟩ : Oper), K)} : Aop P ⟨d, .field y x f, ty, pos, af, g⟩ K t s w = VS P K .mk (Instr.field y (ev s x) f) w := aop_field y x f
theorem o_indexAddr {y : TypeId} {x i : Operand} {t : Tg ((⟨d, .indexAddr y x i, ty, pos, af, g⟩ : Oper), K)} : Aop P ⟨d, .indexAddr y x i, ty, pos, af, g⟩ K t s w = VS P K .mk (Instr.indexAt y (ev s x) (ev s i)) w := aop_indexAddr y x i
theorem o_index {y : TypeId} {x i : Operand} {t : Tg ((⟨d, .index y x i, ty, pos, af, g⟩ : Oper), K)} : Aop P ⟨d, .index y x i, ty, pos, af, g⟩ K t s w = VS P K .mk (Instr.index y (ev s x) (ev s i)) w := aop_index y x i
theorem o_extract {x : Operand} {i : Nat} {t : Tg ((⟨d, .extract x i, ty, pos, af, g⟩ : Oper), K)} : Aop P ⟨d, .extract x i, ty, pos, af, g⟩ K t s w = VS P K .mk (Instr.extract (ev s x) i) w := aop_extract x i
theorem o_call {f : FuncId} {xs : List Operand} {ts : Array TypeId} {t : Tg ((⟨d, .call ⟨.value (.func f), xs.toArray, ts⟩, ty, pos, af, g⟩ : Oper), K)} (h : entersB P f = true) : Aop P ⟨d, .call ⟨.value (.func f), xs.toArray, ts⟩, ty, pos, af, g⟩ K t s w = ACall P f K .mk (xs.map (ev s)).toArray w := by
  rw [show (xs.map (ev s)).toArray = xs.toArray.map (ev s) by simp]; exact aop_call h xs.toArray ts
def Builtin' (P : Program) (K : Value → World → Prop) (_ : Tg K) (b : Builtin) (ts : Array TypeId) (ty : TypeId) (xs : List Value) (w : World) : Prop :=
  vS P (match b with | .len => Builtin.len_ ts ty xs.toArray | .append => Builtin.append_ ts ty xs.toArray | .copy => Builtin.copy_ ts ty xs.toArray | .clear => Builtin.clear_ ts ty xs.toArray | .min => Builtin.min_ ts ty xs.toArray | .max => Builtin.max_ ts ty xs.toArray | _ => stuck "") w K
theorem o_len {xs : List Operand} {ts : Array TypeId} {t : Tg ((⟨d, .call ⟨.builtin .len, xs.toArray, ts⟩, ty, pos, af, g⟩ : Oper), K)} : Aop P ⟨d, .call ⟨.builtin .len, xs.toArray, ts⟩, ty, pos, af, g⟩ K t s w = Builtin' P K .mk .len ts ty (xs.map (ev s)) w := by
  have h := aop_len (P := P) (s := s) (w := w) (K := K) (d := d) (ty := ty) (pos := pos) (af := af) (g := g) xs.toArray ts
  rw [List.map_toArray] at h; exact h
theorem o_append {xs : List Operand} {ts : Array TypeId} {t : Tg ((⟨d, .call ⟨.builtin .append, xs.toArray, ts⟩, ty, pos, af, g⟩ : Oper), K)} : Aop P ⟨d, .call ⟨.builtin .append, xs.toArray, ts⟩, ty, pos, af, g⟩ K t s w = Builtin' P K .mk .append ts ty (xs.map (ev s)) w := by
  have h := aop_append (P := P) (s := s) (w := w) (K := K) (d := d) (ty := ty) (pos := pos) (af := af) (g := g) xs.toArray ts
  rw [List.map_toArray] at h; exact h
theorem o_copy {xs : List Operand} {ts : Array TypeId} {t : Tg ((⟨d, .call ⟨.builtin .copy, xs.toArray, ts⟩, ty, pos, af, g⟩ : Oper), K)} : Aop P ⟨d, .call ⟨.builtin .copy, xs.toArray, ts⟩, ty, pos, af, g⟩ K t s w = Builtin' P K .mk .copy ts ty (xs.map (ev s)) w := by
  have h := aop_copy (P := P) (s := s) (w := w) (K := K) (d := d) (ty := ty) (pos := pos) (af := af) (g := g) xs.toArray ts
  rw [List.map_toArray] at h; exact h
theorem o_clear {xs : List Operand} {ts : Array TypeId} {t : Tg ((⟨d, .call ⟨.builtin .clear, xs.toArray, ts⟩, ty, pos, af, g⟩ : Oper), K)} : Aop P ⟨d, .call ⟨.builtin .clear, xs.toArray, ts⟩, ty, pos, af, g⟩ K t s w = Builtin' P K .mk .clear ts ty (xs.map (ev s)) w := by
  have h := aop_clear (P := P) (s := s) (w := w) (K := K) (d := d) (ty := ty) (pos := pos) (af := af) (g := g) xs.toArray ts
  rw [List.map_toArray] at h; exact h
theorem o_min {xs : List Operand} {ts : Array TypeId} {t : Tg ((⟨d, .call ⟨.builtin .min, xs.toArray, ts⟩, ty, pos, af, g⟩ : Oper), K)} : Aop P ⟨d, .call ⟨.builtin .min, xs.toArray, ts⟩, ty, pos, af, g⟩ K t s w = Builtin' P K .mk .min ts ty (xs.map (ev s)) w := by
  have h := aop_min (P := P) (s := s) (w := w) (K := K) (d := d) (ty := ty) (pos := pos) (af := af) (g := g) xs.toArray ts
  rw [List.map_toArray] at h; exact h
theorem o_max {xs : List Operand} {ts : Array TypeId} {t : Tg ((⟨d, .call ⟨.builtin .max, xs.toArray, ts⟩, ty, pos, af, g⟩ : Oper), K)} : Aop P ⟨d, .call ⟨.builtin .max, xs.toArray, ts⟩, ty, pos, af, g⟩ K t s w = Builtin' P K .mk .max ts ty (xs.map (ev s)) w := by
  have h := aop_max (P := P) (s := s) (w := w) (K := K) (d := d) (ty := ty) (pos := pos) (af := af) (g := g) xs.toArray ts
  rw [List.map_toArray] at h; exact h
end ops

section vals
variable {P : Program} {w : World} {K : Value → World → Prop} {tg : Tg K} {t : TypeId} {x y : Operand} {k : IntKind} {a b : Int}
theorem b_add : Bin P K tg .add t x y (.int k a) (.int k b) w = K (.int k (k.wrap (a + b))) w := vb_add
theorem b_sub : Bin P K tg .sub t x y (.int k a) (.int k b) w = K (.int k (k.wrap (a - b))) w := vb_sub
theorem b_mul : Bin P K tg .mul t x y (.int k a) (.int k b) w = K (.int k (k.wrap (a * b))) w := vb_mul
theorem b_lss : Bin P K tg .lss t x y (.int k a) (.int k b) w = K (.bool (decide (a < b))) w := vb_lss
theorem b_leq : Bin P K tg .leq t x y (.int k a) (.int k b) w = K (.bool (decide (a ≤ b))) w := vb_leq
theorem b_gtr : Bin P K tg .gtr t x y (.int k a) (.int k b) w = K (.bool (decide (b < a))) w := vb_gtr
theorem b_geq : Bin P K tg .geq t x y (.int k a) (.int k b) w = K (.bool (decide (b ≤ a))) w := vb_geq
theorem b_eql : Bin P K tg .eql t x y (.int k a) (.int k b) w = K (.bool (decide (a = b))) w := vb_eql
theorem b_neq : Bin P K tg .neq t x y (.int k a) (.int k b) w = K (.bool (decide (¬ a = b))) w := vb_neq
theorem u_not {c : Bool} : VS P K tg (Op.unary .not (.bool c)) w = K (.bool (!c)) w := rfl
theorem u_neg : VS P K tg (Op.unary .neg (.int k a)) w = K (.int k (k.wrap (0 - a))) w := rfl
theorem len_slice {e ty : TypeId} {A : Option Addr} {n c : Nat} (h : P.underlying t = some (.slice e)) : Builtin' P K tg .len #[t] ty [.slice A n c] w = K (.int .i64 (n : Int)) w := v_len_slice h
theorem len_str {ty : TypeId} {l : List UInt8} (h : P.underlying t = some .string) : Builtin' P K tg .len #[t] ty [.string ⟨l.toArray⟩] w = K (.int .i64 (l.length : Int)) w := v_len_str h
end vals

/-- A call, by its body. -/
theorem body_of {P : Program} (hm : P.follows .mixedOrders = true) {f : FuncId} {fn : Func} {c : Code} {args : List Value} {rs : List ResultVar} {w : World} {R : Value → World → Prop}
    (hf : P.funcs[f]? = some fn) (hb : fn.body = some c) (hr : fn.results = rs.toArray) (n : Nat) (hn : max fn.ntmps args.length = n) (hok : okCode n c = true)
    (h : Acode P c (Ret P rs R .mk) .mk (argS args 0) w) : ACalls P f args.toArray w R := by
  refine call_of hm hf hb (n := n) (by simpa using hn) hok ?_
  rw [hr]
  exact h

end Go.Proofs.YtcmckbgiiclomaaGreatDoor.V
