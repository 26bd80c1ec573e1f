/- A small logic over the model's steps: the slots as a function, the operations by what they come to, one rule a construct; and that it holds of the machine. -/
import Derived.Calls
import Derived.Orders
import Derived.OrdersHeld
import Derived.Below
import Derived.KernelRfl
import Derived.Laws.World
import Derived.Laws.Sem
import Derived.Laws.Cells
import Derived.Deep.Draws
namespace Go.Proofs.YtcmckbgiiclomaaGreatDoor.V
open Go Go.RowKit

/-! ### slots -/
abbrev Sl := Nat → Value
def slotsOf (a : Act) : Sl := fun t => a.tmps.getD t undef
def ev (s : Sl) : Operand → Value
  | .tmp t => s t
  | .const v => v
  | .global g => .pointer (some ⟨g, 0, none⟩)
  | .func f => .func (.func f) #[] #[]
theorem ev_slotsOf (a : Act) : ev (slotsOf a) = a.eval := by funext x; cases x <;> rfl
def upd (s : Sl) (d : Nat) (v : Value) : Sl := fun t => if t = d then v else s t
def putS (s : Sl) (d : Option Tmp) (v : Value) : Sl := match d with | some d => upd s d v | none => s
def boolOf : Value → Option Bool
  | .bool b => some b
  | _ => none
def yl (ops : Array Oper) (s : Sl) (j : Nat) : Option Bool := ((ops[j]?).bind (·.dst)).bind fun d => boolOf (s d)

structure Agr (n : Nat) (a : Act) (s : Sl) : Prop where
  size : a.tmps.size = n
  slots : slotsOf a = s
  defers : a.defers = []

def dstOk (n : Nat) (o : Oper) : Bool := match o.dst with | some d => decide (d < n) | none => true

theorem Agr.put {n : Nat} {a : Act} {s : Sl} (h : Agr n a s) {o : Oper} (ho : dstOk n o = true) (v : Value) : Agr n (a.put o.dst v) (putS s o.dst v) := by
  unfold dstOk at ho
  cases hd : o.dst with
  | none => exact h
  | some d =>
    rw [hd] at ho
    have hlt : d < n := by simpa using ho
    refine ⟨by simp [Act.put, h.size], ?_, h.defers⟩
    funext t
    simp only [slotsOf, Act.put, putS, upd, ← h.slots]
    by_cases e : t = d
    · subst e; simp [h.size, hlt]
    · simp [e, Array.getD_eq_getD_getElem?, Ne.symm e]

theorem Agr.yielded {n : Nat} {a : Act} {s : Sl} (h : Agr n a s) (ops : Array Oper) (j : Nat) : Go.yielded ops a.tmps j = yl ops s j := by
  unfold Go.yielded yl
  cases hd : (ops[j]?).bind (·.dst) with
  | none => simp
  | some d =>
    simp only [Option.bind_some, ← h.slots, slotsOf, Array.getD_eq_getD_getElem?]
    cases a.tmps[d]? with
    | none => rfl
    | some v => cases v <;> rfl

/-! ### calls and operations -/
/-- A call returns, and what of it is known. -/
def ACalls (P : Program) (f : FuncId) (args : Array Value) (w : World) (R : Value → World → Prop) : Prop :=
  Calls P f args w fun e w' => ∃ v, e = .returned v ∧ R v w'
theorem ACalls.mono {P : Program} {f : FuncId} {args : Array Value} {w : World} {R R' : Value → World → Prop} (h : ACalls P f args w R) (hr : ∀ v w', R v w' → R' v w') : ACalls P f args w R' :=
  Calls.mono h fun _ _ ⟨v, he, hR⟩ => ⟨v, he, hr _ _ hR⟩

def aopR (P : Program) (K : Value → World → Prop) : Result Next → Prop
  | .ok (.value v) w' => K v w'
  | .ok .skip w' => K undef w'
  | .ok (.enter f args) w' => ACalls P f args w' K
  | _ => False
def aop (P : Program) (o : Oper) (s : Sl) (w : World) (K : Value → World → Prop) : Prop := aopR P K ((execOp (ev s) o).run P w)

theorem aopR.mono {P : Program} {K K' : Value → World → Prop} (hk : ∀ v w, K v w → K' v w) : ∀ {r : Result Next}, aopR P K r → aopR P K' r := by
  intro r h
  cases r with
  | halt x w => exact h.elim
  | ok n w =>
    cases n with
    | value v => exact hk _ _ h
    | skip => exact hk _ _ h
    | enter f args => exact ACalls.mono h hk
    | _ => exact h.elim

theorem aop_sound {P : Program} {n : Nat} {a : Act} {s : Sl} {o : Oper} {w : World} {K : Value → World → Prop} {next : Act → World → Prop} {Q : Exit → Act → World → Prop}
    (ha : Agr n a s) (hk : ∀ v w', K v w' → next (a.put o.dst v) w') (h : aop P o s w K) : o.wp P a w next Q := by
  unfold aop at h
  unfold Oper.wp
  rw [← ha.slots, ev_slotsOf] at h
  generalize (execOp a.eval o).run P w = r at *
  unfold aopR at h
  split at h
  · exact hk _ _ h
  · exact hk _ _ h
  · exact Calls.mono h fun e w'' ⟨v, he, hR⟩ => by subst he; exact hk _ _ hR
  · exact h.elim

/-! ### a region in the order of its text -/
def aops (P : Program) (ops : Array Oper) (K : Sl → World → Prop) : List Oper → Sl → World → Prop
  | [], s, w => K s w
  | o :: rest, s, w => if Region.wanted o (yl ops s) = true then aop P o s w (fun v w' => aops P ops K rest (putS s o.dst v) w') else aops P ops K rest (putS s o.dst undef) w

theorem wpOps_of {P : Program} {ops : Array Oper} {n : Nat} {K : Sl → World → Prop} {Q : Exit → Act → World → Prop} (hok : ops.all (dstOk n) = true)
    (hq : ∀ a s w, Agr n a s → K s w → Q .normal a w) :
    ∀ (l : List Oper) (k : Nat) (_ : ∀ j, l[j]? = ops[k + j]?) (a : Act) (s : Sl) (w : World), Agr n a s → aops P ops K l s w → wpOps P ops Q ((List.range l.length).map (k + ·)) a w := by
  intro l
  induction l with
  | nil => intro k _ a s w ha h; exact hq a s w ha h
  | cons o rest ih =>
    intro k hl a s w ha h
    have h0 : ops[k]? = some o := by have := hl 0; simpa using this.symm
    have hrest : ∀ j, rest[j]? = ops[k + 1 + j]? := fun j => by have := hl (j + 1); simpa [Nat.add_assoc, Nat.add_comm 1] using this
    have hd : dstOk n o = true := by
      have := Array.all_eq_true_iff_forall_mem.1 hok o (Array.mem_of_getElem? h0)
      exact this
    have hshape : (List.range (o :: rest).length).map (k + ·) = k :: (List.range rest.length).map (k + 1 + ·) := by
      simp only [List.length_cons, List.range_succ_eq_map, List.map_cons, List.map_map, Nat.add_zero, List.cons.injEq, true_and]
      apply List.map_congr_left
      intro x _
      simp only [Function.comp, Nat.succ_eq_add_one]; omega
    rw [hshape]
    simp only [wpOps, h0]
    have hy : yielded ops a.tmps = yl ops s := funext (ha.yielded ops)
    rw [hy]
    simp only [aops] at h
    split
    · rename_i hw
      rw [if_pos hw] at h
      exact .inl (aop_sound ha (fun v w' hv => ih (k + 1) hrest _ _ _ (ha.put hd v) hv) h)
    · rename_i hw
      rw [if_neg hw] at h
      exact ih (k + 1) hrest _ _ _ (ha.put hd undef) h

/-! ### a region whose order the tape picks -/
theorem wpAny_mono {P : Program} {md : Region.Mode} {ops : Array Oper} {Q Q' : Exit → Act → World → Prop} (hq : ∀ e a w, Q e a w → Q' e a w) :
    ∀ (fuel : Nat) (listed : Array Bool) (a : Act) (w : World), wpAny P md ops Q fuel listed a w → wpAny P md ops Q' fuel listed a w
  | 0, _, _, _, h => ⟨h.1, hq _ _ _ h.2⟩
  | fuel + 1, listed, a, w, h => by
    refine ⟨fun hr => hq _ _ _ (h.1 hr), fun i hi => ?_⟩
    have h1 := h.2 i hi
    unfold wpOp at h1 ⊢
    cases ho : ops[i]? with
    | none => rw [ho] at h1; exact wpAny_mono hq fuel _ _ _ h1
    | some o =>
      rw [ho] at h1
      simp only at h1 ⊢
      split
      · rename_i hw
        simp only [hw, if_true] at h1
        rcases h1 with h1 | ⟨h1, a0, w0, h2⟩
        · left
          unfold Oper.wp at h1 ⊢
          generalize (execOp a.eval o).run P w = r at *
          cases r with
          | ok nx w1 =>
            cases nx <;> simp only [Oper.upon] at h1 ⊢ <;>
              first
                | exact wpAny_mono hq fuel _ _ _ h1
                | exact Calls.mono h1 (fun e w2 he => by
                    cases e with
                    | returned v => exact wpAny_mono hq fuel _ _ _ he
                    | panicked c => exact hq _ _ _ he
                    | outgrown => obtain ⟨x, y, z⟩ := he; exact ⟨x, y, hq _ _ _ z⟩)
                | exact Rows.mono h1 (fun v w2 he => wpAny_mono hq fuel _ _ _ he)
          | halt x w1 => cases x <;> simp only [Oper.upon] at h1 ⊢ <;> exact hq _ _ _ h1
        · exact .inr ⟨h1, a0, w0, hq _ _ _ h2⟩
      · rename_i hw
        simp only [hw, Bool.false_eq_true, if_false] at h1
        exact wpAny_mono hq fuel _ _ _ h1

def postN (n : Nat) (K : Sl → World → Prop) : Exit → Act → World → Prop
  | .normal, a, w => ∃ s, Agr n a s ∧ K s w
  | _, _, _ => False
/-- What holds whatever order is picked from here on, 'S' being kept. -/
def adr (P : Program) (ops : Array Oper) (K : Sl → World → Prop) (S : World → Prop) (k : Nat) (listed : Array Bool) (s : Sl) (w : World) : Prop :=
  ∀ n a, Agr n a s → ops.all (dstOk n) = true → wpAnyH P .any ops (postN n K) S k listed a w

theorem adr_done {P : Program} {ops : Array Oper} {K : Sl → World → Prop} {S : World → Prop} {k : Nat} {listed : Array Bool} {s : Sl} {w : World}
    (hr : Region.ready .any ops listed = []) (h : K s w) : adr P ops K S k listed s w :=
  fun _ _ ha _ => wpAnyH_done hr ⟨s, ha, h⟩ k

/-- An operation that yields one value in every world that meets S may be taken first. -/
theorem adr_take {P : Program} {ops : Array Oper} {K : Sl → World → Prop} {S : World → Prop} {k : Nat} {listed : Array Bool} {s : Sl} {w : World} (i : Nat) {o : Oper} {v : Value}
    (hi : ops[i]? = some o) (hs : Region.noSelect ops = true) (hf : Region.free .any ops listed i = true) (hr : (Region.ready .any ops listed).contains i = true) (hS : S w)
    (hy : (Region.wanted o (yl ops s) = true ∧ ∀ w', S w' → (execOp (ev s) o).run P w' = .ok (.value v) w') ∨ (Region.wanted o (yl ops s) = false ∧ v = undef))
    (h : adr P ops K S k (listed.setIfInBounds i true) (putS s o.dst v) w) : adr P ops K S (k + 1) listed s w := by
  intro n a ha hok
  have hd : dstOk n o = true := Array.all_eq_true_iff_forall_mem.1 hok o (Array.mem_of_getElem? hi)
  have hyl : yielded ops a.tmps = yl ops s := funext (ha.yielded ops)
  refine wpAnyH_take hi hs hf hr (fun c a w hq => hq) ?_ hS (h n _ (ha.put hd v) hok)
  unfold YieldsIf
  rw [hyl, ← ev_slotsOf, ha.slots]
  exact hy

/-- One of the operations that may come up, carried out. -/
def aopI (P : Program) (ops : Array Oper) (i : Nat) (s : Sl) (w : World) (K : Sl → World → Prop) : Prop :=
  match ops[i]? with
  | some o => if Region.wanted o (yl ops s) = true then aop P o s w (fun v w' => K (putS s o.dst v) w') else K (putS s o.dst undef) w
  | none => False

theorem adr_all {P : Program} {ops : Array Oper} {K : Sl → World → Prop} {S : World → Prop} {k : Nat} {listed : Array Bool} {s : Sl} {w : World} (rs : List Nat)
    (hr : Region.ready .any ops listed = rs) (hne : rs ≠ []) (h : ∀ i ∈ rs, aopI P ops i s w fun s' w' => S w' ∧ adr P ops K S k (listed.setIfInBounds i true) s' w') :
    adr P ops K S (k + 1) listed s w := by
  intro n a ha hok
  refine wpAnyH_all hr hne fun i hi => ?_
  have hi' := h i hi
  unfold aopI at hi'
  unfold wpOp
  cases ho : ops[i]? with
  | none => rw [ho] at hi'; exact hi'.elim
  | some o =>
    rw [ho] at hi'
    have hd : dstOk n o = true := Array.all_eq_true_iff_forall_mem.1 hok o (Array.mem_of_getElem? ho)
    have hyl : yielded ops a.tmps = yl ops s := funext (ha.yielded ops)
    simp only [hyl]
    split
    · rename_i hw
      simp only [hw, if_true] at hi'
      exact .inl (aop_sound ha (fun v w' hv => ⟨hv.1, hv.2 n _ (ha.put hd v) hok⟩) hi')
    · rename_i hw
      simp only [hw, Bool.false_eq_true, if_false] at hi'
      exact ⟨hi'.1, hi'.2 n _ (ha.put hd undef) hok⟩

/-- The whole region: in whatever world that differs from this one by a draw alone. -/
def adraw (P : Program) (ops : Array Oper) (K : Sl → World → Prop) (s : Sl) (w : World) : Prop :=
  ∀ n a, Agr n a s → ops.all (dstOk n) = true → wpAny P .any ops (postN n K) ops.size (Array.replicate ops.size false) a w.drew
theorem adraw_of {P : Program} {ops : Array Oper} {K : Sl → World → Prop} {s : Sl} {w : World} (S : World → Prop) (h : adr P ops K S ops.size (Array.replicate ops.size false) s w.drew) : adraw P ops K s w :=
  fun n a ha hok => wpAny_of_held _ _ _ _ (h n a ha hok)

/-! ### code -/
inductive AX where
  | normal
  | exit (id : Nat)
  | ret
def thenQ (K : Sl → World → Prop) (Q : AX → Sl → World → Prop) : AX → Sl → World → Prop
  | .normal => K
  | .exit i => Q (.exit i)
  | .ret => Q .ret
def blockQ (id : Nat) (Q : AX → Sl → World → Prop) : AX → Sl → World → Prop
  | .normal => Q .normal
  | .exit j => if j = id then Q .normal else Q (.exit j)
  | .ret => Q .ret

def acode (P : Program) : Code → (AX → Sl → World → Prop) → Sl → World → Prop
  | .skip, Q, s, w => Q .normal s w
  | .region _ ops draw, Q, s, w => match draw with
    | false => aops P ops (Q .normal) ops.toList s w
    | true => adraw P ops (Q .normal) s w
  | .seq a b, Q, s, w => acode P a (thenQ (acode P b Q) Q) s w
  | .cond c t e, Q, s, w => ∃ b, ev s c = .bool b ∧ (if b = true then acode P t Q s w else acode P e Q s w)
  | .block id b, Q, s, w => acode P b (blockQ id Q) s w
  | .loop b, Q, s, w => ∃ (I : Sl → World → Prop) (m : Sl → World → Nat), I s w ∧ ∀ s w, I s w → acode P b (thenQ (fun s' w' => I s' w' ∧ m s' w' < m s w) Q) s w
  | .exit id, Q, s, w => Q (.exit id) s w
  | .ret, Q, s, w => Q .ret s w
  | _, _, _, _ => False

theorem aop_mono {P : Program} {o : Oper} {s : Sl} {w : World} {K K' : Value → World → Prop} (h : aop P o s w K) (hk : ∀ v w, K v w → K' v w) : aop P o s w K' := aopR.mono hk h
theorem aops_mono {P : Program} {ops : Array Oper} {K K' : Sl → World → Prop} (hk : ∀ s w, K s w → K' s w) : ∀ (l : List Oper) (s : Sl) (w : World), aops P ops K l s w → aops P ops K' l s w
  | [], s, w, h => hk s w h
  | o :: rest, s, w, h => by
    simp only [aops] at h ⊢
    split
    · rename_i hw
      rw [if_pos hw] at h
      exact aop_mono h fun v w' hv => aops_mono hk rest _ _ hv
    · rename_i hw
      rw [if_neg hw] at h
      exact aops_mono hk rest _ _ h
theorem acode_mono {P : Program} : ∀ {Q Q' : AX → Sl → World → Prop} (_ : ∀ e s w, Q e s w → Q' e s w) (c : Code) (s : Sl) (w : World), acode P c Q s w → acode P c Q' s w
  | Q, Q', hq, .skip, s, w, h => hq _ _ _ h
  | Q, Q', hq, .region id ops false, s, w, h => aops_mono (hq .normal) _ _ _ h
  | Q, Q', hq, .region id ops true, s, w, h => by
    refine fun n a ha hok => wpAny_mono (fun e a w he => ?_) _ _ _ _ (h n a ha hok)
    cases e with
    | normal => obtain ⟨s, ha, hk⟩ := he; exact ⟨s, ha, hq _ _ _ hk⟩
    | _ => exact he.elim
  | Q, Q', hq, .seq a b, s, w, h => acode_mono (fun e s w he => by
      cases e with
      | normal => exact acode_mono hq b s w he
      | exit i => exact hq _ _ _ he
      | ret => exact hq _ _ _ he) a s w h
  | Q, Q', hq, .cond c a b, s, w, h => by
    obtain ⟨y, hy, h⟩ := h
    refine ⟨y, hy, ?_⟩
    cases y with
    | true => exact acode_mono hq a s w h
    | false => exact acode_mono hq b s w h
  | Q, Q', hq, .block id b, s, w, h => acode_mono (fun e s w he => by
      cases e with
      | normal => exact hq _ _ _ he
      | exit j =>
        simp only [blockQ] at he ⊢
        split
        · rename_i hj; rw [if_pos hj] at he; exact hq _ _ _ he
        · rename_i hj; rw [if_neg hj] at he; exact hq _ _ _ he
      | ret => exact hq _ _ _ he) b s w h
  | Q, Q', hq, .loop b, s, w, h => by
    obtain ⟨I, m, h0, hr⟩ := h
    refine ⟨I, m, h0, fun s w hI => acode_mono (fun e s w he => ?_) b s w (hr s w hI)⟩
    cases e with
    | normal => exact he
    | exit i => exact hq _ _ _ he
    | ret => exact hq _ _ _ he
  | Q, Q', hq, .exit id, s, w, h => hq _ _ _ h
  | Q, Q', hq, .ret, s, w, h => hq _ _ _ h
  | _, _, _, .rangeFunc .., _, _, h => h.elim
  | _, _, _, .scope _, _, _, h => h.elim
  | _, _, _, .label _, _, _, h => h.elim
  | _, _, _, .goto _, _, _, h => h.elim
  | _, _, _, .refuse _, _, _, h => h.elim

def okCode (n : Nat) : Code → Bool
  | .region _ ops _ => ops.all (dstOk n)
  | .seq a b => okCode n a && okCode n b
  | .cond _ t e => okCode n t && okCode n e
  | .block _ b => okCode n b
  | .loop b => okCode n b
  | _ => true

def realQ (n : Nat) (Q : AX → Sl → World → Prop) : Exit → Act → World → Prop
  | .normal, a, w => ∃ s, Agr n a s ∧ Q .normal s w
  | .exit id, a, w => ∃ s, Agr n a s ∧ Q (.exit id) s w
  | .ret, a, w => ∃ s, Agr n a s ∧ Q .ret s w
  | _, _, _ => False

theorem acode_sound {P : Program} {n : Nat} (hm : P.follows .mixedOrders = true) : ∀ (c : Code) (Q : AX → Sl → World → Prop), okCode n c = true → ∀ (a : Act) (s : Sl) (w : World), Agr n a s → acode P c Q s w → c.wp P (realQ n Q) a w
  | .skip, Q, _, a, s, w, ha, h => wp_skip ⟨s, ha, h⟩
  | .region id ops false, Q, hok, a, s, w, ha, h => by
    refine wp_region ?_
    have := wpOps_of (Q := realQ n Q) (by simpa [okCode] using hok) (fun a s w ha hk => ⟨s, ha, hk⟩) ops.toList 0 (fun j => by simp) a s w ha h
    simpa using this
  | .region id ops true, Q, hok, a, s, w, ha, h => by
    refine wp_region_any hm ?_
    have h1 := h n a ha (by simpa [okCode] using hok)
    exact wpAny_mono (fun e a w he => by cases e <;> first | exact he | exact he.elim) _ _ _ _ h1
  | .seq x y, Q, hok, a, s, w, ha, h => by
    simp only [okCode, Bool.and_eq_true] at hok
    refine wp_seq (wp_mono (acode_sound hm x _ hok.1 a s w ha h) ?_)
    intro e a' w' he
    cases e with
    | normal => obtain ⟨s', ha', hq⟩ := he; exact acode_sound hm y Q hok.2 a' s' w' ha' hq
    | exit id => exact he
    | ret => exact he
    | goto l => exact he.elim
    | panic c => exact he.elim
    | outgrown => exact he.elim
  | .cond c t e, Q, hok, a, s, w, ha, h => by
    simp only [okCode, Bool.and_eq_true] at hok
    obtain ⟨b, hb, h⟩ := h
    have hb' : a.eval c = .bool b := by rw [← ev_slotsOf, ha.slots]; exact hb
    refine wp_cond hb' ?_
    cases b with
    | true => exact acode_sound hm t Q hok.1 a s w ha h
    | false => exact acode_sound hm e Q hok.2 a s w ha h
  | .block id b, Q, hok, a, s, w, ha, h => by
    refine wp_block (wp_mono (acode_sound hm b _ (by simpa [okCode] using hok) a s w ha h) ?_)
    intro e a' w' he
    cases e with
    | normal => exact he
    | exit j =>
      obtain ⟨s', ha', hq⟩ := he
      simp only [blockQ] at hq
      simp only [Exit.inBlock]
      split
      · rename_i hj; rw [if_pos hj] at hq; exact ⟨s', ha', hq⟩
      · rename_i hj; rw [if_neg hj] at hq; exact ⟨s', ha', hq⟩
    | ret => exact he
    | goto l => exact he.elim
    | panic c => exact he.elim
    | outgrown => exact he.elim
  | .loop b, Q, hok, a, s, w, ha, h => by
    obtain ⟨I, m, h0, hr⟩ := h
    refine wp_loop (fun a w => ∃ s, Agr n a s ∧ I s w) (fun a w => m (slotsOf a) w) ⟨s, ha, h0⟩ ?_
    rintro a w ⟨s, ha, hI⟩
    refine wp_mono (acode_sound hm b _ (by simpa [okCode] using hok) a s w ha (hr s w hI)) ?_
    intro e a' w' he
    cases e with
    | normal =>
      obtain ⟨s', ha', hq⟩ := he
      refine ⟨⟨s', ha', hq.1⟩, ?_⟩
      rw [ha'.slots, ha.slots]
      exact hq.2
    | exit j => exact he
    | ret => exact he
    | goto l => exact he.elim
    | panic c => exact he.elim
    | outgrown => exact he.elim
  | .exit id, Q, _, a, s, w, ha, h => wp_exit ⟨s, ha, h⟩
  | .ret, Q, _, a, s, w, ha, h => wp_ret ⟨s, ha, h⟩
  | .rangeFunc .., _, _, _, _, _, _, h => h.elim
  | .scope _, _, _, _, _, _, _, h => h.elim
  | .label _, _, _, _, _, _, _, h => h.elim
  | .goto _, _, _, _, _, _, _, h => h.elim
  | .refuse _, _, _, _, _, _, _, h => h.elim

/-! ### a function's body -/
def resOf (P : Program) (s : Sl) (w : World) : List ResultVar → (List Value → Prop) → Prop
  | [], K => K []
  | .tmp t :: rs, K => resOf P s w rs fun vs => K (s t :: vs)
  | .cell a t :: rs, K => ∃ ad v, s a = .pointer (some ad) ∧ (loadVar t ad).run P w = .ok v w ∧ resOf P s w rs fun vs => K (v :: vs)
def oneOf (vs : List Value) : Value := match vs with | [v] => v | vs => .tuple vs.toArray
def retQ (P : Program) (rs : List ResultVar) (R : Value → World → Prop) : AX → Sl → World → Prop
  | .exit _, _, _ => False
  | _, s, w => resOf P s w rs fun vs => R (oneOf vs) w

def resS (f : Nat → Value) : ResultVar → Sem Value
  | .tmp t => pure (f t)
  | .cell c t => do loadVar t (← asAddr (f c))
theorem resS_cell {P : Program} {f : Nat → Value} {c : Tmp} {t : TypeId} {ad : Addr} {w w' : World} {v : Value} (h : f c = .pointer (some ad)) (hl : (loadVar t ad).run P w = .ok v w') : (resS f (.cell c t)).run P w = .ok v w' := by
  show (do loadVar t (← asAddr (f c))).run P w = _
  rw [h]
  exact hl
theorem resOf_run {P : Program} {s : Sl} {w : World} : ∀ (rs : List ResultVar) (K : List Value → Prop), resOf P s w rs K → ∃ vs, (rs.mapM (resS s)).run P w = .ok vs w ∧ K vs
  | [], K, h => ⟨[], rfl, h⟩
  | .tmp t :: rs, K, h => by
    obtain ⟨vs, h1, h2⟩ := resOf_run rs _ h
    refine ⟨_, ?_, h2⟩
    rw [List.mapM_cons]
    have h0 : (resS s (.tmp t)).run P w = .ok (s t) w := rfl
    simp only [Sem.run_bind, h0, Result.andThen_ok, h1, Sem.run_pure]
  | .cell c t :: rs, K, h => by
    obtain ⟨ad, v, hs, hl, h⟩ := h
    obtain ⟨vs, h1, h2⟩ := resOf_run rs _ h
    refine ⟨_, ?_, h2⟩
    rw [List.mapM_cons]
    have h0 := resS_cell hs hl
    simp only [Sem.run_bind, h0, Result.andThen_ok, h1, Sem.run_pure]

/-- The slots when a body begins. -/
def argS : List Value → Nat → Sl
  | [], _ => fun _ => undef
  | v :: vs, k => upd (argS vs (k + 1)) k v
theorem argS_nil {k : Nat} : argS [] k = fun _ => undef := rfl
theorem argS_cons {v : Value} {vs : List Value} {k : Nat} : argS (v :: vs) k = upd (argS vs (k + 1)) k v := rfl
theorem argS_get : ∀ (vs : List Value) (k t : Nat), argS vs k (k + t) = vs.getD t undef
  | [], _, _ => by simp [argS]
  | v :: vs, k, 0 => by simp [argS, upd]
  | v :: vs, k, t + 1 => by
    have h := argS_get vs (k + 1) t
    simp only [argS, upd]
    rw [if_neg (by omega), show k + (t + 1) = k + 1 + t by omega, h]
    simp

/-- A call, by its body. -/
theorem call_of {P : Program} (hm : P.follows .mixedOrders = true) {f : FuncId} {fn : Func} {c : Code} {args : Array Value} {w : World} {R : Value → World → Prop}
    (hf : P.funcs[f]? = some fn) (hb : fn.body = some c) {n : Nat} (hn : max fn.ntmps args.size = n) (hok : okCode n c = true)
    (h : acode P c (retQ P fn.results.toList R) (argS args.toList 0) w) : ACalls P f args w R := by
  have hs : argS args.toList 0 = fun t => args.getD t undef := by
    funext t
    have := argS_get args.toList 0 t
    rw [Nat.zero_add] at this
    rw [this]; simp
  rw [hs] at h
  unfold ACalls
  refine calls_of_wp hf hb (wp_mono (acode_sound hm c _ hok _ _ w ?_ h) ?_)
  · refine ⟨by simp; omega, ?_, rfl⟩
    funext t
    simp only [slotsOf, Array.getD_eq_getD_getElem?, Array.getElem?_append, Array.getElem?_replicate]
    by_cases h1 : t < args.size
    · simp [h1]
    · simp only [h1, if_false, Array.getElem?_eq_none (Nat.le_of_not_lt h1), Option.getD_none]
      split <;> rfl
  · have fin : ∀ a s w', Agr n a s → (resOf P s w' fn.results.toList fun vs => R (oneOf vs) w') → a.defers = [] ∧ ∃ v, (results fn a.tmps).run P w' = .ok v w' ∧ ∃ v', Ending.returned v = .returned v' ∧ R v' w' := by
      intro a s w' ha hr
      obtain ⟨vs, h1, h2⟩ := resOf_run _ _ hr
      refine ⟨ha.defers, oneOf vs, ?_, _, rfl, h2⟩
      have e1 : results fn a.tmps = (do let vs ← fn.results.mapM (resS s); pure (if h : vs.size = 1 then vs[0] else .tuple vs)) := by
        unfold results
        congr 1
        congr 1
        funext x
        rw [← ha.slots]
        cases x <;> rfl
      have e2 := List.mapM_toArray (m := Sem) (f := resS s) (l := fn.results.toList)
      rw [Array.toArray_toList] at e2
      rw [e1, e2]
      simp only [Sem.run_bind, Sem.run_map, h1, Result.andThen_ok, Sem.run_pure]
      congr 1
      cases vs with
      | nil => rfl
      | cons v vs => cases vs <;> rfl
    intro e a w' he
    cases e with
    | normal => obtain ⟨s, ha, hq⟩ := he; exact fin a s w' ha hq
    | ret => obtain ⟨s, ha, hq⟩ := he; exact fin a s w' ha hq
    | exit id => obtain ⟨s, ha, hq⟩ := he; exact hq.elim
    | goto l => exact he.elim
    | panic c => exact he.elim
    | outgrown => exact he.elim

end Go.Proofs.YtcmckbgiiclomaaGreatDoor.V
