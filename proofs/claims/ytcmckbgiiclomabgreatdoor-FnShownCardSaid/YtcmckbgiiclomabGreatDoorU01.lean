/- Texts laid by programs, part 1. -/
import Derived.Calls
import Derived.Orders
import Derived.OrdersHeld
import Derived.Below
import Derived.KernelRfl
import Derived.Laws.World
import Derived.Laws.Sem
import Derived.Laws.Cells
import Derived.Deep.Draws
import Derived.Laws.AppendOwn
import Derived.Laws.OwnMore
import Derived.Laws.MakeOwn
import Derived.Laws.BytesArg
import Derived.Laws.IdiomStrings
import Derived.Laws.CopyOwn
import Derived.Laws.Slices
import Derived.Tactics
namespace Go.Proofs.YtcmckbgiiclomabGreatDoor.V
open Go Go.RowKit
set_option linter.unusedSimpArgs false
set_option linter.unusedVariables false
set_option pp.deepTerms false
set_option pp.deepTerms.threshold 3
abbrev Sl := Nat → Value
def slotsOf (a : Act) : Sl := fun t => a.tmps.getD t undef
def ev (s : Sl) : Operand → Value
  | .tmp t => s t
  | .const v => v
  | .global g => .pointer (some ⟨g, 0, none⟩)
  | .func f => .func (.func f) #[] #[]
theorem ev_slotsOf (a : Act) : ev (slotsOf a) = a.eval := by funext x; cases x <;> rfl
def upd (s : Sl) (d : Nat) (v : Value) : Sl := fun t => if t = d then v else s t
def putS (s : Sl) (d : Option Tmp) (v : Value) : Sl := match d with | some d => upd s d v | none => s
def boolOf : Value → Option Bool
  | .bool b => some b
  | _ => none
def yl (ops : Array Oper) (s : Sl) (j : Nat) : Option Bool := ((ops[j]?).bind (·.dst)).bind fun d => boolOf (s d)
structure Agr (n : Nat) (a : Act) (s : Sl) : Prop where
  size : a.tmps.size = n
  slots : slotsOf a = s
  defers : a.defers = []
def dstOk (n : Nat) (o : Oper) : Bool := match o.dst with | some d => decide (d < n) | none => true
theorem Agr.put {n : Nat} {a : Act} {s : Sl} (h : Agr n a s) {o : Oper} (ho : dstOk n o = true) (v : Value) : Agr n (a.put o.dst v) (putS s o.dst v) := by
  unfold dstOk at ho
  cases hd : o.dst with
  | none => exact h
  | some d =>
    rw [hd] at ho; have hlt : d < n := by simpa using ho
    refine ⟨by simp [Act.put, h.size], ?_, h.defers⟩
    funext t
    simp only [slotsOf, Act.put, putS, upd, ← h.slots]
    by_cases e : t = d
    · subst e; simp [h.size, hlt]
    · simp [e, Array.getD_eq_getD_getElem?, Ne.symm e]
theorem Agr.yielded {n : Nat} {a : Act} {s : Sl} (h : Agr n a s) (ops : Array Oper) (j : Nat) : Go.yielded ops a.tmps j = yl ops s j := by
  unfold Go.yielded yl
  cases hd : (ops[j]?).bind (·.dst) with
  | none => simp
  | some d =>
    simp only [Option.bind_some, ← h.slots, slotsOf, Array.getD_eq_getD_getElem?]
    cases a.tmps[d]? with
    | none => rfl
    | some v => cases v <;> rfl
def ACalls (P : Program) (f : FuncId) (args : Array Value) (w : World) (R : Value → World → Prop) : Prop :=
  Calls P f args w fun e w' => ∃ v, e = .returned v ∧ R v w'
theorem ACalls.mono {P : Program} {f : FuncId} {args : Array Value} {w : World} {R R' : Value → World → Prop} (h : ACalls P f args w R) (hr : ∀ v w', R v w' → R' v w') : ACalls P f args w R' :=
  Calls.mono h fun _ _ ⟨v, he, hR⟩ => ⟨v, he, hr _ _ hR⟩
def aopR (P : Program) (K : Value → World → Prop) : Result Next → Prop
  | .ok (.value v) w' => K v w'
  | .ok .skip w' => K undef w'
  | .ok (.enter f args) w' => ACalls P f args w' K
  | _ => False
def aop (P : Program) (o : Oper) (s : Sl) (w : World) (K : Value → World → Prop) : Prop := aopR P K ((execOp (ev s) o).run P w)
theorem aopR.mono {P : Program} {K K' : Value → World → Prop} (hk : ∀ v w, K v w → K' v w) : ∀ {r : Result Next}, aopR P K r → aopR P K' r := by
  intro r h
  cases r with
  | halt x w => exact h.elim
  | ok n w =>
    cases n with
    | value v => exact hk _ _ h
    | skip => exact hk _ _ h
    | enter f args => exact ACalls.mono h hk
    | _ => exact h.elim
theorem aop_sound {P : Program} {n : Nat} {a : Act} {s : Sl} {o : Oper} {w : World} {K : Value → World → Prop} {next : Act → World → Prop} {Q : Exit → Act → World → Prop}
    (ha : Agr n a s) (hk : ∀ v w', K v w' → next (a.put o.dst v) w') (h : aop P o s w K) : o.wp P a w next Q := by
  unfold aop at h; unfold Oper.wp; rw [← ha.slots, ev_slotsOf] at h; generalize (execOp a.eval o).run P w = r at *; unfold aopR at h
  split at h
  · exact hk _ _ h
  · exact hk _ _ h
  · exact Calls.mono h fun e w'' ⟨v, he, hR⟩ => by subst he; exact hk _ _ hR
  · exact h.elim
def aops (P : Program) (ops : Array Oper) (K : Sl → World → Prop) : List Oper → Sl → World → Prop
  | [], s, w => K s w
  | o :: rest, s, w => if Region.wanted o (yl ops s) = true then aop P o s w (fun v w' => aops P ops K rest (putS s o.dst v) w') else aops P ops K rest (putS s o.dst undef) w
theorem wpOps_of {P : Program} {ops : Array Oper} {n : Nat} {K : Sl → World → Prop} {Q : Exit → Act → World → Prop} (hok : ops.all (dstOk n) = true)
    (hq : ∀ a s w, Agr n a s → K s w → Q .normal a w) :
    ∀ (l : List Oper) (k : Nat) (_ : ∀ j, l[j]? = ops[k + j]?) (a : Act) (s : Sl) (w : World), Agr n a s → aops P ops K l s w → wpOps P ops Q ((List.range l.length).map (k + ·)) a w := by
  intro l
  induction l with
  | nil => intro k _ a s w ha h; exact hq a s w ha h
  | cons o rest ih =>
    intro k hl a s w ha h; have h0 : ops[k]? = some o := by have := hl 0; simpa using this.symm
    have hrest : ∀ j, rest[j]? = ops[k + 1 + j]? := fun j => by have := hl (j + 1); simpa [Nat.add_assoc, Nat.add_comm 1] using this
    have hd : dstOk n o = true := by
      have := Array.all_eq_true_iff_forall_mem.1 hok o (Array.mem_of_getElem? h0); exact this
    have hshape : (List.range (o :: rest).length).map (k + ·) = k :: (List.range rest.length).map (k + 1 + ·) := by
      simp only [List.length_cons, List.range_succ_eq_map, List.map_cons, List.map_map, Nat.add_zero, List.cons.injEq, true_and]
      apply List.map_congr_left
      intro x _; simp only [Function.comp, Nat.succ_eq_add_one]; omega
    rw [hshape]; simp only [wpOps, h0]; have hy : yielded ops a.tmps = yl ops s := funext (ha.yielded ops); rw [hy]; simp only [aops] at h
    split
    · rename_i hw
      rw [if_pos hw] at h; exact .inl (aop_sound ha (fun v w' hv => ih (k + 1) hrest _ _ _ (ha.put hd v) hv) h)
    · rename_i hw
      rw [if_neg hw] at h; exact ih (k + 1) hrest _ _ _ (ha.put hd undef) h
theorem wpAny_mono {P : Program} {md : Region.Mode} {ops : Array Oper} {Q Q' : Exit → Act → World → Prop} (hq : ∀ e a w, Q e a w → Q' e a w) :
    ∀ (fuel : Nat) (listed : Array Bool) (a : Act) (w : World), wpAny P md ops Q fuel listed a w → wpAny P md ops Q' fuel listed a w
  | 0, _, _, _, h => ⟨h.1, hq _ _ _ h.2⟩
  | fuel + 1, listed, a, w, h => by
    refine ⟨fun hr => hq _ _ _ (h.1 hr), fun i hi => ?_⟩; have h1 := h.2 i hi; unfold wpOp at h1 ⊢
    cases ho : ops[i]? with
    | none => rw [ho] at h1; exact wpAny_mono hq fuel _ _ _ h1
    | some o =>
      rw [ho] at h1; simp only at h1 ⊢
      split
      · rename_i hw
        simp only [hw, if_true] at h1
        rcases h1 with h1 | ⟨h1, a0, w0, h2⟩
        · left
          unfold Oper.wp at h1 ⊢; generalize (execOp a.eval o).run P w = r at *
          cases r with
          | ok nx w1 =>
            cases nx <;> simp only [Oper.upon] at h1 ⊢ <;>
              first
                | exact wpAny_mono hq fuel _ _ _ h1
                | exact Calls.mono h1 (fun e w2 he => by
                    cases e with
                    | returned v => exact wpAny_mono hq fuel _ _ _ he
                    | panicked c => exact hq _ _ _ he
                    | outgrown => obtain ⟨x, y, z⟩ := he; exact ⟨x, y, hq _ _ _ z⟩)
                | exact Rows.mono h1 (fun v w2 he => wpAny_mono hq fuel _ _ _ he)
          | halt x w1 => cases x <;> simp only [Oper.upon] at h1 ⊢ <;> exact hq _ _ _ h1
        · exact .inr ⟨h1, a0, w0, hq _ _ _ h2⟩
      · rename_i hw
        simp only [hw, Bool.false_eq_true, if_false] at h1; exact wpAny_mono hq fuel _ _ _ h1
def postN (n : Nat) (K : Sl → World → Prop) : Exit → Act → World → Prop
  | .normal, a, w => ∃ s, Agr n a s ∧ K s w
  | _, _, _ => False
def adr (P : Program) (ops : Array Oper) (K : Sl → World → Prop) (S : World → Prop) (k : Nat) (listed : Array Bool) (s : Sl) (w : World) : Prop :=
  ∀ n a, Agr n a s → ops.all (dstOk n) = true → wpAnyH P .any ops (postN n K) S k listed a w
theorem adr_done {P : Program} {ops : Array Oper} {K : Sl → World → Prop} {S : World → Prop} {k : Nat} {listed : Array Bool} {s : Sl} {w : World}
    (hr : Region.ready .any ops listed = []) (h : K s w) : adr P ops K S k listed s w :=
  fun _ _ ha _ => wpAnyH_done hr ⟨s, ha, h⟩ k
theorem adr_take {P : Program} {ops : Array Oper} {K : Sl → World → Prop} {S : World → Prop} {k : Nat} {listed : Array Bool} {s : Sl} {w : World} (i : Nat) {o : Oper} {v : Value}
    (hi : ops[i]? = some o) (hs : Region.noSelect ops = true) (hf : Region.free .any ops listed i = true) (hr : (Region.ready .any ops listed).contains i = true) (hS : S w)
    (hy : (Region.wanted o (yl ops s) = true ∧ ∀ w', S w' → (execOp (ev s) o).run P w' = .ok (.value v) w') ∨ (Region.wanted o (yl ops s) = false ∧ v = undef))
    (h : adr P ops K S k (listed.setIfInBounds i true) (putS s o.dst v) w) : adr P ops K S (k + 1) listed s w := by
  intro n a ha hok; have hd : dstOk n o = true := Array.all_eq_true_iff_forall_mem.1 hok o (Array.mem_of_getElem? hi); have hyl : yielded ops a.tmps = yl ops s := funext (ha.yielded ops); refine wpAnyH_take hi hs hf hr (fun c a w hq => hq) ?_ hS (h n _ (ha.put hd v) hok); unfold YieldsIf; rw [hyl, ← ev_slotsOf, ha.slots]; exact hy
def aopI (P : Program) (ops : Array Oper) (i : Nat) (s : Sl) (w : World) (K : Sl → World → Prop) : Prop :=
  match ops[i]? with
  | some o => if Region.wanted o (yl ops s) = true then aop P o s w (fun v w' => K (putS s o.dst v) w') else K (putS s o.dst undef) w
  | none => False
theorem adr_all {P : Program} {ops : Array Oper} {K : Sl → World → Prop} {S : World → Prop} {k : Nat} {listed : Array Bool} {s : Sl} {w : World} (rs : List Nat)
    (hr : Region.ready .any ops listed = rs) (hne : rs ≠ []) (h : ∀ i ∈ rs, aopI P ops i s w fun s' w' => S w' ∧ adr P ops K S k (listed.setIfInBounds i true) s' w') :
    adr P ops K S (k + 1) listed s w := by
  intro n a ha hok; refine wpAnyH_all hr hne fun i hi => ?_; have hi' := h i hi; unfold aopI at hi'; unfold wpOp
  cases ho : ops[i]? with
  | none => rw [ho] at hi'; exact hi'.elim
  | some o =>
    rw [ho] at hi'; have hd : dstOk n o = true := Array.all_eq_true_iff_forall_mem.1 hok o (Array.mem_of_getElem? ho); have hyl : yielded ops a.tmps = yl ops s := funext (ha.yielded ops); simp only [hyl]
    split
    · rename_i hw
      simp only [hw, if_true] at hi'; exact .inl (aop_sound ha (fun v w' hv => ⟨hv.1, hv.2 n _ (ha.put hd v) hok⟩) hi')
    · rename_i hw
      simp only [hw, Bool.false_eq_true, if_false] at hi'; exact ⟨hi'.1, hi'.2 n _ (ha.put hd undef) hok⟩
def adraw (P : Program) (ops : Array Oper) (K : Sl → World → Prop) (s : Sl) (w : World) : Prop :=
  ∀ n a, Agr n a s → ops.all (dstOk n) = true → wpAny P .any ops (postN n K) ops.size (Array.replicate ops.size false) a w.drew
theorem adraw_of {P : Program} {ops : Array Oper} {K : Sl → World → Prop} {s : Sl} {w : World} (S : World → Prop) (h : adr P ops K S ops.size (Array.replicate ops.size false) s w.drew) : adraw P ops K s w :=
  fun n a ha hok => wpAny_of_held _ _ _ _ (h n a ha hok)
inductive AX where
  | normal
  | exit (id : Nat)
  | ret
def thenQ (K : Sl → World → Prop) (Q : AX → Sl → World → Prop) : AX → Sl → World → Prop
  | .normal => K
  | .exit i => Q (.exit i)
  | .ret => Q .ret
def blockQ (id : Nat) (Q : AX → Sl → World → Prop) : AX → Sl → World → Prop
  | .normal => Q .normal
  | .exit j => if j = id then Q .normal else Q (.exit j)
  | .ret => Q .ret
def acode (P : Program) : Code → (AX → Sl → World → Prop) → Sl → World → Prop
  | .skip, Q, s, w => Q .normal s w
  | .region _ ops draw, Q, s, w => match draw with
    | false => aops P ops (Q .normal) ops.toList s w
    | true => adraw P ops (Q .normal) s w
  | .seq a b, Q, s, w => acode P a (thenQ (acode P b Q) Q) s w
  | .cond c t e, Q, s, w => ∃ b, ev s c = .bool b ∧ (if b = true then acode P t Q s w else acode P e Q s w)
  | .block id b, Q, s, w => acode P b (blockQ id Q) s w
  | .loop b, Q, s, w => ∃ (I : Sl → World → Prop) (m : Sl → World → Nat), I s w ∧ ∀ s w, I s w → acode P b (thenQ (fun s' w' => I s' w' ∧ m s' w' < m s w) Q) s w
  | .exit id, Q, s, w => Q (.exit id) s w
  | .ret, Q, s, w => Q .ret s w
  | _, _, _, _ => False
theorem aop_mono {P : Program} {o : Oper} {s : Sl} {w : World} {K K' : Value → World → Prop} (h : aop P o s w K) (hk : ∀ v w, K v w → K' v w) : aop P o s w K' := aopR.mono hk h
theorem aops_mono {P : Program} {ops : Array Oper} {K K' : Sl → World → Prop} (hk : ∀ s w, K s w → K' s w) : ∀ (l : List Oper) (s : Sl) (w : World), aops P ops K l s w → aops P ops K' l s w
  | [], s, w, h => hk s w h
  | o :: rest, s, w, h => by
    simp only [aops] at h ⊢
    split
    · rename_i hw
      rw [if_pos hw] at h; exact aop_mono h fun v w' hv => aops_mono hk rest _ _ hv
    · rename_i hw
      rw [if_neg hw] at h; exact aops_mono hk rest _ _ h
theorem acode_mono {P : Program} : ∀ {Q Q' : AX → Sl → World → Prop} (_ : ∀ e s w, Q e s w → Q' e s w) (c : Code) (s : Sl) (w : World), acode P c Q s w → acode P c Q' s w
  | Q, Q', hq, .skip, s, w, h => hq _ _ _ h
  | Q, Q', hq, .region id ops false, s, w, h => aops_mono (hq .normal) _ _ _ h
  | Q, Q', hq, .region id ops true, s, w, h => by
    refine fun n a ha hok => wpAny_mono (fun e a w he => ?_) _ _ _ _ (h n a ha hok)
    cases e with
    | normal => obtain ⟨s, ha, hk⟩ := he; exact ⟨s, ha, hq _ _ _ hk⟩
    | _ => exact he.elim
  | Q, Q', hq, .seq a b, s, w, h => acode_mono (fun e s w he => by
      cases e with
      | normal => exact acode_mono hq b s w he
      | exit i => exact hq _ _ _ he
      | ret => exact hq _ _ _ he) a s w h
  | Q, Q', hq, .cond c a b, s, w, h => by
    obtain ⟨y, hy, h⟩ := h; refine ⟨y, hy, ?_⟩
    cases y with
    | true => exact acode_mono hq a s w h
    | false => exact acode_mono hq b s w h
  | Q, Q', hq, .block id b, s, w, h => acode_mono (fun e s w he => by
      cases e with
      | normal => exact hq _ _ _ he
      | exit j =>
        simp only [blockQ] at he ⊢
        split
        · rename_i hj; rw [if_pos hj] at he; exact hq _ _ _ he
        · rename_i hj; rw [if_neg hj] at he; exact hq _ _ _ he
      | ret => exact hq _ _ _ he) b s w h
  | Q, Q', hq, .loop b, s, w, h => by
    obtain ⟨I, m, h0, hr⟩ := h; refine ⟨I, m, h0, fun s w hI => acode_mono (fun e s w he => ?_) b s w (hr s w hI)⟩
    cases e with
    | normal => exact he
    | exit i => exact hq _ _ _ he
    | ret => exact hq _ _ _ he
  | Q, Q', hq, .exit id, s, w, h => hq _ _ _ h
  | Q, Q', hq, .ret, s, w, h => hq _ _ _ h
  | _, _, _, .rangeFunc .., _, _, h => h.elim
  | _, _, _, .scope _, _, _, h => h.elim
  | _, _, _, .label _, _, _, h => h.elim
  | _, _, _, .goto _, _, _, h => h.elim
  | _, _, _, .refuse _, _, _, h => h.elim
def okCode (n : Nat) : Code → Bool
  | .region _ ops _ => ops.all (dstOk n)
  | .seq a b => okCode n a && okCode n b
  | .cond _ t e => okCode n t && okCode n e
  | .block _ b => okCode n b
  | .loop b => okCode n b
  | _ => true
def realQ (n : Nat) (Q : AX → Sl → World → Prop) : Exit → Act → World → Prop
  | .normal, a, w => ∃ s, Agr n a s ∧ Q .normal s w
  | .exit id, a, w => ∃ s, Agr n a s ∧ Q (.exit id) s w
  | .ret, a, w => ∃ s, Agr n a s ∧ Q .ret s w
  | _, _, _ => False
theorem acode_sound {P : Program} {n : Nat} (hm : P.follows .mixedOrders = true) : ∀ (c : Code) (Q : AX → Sl → World → Prop), okCode n c = true → ∀ (a : Act) (s : Sl) (w : World), Agr n a s → acode P c Q s w → c.wp P (realQ n Q) a w
  | .skip, Q, _, a, s, w, ha, h => wp_skip ⟨s, ha, h⟩
  | .region id ops false, Q, hok, a, s, w, ha, h => by
    refine wp_region ?_; have := wpOps_of (Q := realQ n Q) (by simpa [okCode] using hok) (fun a s w ha hk => ⟨s, ha, hk⟩) ops.toList 0 (fun j => by simp) a s w ha h
    simpa using this
  | .region id ops true, Q, hok, a, s, w, ha, h => by
    refine wp_region_any hm ?_; have h1 := h n a ha (by simpa [okCode] using hok); exact wpAny_mono (fun e a w he => by cases e <;> first | exact he | exact he.elim) _ _ _ _ h1
  | .seq x y, Q, hok, a, s, w, ha, h => by
    simp only [okCode, Bool.and_eq_true] at hok; refine wp_seq (wp_mono (acode_sound hm x _ hok.1 a s w ha h) ?_); intro e a' w' he
    cases e with
    | normal => obtain ⟨s', ha', hq⟩ := he; exact acode_sound hm y Q hok.2 a' s' w' ha' hq
    | exit id => exact he
    | ret => exact he
    | goto l => exact he.elim
    | panic c => exact he.elim
    | outgrown => exact he.elim
  | .cond c t e, Q, hok, a, s, w, ha, h => by
    simp only [okCode, Bool.and_eq_true] at hok; obtain ⟨b, hb, h⟩ := h; have hb' : a.eval c = .bool b := by rw [← ev_slotsOf, ha.slots]; exact hb
    refine wp_cond hb' ?_
    cases b with
    | true => exact acode_sound hm t Q hok.1 a s w ha h
    | false => exact acode_sound hm e Q hok.2 a s w ha h
  | .block id b, Q, hok, a, s, w, ha, h => by
    refine wp_block (wp_mono (acode_sound hm b _ (by simpa [okCode] using hok) a s w ha h) ?_); intro e a' w' he
    cases e with
    | normal => exact he
    | exit j =>
      obtain ⟨s', ha', hq⟩ := he; simp only [blockQ] at hq; simp only [Exit.inBlock]
      split
      · rename_i hj; rw [if_pos hj] at hq; exact ⟨s', ha', hq⟩
      · rename_i hj; rw [if_neg hj] at hq; exact ⟨s', ha', hq⟩
    | ret => exact he
    | goto l => exact he.elim
    | panic c => exact he.elim
    | outgrown => exact he.elim
  | .loop b, Q, hok, a, s, w, ha, h => by
    obtain ⟨I, m, h0, hr⟩ := h; refine wp_loop (fun a w => ∃ s, Agr n a s ∧ I s w) (fun a w => m (slotsOf a) w) ⟨s, ha, h0⟩ ?_; rintro a w ⟨s, ha, hI⟩; refine wp_mono (acode_sound hm b _ (by simpa [okCode] using hok) a s w ha (hr s w hI)) ?_; intro e a' w' he
    cases e with
    | normal =>
      obtain ⟨s', ha', hq⟩ := he; refine ⟨⟨s', ha', hq.1⟩, ?_⟩; rw [ha'.slots, ha.slots]; exact hq.2
    | exit j => exact he
    | ret => exact he
    | goto l => exact he.elim
    | panic c => exact he.elim
    | outgrown => exact he.elim
  | .exit id, Q, _, a, s, w, ha, h => wp_exit ⟨s, ha, h⟩
  | .ret, Q, _, a, s, w, ha, h => wp_ret ⟨s, ha, h⟩
  | .rangeFunc .., _, _, _, _, _, _, h => h.elim
  | .scope _, _, _, _, _, _, _, h => h.elim
  | .label _, _, _, _, _, _, _, h => h.elim
  | .goto _, _, _, _, _, _, _, h => h.elim
  | .refuse _, _, _, _, _, _, _, h => h.elim
def resOf (P : Program) (s : Sl) (w : World) : List ResultVar → (List Value → Prop) → Prop
  | [], K => K []
  | .tmp t :: rs, K => resOf P s w rs fun vs => K (s t :: vs)
  | .cell a t :: rs, K => ∃ ad v, s a = .pointer (some ad) ∧ (loadVar t ad).run P w = .ok v w ∧ resOf P s w rs fun vs => K (v :: vs)
def oneOf (vs : List Value) : Value := match vs with | [v] => v | vs => .tuple vs.toArray
def retQ (P : Program) (rs : List ResultVar) (R : Value → World → Prop) : AX → Sl → World → Prop
  | .exit _, _, _ => False
  | _, s, w => resOf P s w rs fun vs => R (oneOf vs) w
def resS (f : Nat → Value) : ResultVar → Sem Value
  | .tmp t => pure (f t)
  | .cell c t => do loadVar t (← asAddr (f c))
theorem resS_cell {P : Program} {f : Nat → Value} {c : Tmp} {t : TypeId} {ad : Addr} {w w' : World} {v : Value} (h : f c = .pointer (some ad)) (hl : (loadVar t ad).run P w = .ok v w') : (resS f (.cell c t)).run P w = .ok v w' := by
  show (do loadVar t (← asAddr (f c))).run P w = _
  rw [h]; exact hl
theorem resOf_run {P : Program} {s : Sl} {w : World} : ∀ (rs : List ResultVar) (K : List Value → Prop), resOf P s w rs K → ∃ vs, (rs.mapM (resS s)).run P w = .ok vs w ∧ K vs
  | [], K, h => ⟨[], rfl, h⟩
  | .tmp t :: rs, K, h => by
    obtain ⟨vs, h1, h2⟩ := resOf_run rs _ h; refine ⟨_, ?_, h2⟩; rw [List.mapM_cons]; have h0 : (resS s (.tmp t)).run P w = .ok (s t) w := rfl; simp only [Sem.run_bind, h0, Result.andThen_ok, h1, Sem.run_pure]
  | .cell c t :: rs, K, h => by
    obtain ⟨ad, v, hs, hl, h⟩ := h; obtain ⟨vs, h1, h2⟩ := resOf_run rs _ h; refine ⟨_, ?_, h2⟩; rw [List.mapM_cons]; have h0 := resS_cell hs hl; simp only [Sem.run_bind, h0, Result.andThen_ok, h1, Sem.run_pure]
def argS : List Value → Nat → Sl
  | [], _ => fun _ => undef
  | v :: vs, k => upd (argS vs (k + 1)) k v
theorem argS_nil {k : Nat} : argS [] k = fun _ => undef := rfl
theorem argS_cons {v : Value} {vs : List Value} {k : Nat} : argS (v :: vs) k = upd (argS vs (k + 1)) k v := rfl
theorem argS_get : ∀ (vs : List Value) (k t : Nat), argS vs k (k + t) = vs.getD t undef
  | [], _, _ => by simp [argS]
  | v :: vs, k, 0 => by simp [argS, upd]
  | v :: vs, k, t + 1 => by
    have h := argS_get vs (k + 1) t; simp only [argS, upd]; rw [if_neg (by omega), show k + (t + 1) = k + 1 + t by omega, h]
    simp
theorem call_of {P : Program} (hm : P.follows .mixedOrders = true) {f : FuncId} {fn : Func} {c : Code} {args : Array Value} {w : World} {R : Value → World → Prop}
    (hf : P.funcs[f]? = some fn) (hb : fn.body = some c) {n : Nat} (hn : max fn.ntmps args.size = n) (hok : okCode n c = true)
    (h : acode P c (retQ P fn.results.toList R) (argS args.toList 0) w) : ACalls P f args w R := by
  have hs : argS args.toList 0 = fun t => args.getD t undef := by
    funext t
    have := argS_get args.toList 0 t; rw [Nat.zero_add] at this; rw [this]; simp
  rw [hs] at h; unfold ACalls; refine calls_of_wp hf hb (wp_mono (acode_sound hm c _ hok _ _ w ?_ h) ?_)
  · refine ⟨by simp; omega, ?_, rfl⟩
    funext t
    simp only [slotsOf, Array.getD_eq_getD_getElem?, Array.getElem?_append, Array.getElem?_replicate]
    by_cases h1 : t < args.size
    · simp [h1]
    · simp only [h1, if_false, Array.getElem?_eq_none (Nat.le_of_not_lt h1), Option.getD_none]
      split <;> rfl
  · have fin : ∀ a s w', Agr n a s → (resOf P s w' fn.results.toList fun vs => R (oneOf vs) w') → a.defers = [] ∧ ∃ v, (results fn a.tmps).run P w' = .ok v w' ∧ ∃ v', Ending.returned v = .returned v' ∧ R v' w' := by
      intro a s w' ha hr; obtain ⟨vs, h1, h2⟩ := resOf_run _ _ hr; refine ⟨ha.defers, oneOf vs, ?_, _, rfl, h2⟩
      have e1 : results fn a.tmps = (do let vs ← fn.results.mapM (resS s); pure (if h : vs.size = 1 then vs[0] else .tuple vs)) := by
        unfold results
        congr 1
        congr 1
        funext x
        rw [← ha.slots]
        cases x <;> rfl
      have e2 := List.mapM_toArray (m := Sem) (f := resS s) (l := fn.results.toList); rw [Array.toArray_toList] at e2; rw [e1, e2]; simp only [Sem.run_bind, Sem.run_map, h1, Result.andThen_ok, Sem.run_pure]
      congr 1
      cases vs with
      | nil => rfl
      | cons v vs => cases vs <;> rfl
    intro e a w' he
    cases e with
    | normal => obtain ⟨s, ha, hq⟩ := he; exact fin a s w' ha hq
    | ret => obtain ⟨s, ha, hq⟩ := he; exact fin a s w' ha hq
    | exit id => obtain ⟨s, ha, hq⟩ := he; exact hq.elim
    | goto l => exact he.elim
    | panic c => exact he.elim
    | outgrown => exact he.elim
def vS (P : Program) (x : Sem Value) (w : World) (K : Value → World → Prop) : Prop := match x.run P w with | .ok v w' => K v w' | .halt _ _ => False
def vU (P : Program) (x : Sem Unit) (w : World) (K : Value → World → Prop) : Prop := match x.run P w with | .ok _ w' => K undef w' | .halt _ _ => False
theorem vS_run {P : Program} {x : Sem Value} {w w' : World} {v : Value} {K : Value → World → Prop} (h : x.run P w = .ok v w') (hk : K v w') : vS P x w K := by
  unfold vS; rw [h]; exact hk
theorem vU_run {P : Program} {x : Sem Unit} {w w' : World} {u : Unit} {K : Value → World → Prop} (h : x.run P w = .ok u w') (hk : K undef w') : vU P x w K := by
  unfold vU; rw [h]; exact hk
section ops
variable {P : Program} {s : Sl} {w : World} {K : Value → World → Prop} {d : Option Tmp} {ty : TypeId} {pos : String} {af : Array Edge} {g : Option (Nat × Bool)}
theorem aop_v {o : Oper} {x : Sem Value} (h : execOp (ev s) o = (do pure (.value (← x)))) : aop P o s w K = vS P x w K := by
  unfold aop vS; rw [h]; simp only [Sem.run_bind]
  cases x.run P w <;> rfl
theorem aop_u {o : Oper} {x : Sem Unit} (h : execOp (ev s) o = (do x; pure .skip)) : aop P o s w K = vU P x w K := by
  unfold aop vU; rw [h]; simp only [Sem.run_bind]
  cases x.run P w <;> rfl
theorem aop_pick (c a b : Operand) : aop P ⟨d, .pick c a b, ty, pos, af, g⟩ s w K ↔ ∃ t, ev s c = .bool t ∧ K (if t = true then ev s a else ev s b) w := by
  unfold aop; simp only [execOp]
  cases h : ev s c <;> simp [asBool, aopR]
theorem aop_alloc (e : TypeId) : aop P ⟨d, .alloc e, ty, pos, af, g⟩ s w K = vS P (Instr.alloc e true (.tuple #[])) w K := aop_v rfl
theorem aop_box (e : TypeId) (x : Operand) : aop P ⟨d, .box e x, ty, pos, af, g⟩ s w K = vS P (Instr.box e (ev s x)) w K := aop_v rfl
theorem aop_build (t : TypeId) (ps : Array (Nat × Operand)) : aop P ⟨d, .build t ps, ty, pos, af, g⟩ s w K = vS P (Instr.build t (ps.map fun (i, x) => (i, ev s x))) w K := aop_v rfl
theorem aop_buildSlice (t : TypeId) (n : Nat) (ps : Array (Nat × Operand)) : aop P ⟨d, .buildSlice t n ps, ty, pos, af, g⟩ s w K = vS P (Instr.buildSlice t n (ps.map fun (i, x) => (i, ev s x))) w K := aop_v rfl
theorem aop_load (t : TypeId) (a : Operand) : aop P ⟨d, .load t a, ty, pos, af, g⟩ s w K = vS P (Instr.loadAt t (ev s a)) w K := aop_v rfl
theorem aop_store (t : TypeId) (a x : Operand) : aop P ⟨d, .store t a x, ty, pos, af, g⟩ s w K = vU P (Instr.storeAt t (ev s a) (ev s x)) w K := aop_u rfl
theorem aop_bin (op : BinOp) (t : TypeId) (x y : Operand) (t2 : TypeId) : aop P ⟨d, .binOp op t x y t2, ty, pos, af, g⟩ s w K = vS P (do eqGuard op t x y (ev s x) (ev s y); binOp op t (ev s x) (ev s y)) w K := aop_v rfl
theorem aop_un (op : UnOp) (t : TypeId) (x : Operand) : aop P ⟨d, .unOp op t x, ty, pos, af, g⟩ s w K = vS P (Op.unary op (ev s x)) w K := aop_v rfl
theorem aop_convert (src dst : TypeId) (x : Operand) : aop P ⟨d, .convert src dst x, ty, pos, af, g⟩ s w K = vS P (convert src dst (ev s x)) w K := aop_v rfl
theorem aop_makeFunc (fn : Fn) (a b : Array Operand) : aop P ⟨d, .makeFunc fn a b, ty, pos, af, g⟩ s w K = K (.func fn (a.map (ev s)) (b.map (ev s))) w := (aop_v rfl).trans rfl
theorem aop_makeSlice (t : TypeId) (a b : Operand) : aop P ⟨d, .makeSlice t a b, ty, pos, af, g⟩ s w K = vS P (Instr.makeSlice t (ev s a) (ev s b)) w K := aop_v rfl
theorem aop_slice (t : TypeId) (x : Operand) (lo hi mx : Option Operand) : aop P ⟨d, .slice t x lo hi mx, ty, pos, af, g⟩ s w K = vS P (Instr.sliceAt t (ev s x) (lo.map (ev s)) (hi.map (ev s)) (mx.map (ev s))) w K := aop_v rfl
theorem aop_fieldAddr (t : TypeId) (x : Operand) (f : Nat) : aop P ⟨d, .fieldAddr t x f, ty, pos, af, g⟩ s w K = vS P (Instr.fieldAt t (ev s x) f) w K := aop_v rfl
theorem aop_field (t : TypeId) (x : Operand) (f : Nat) : aop P ⟨d, .field t x f, ty, pos, af, g⟩ s w K = vS P (Instr.field t (ev s x) f) w K := aop_v rfl
theorem aop_indexAddr (t : TypeId) (x i : Operand) : aop P ⟨d, .indexAddr t x i, ty, pos, af, g⟩ s w K = vS P (Instr.indexAt t (ev s x) (ev s i)) w K := aop_v rfl
theorem aop_index (t : TypeId) (x i : Operand) : aop P ⟨d, .index t x i, ty, pos, af, g⟩ s w K = vS P (Instr.index t (ev s x) (ev s i)) w K := aop_v rfl
theorem aop_extract (x : Operand) (i : Nat) : aop P ⟨d, .extract x i, ty, pos, af, g⟩ s w K = vS P (Instr.extract (ev s x) i) w K := aop_v rfl
def entersB (P : Program) (f : FuncId) : Bool := match P.funcs[f]? with | some fn => fn.body.isSome && !(fn.name == "runtime.NumGoroutine") | none => false
theorem run_callFunc {f : FuncId} {args : Array Value} (h : entersB P f = true) : (callFunc f args).run P w = .ok (.enter f args) w := by
  unfold entersB at h; unfold callFunc
  cases hf : P.funcs[f]? with
  | none => rw [hf] at h; cases h
  | some fn =>
    rw [hf] at h; simp only [Bool.and_eq_true, Bool.not_eq_true'] at h; have hb : ¬ fn.body = none := by intro e; rw [e] at h; cases h.1
    have hn : ¬ fn.name = "runtime.NumGoroutine" := by intro e; rw [e] at h; exact absurd h.2 (by decide)
    simp [hf, hn, hb]
theorem aop_call {f : FuncId} (h : entersB P f = true) (xs : Array Operand) (ts : Array TypeId) :
    aop P ⟨d, .call ⟨.value (.func f), xs, ts⟩, ty, pos, af, g⟩ s w K = ACalls P f (xs.map (ev s)) w K := by
  unfold aop
  have : execOp (ev s) ⟨d, .call ⟨.value (.func f), xs, ts⟩, ty, pos, af, g⟩ = callFunc f (xs.map (ev s)) := by
    simp only [execOp, resolve, ev, Deferred.ofValue, pure_bind, invoke]
    simp
  rw [this, run_callFunc h]
  rfl
theorem aop_len (xs : Array Operand) (ts : Array TypeId) : aop P ⟨d, .call ⟨.builtin .len, xs, ts⟩, ty, pos, af, g⟩ s w K = vS P (Builtin.len_ ts ty (xs.map (ev s))) w K := aop_v rfl
theorem aop_append (xs : Array Operand) (ts : Array TypeId) : aop P ⟨d, .call ⟨.builtin .append, xs, ts⟩, ty, pos, af, g⟩ s w K = vS P (Builtin.append_ ts ty (xs.map (ev s))) w K := aop_v rfl
theorem aop_copy (xs : Array Operand) (ts : Array TypeId) : aop P ⟨d, .call ⟨.builtin .copy, xs, ts⟩, ty, pos, af, g⟩ s w K = vS P (Builtin.copy_ ts ty (xs.map (ev s))) w K := aop_v rfl
theorem aop_clear (xs : Array Operand) (ts : Array TypeId) : aop P ⟨d, .call ⟨.builtin .clear, xs, ts⟩, ty, pos, af, g⟩ s w K = vS P (Builtin.clear_ ts ty (xs.map (ev s))) w K := aop_v rfl
theorem aop_min (xs : Array Operand) (ts : Array TypeId) : aop P ⟨d, .call ⟨.builtin .min, xs, ts⟩, ty, pos, af, g⟩ s w K = vS P (Builtin.min_ ts ty (xs.map (ev s))) w K := aop_v rfl
theorem aop_max (xs : Array Operand) (ts : Array TypeId) : aop P ⟨d, .call ⟨.builtin .max, xs, ts⟩, ty, pos, af, g⟩ s w K = vS P (Builtin.max_ ts ty (xs.map (ev s))) w K := aop_v rfl
end ops
@[irreducible] def w64 (n : Int) : Int := (n + 9223372036854775808) % 18446744073709551616 - 9223372036854775808
theorem wrap_i64 (n : Int) : IntKind.i64.wrap n = w64 n := by
  have e : IntKind.i64.wrap n = if n % 18446744073709551616 ≥ 9223372036854775808 then n % 18446744073709551616 - 18446744073709551616 else n % 18446744073709551616 := by
    simp [IntKind.wrap, IntKind.bits, IntKind.signed]
  rw [e]; unfold w64
  split <;> omega
theorem w64_id {n : Int} (h0 : -9223372036854775808 ≤ n) (h1 : n < 9223372036854775808) : w64 n = n := by unfold w64; omega
theorem wrap_u8 (n : Int) : IntKind.u8.wrap n = n % 256 := by simp [IntKind.wrap, IntKind.bits, IntKind.signed]
section arith
variable {P : Program} {w : World} {K : Value → World → Prop} {t : TypeId} {x y : Operand} {k : IntKind} {a b : Int}
theorem vb_add : vS P (do eqGuard .add t x y (.int k a) (.int k b); binOp .add t (.int k a) (.int k b)) w K = K (.int k (k.wrap (a + b))) w := by simp [vS, eqGuard, binOp, Op.intArith]
theorem vb_sub : vS P (do eqGuard .sub t x y (.int k a) (.int k b); binOp .sub t (.int k a) (.int k b)) w K = K (.int k (k.wrap (a - b))) w := by simp [vS, eqGuard, binOp, Op.intArith]
theorem vb_mul : vS P (do eqGuard .mul t x y (.int k a) (.int k b); binOp .mul t (.int k a) (.int k b)) w K = K (.int k (k.wrap (a * b))) w := by simp [vS, eqGuard, binOp, Op.intArith]
theorem vb_lss : vS P (do eqGuard .lss t x y (.int k a) (.int k b); binOp .lss t (.int k a) (.int k b)) w K = K (.bool (decide (a < b))) w := by simp [vS, eqGuard, binOp, Op.intCmp]
theorem vb_leq : vS P (do eqGuard .leq t x y (.int k a) (.int k b); binOp .leq t (.int k a) (.int k b)) w K = K (.bool (decide (a ≤ b))) w := by simp [vS, eqGuard, binOp, Op.intCmp]
theorem vb_gtr : vS P (do eqGuard .gtr t x y (.int k a) (.int k b); binOp .gtr t (.int k a) (.int k b)) w K = K (.bool (decide (b < a))) w := by simp [vS, eqGuard, binOp, Op.intCmp]
theorem vb_geq : vS P (do eqGuard .geq t x y (.int k a) (.int k b); binOp .geq t (.int k a) (.int k b)) w K = K (.bool (decide (b ≤ a))) w := by simp [vS, eqGuard, binOp, Op.intCmp]
theorem vb_eql : vS P (do eqGuard .eql t x y (.int k a) (.int k b); binOp .eql t (.int k a) (.int k b)) w K = K (.bool (decide (a = b))) w := by
  have : (a == b) = decide (a = b) := by by_cases h : a = b <;> simp [h]
  simp [vS, eqGuard, binOp, Op.intCmp, this]
theorem vb_neq : vS P (do eqGuard .neq t x y (.int k a) (.int k b); binOp .neq t (.int k a) (.int k b)) w K = K (.bool (decide (¬ a = b))) w := by
  have : (a != b) = decide (¬ a = b) := by by_cases h : a = b <;> simp [h]
  simp [vS, eqGuard, binOp, Op.intCmp, this]
end arith
def adA (A : Option Addr) : Addr := A.getD ⟨0, 0, none⟩
theorem adA_some {a : Addr} : adA (some a) = a := rfl
def _root_.Go.World.owR (w : World) (e : TypeId) (size : Nat) (v : Value) (n : Nat) (xs : List Value) : Prop :=
  xs.length = n * size ∧ ((v = .slice none 0 0 ∧ n = 0) ∨ ∃ g cap cur, v = .slice (some ⟨g, 0, none⟩) n cap ∧ 0 ≤ g ∧ w.heap[g]? = some (.cells cur e (0, 0)) ∧ n ≤ cap ∧ cap ≤ maxLen ∧ cap * size ≤ cur.size ∧ cur.toList.take (n * size) = xs)
theorem owR_of {w : World} {e sz : Nat} {v : Value} {n : Nat} {xs : List Value} (h : w.ownsRow 0 e sz v n xs) : w.owR e sz v n xs :=
  ⟨h.1, h.2.imp id fun ⟨g, cap, cur, h1, h2, h3, h4, h5, h6, h7⟩ => ⟨g, cap, cur, h1, h2, h3, h4, h5, Nat.le_of_eq h6.symm, h7⟩⟩
theorem owR_nil {w : World} {e sz : Nat} : w.owR e sz (.slice none 0 0) 0 [] := ⟨by simp, .inl ⟨rfl, rfl⟩⟩
theorem owR_lt {w : World} {e sz : Nat} {v : Value} {n : Nat} {xs : List Value} (h : w.owR e sz v n xs) : ∀ b, v.ownBlock = some b → b < w.heap.size := by
  intro b hb
  rcases h.2 with ⟨h1, _⟩ | ⟨g, cap, cur, h1, _, hh, _⟩
  · rw [h1] at hb; simp [Value.ownBlock] at hb
  · rw [h1] at hb; simp [Value.ownBlock] at hb; subst hb; exact (Array.getElem?_eq_some_iff.1 hh).1
structure Kd (α : Type) where
  sz : Nat
  rd : World → Nat → List Value → α → Prop
  len : ∀ {w n cs x}, rd w n cs x → cs.length = sz
  mono : ∀ {w w' n cs x}, rd w n cs x → Below n w w' → rd w' n cs x
  le : ∀ {w n m cs x}, rd w n cs x → n ≤ m → rd w m cs x
  ow : World → List Nat → List Value → α → Prop
  own_rd : ∀ {w fp cs x n}, ow w fp cs x → (∀ b ∈ fp, b < n) → rd w n cs x
  own_mono : ∀ {w w' fp cs x}, ow w fp cs x → (∀ b ∈ fp, w'.heap[b]? = w.heap[b]?) → ow w' fp cs x
  own_row : ∀ {w fp cs x}, ow w fp cs x → ∀ b ∈ fp, ∃ c e, w.heap[b]? = some (.cells c e (0, 0))
  own_nodup : ∀ {w fp cs x}, ow w fp cs x → fp.Nodup
  own_len : ∀ {w fp cs x}, ow w fp cs x → cs.length = sz
  one : ∀ {w n cs x}, rd w n cs x → ∀ v ∈ cs, v.oneCell' = true
namespace Kd
variable {α β : Type}
def plain (f : α → Value) (h1 : ∀ x, (f x).oneCell' = true) (R : α → Prop) : Kd α where
  sz := 1
  rd := fun _ _ cs x => cs = [f x] ∧ R x
  len := fun h => by rw [h.1]; rfl
  mono := fun h _ => h
  le := fun h _ => h
  ow := fun _ fp cs x => (cs = [f x] ∧ R x) ∧ fp = []
  own_rd := fun h _ => h.1
  own_mono := fun h _ => h
  own_row := fun h b hb => by rw [h.2] at hb; cases hb
  own_nodup := fun h => by rw [h.2]; exact List.nodup_nil
  own_len := fun h => by rw [h.1.1]; rfl
  one := fun h v hv => by rw [h.1] at hv; simp at hv; subst hv; exact h1 _
def i64 : Kd Int := plain (fun x => .int .i64 x) (fun _ => rfl) (fun x => -9223372036854775808 ≤ x ∧ x < 9223372036854775808)
def u8 : Kd UInt8 := plain (fun x => .int .u8 (x.toNat : Int)) (fun _ => rfl) (fun _ => True)
def bool : Kd Bool := plain (fun x => .bool x) (fun _ => rfl) (fun _ => True)
def str : Kd (List UInt8) := plain (fun l => .string ⟨l.toArray⟩) (fun _ => rfl) (fun l => l.length ≤ 9223372036854775807)
def pair (d : Kd α) (d' : Kd β) : Kd (α × β) where
  sz := d.sz + d'.sz
  rd := fun w n cs x => ∃ a b, cs = a ++ b ∧ d.rd w n a x.1 ∧ d'.rd w n b x.2
  len := fun ⟨a, b, e, h, h'⟩ => by rw [e, List.length_append, d.len h, d'.len h']
  mono := fun ⟨a, b, e, h, h'⟩ hb => ⟨a, b, e, d.mono h hb, d'.mono h' hb⟩
  le := fun ⟨a, b, e, h, h'⟩ hn => ⟨a, b, e, d.le h hn, d'.le h' hn⟩
  ow := fun w fp cs x => (∃ a b f f', cs = a ++ b ∧ fp = f ++ f' ∧ d.ow w f a x.1 ∧ d'.ow w f' b x.2) ∧ fp.Nodup
  own_rd := fun ⟨⟨a, b, f, f', e, ef, h, h'⟩, _⟩ hn => ⟨a, b, e, d.own_rd h (fun k hk => hn k (by rw [ef]; exact List.mem_append_left _ hk)), d'.own_rd h' (fun k hk => hn k (by rw [ef]; exact List.mem_append_right _ hk))⟩
  own_mono := fun ⟨⟨a, b, f, f', e, ef, h, h'⟩, hnd⟩ hm => ⟨⟨a, b, f, f', e, ef, d.own_mono h (fun k hk => hm k (by rw [ef]; exact List.mem_append_left _ hk)), d'.own_mono h' (fun k hk => hm k (by rw [ef]; exact List.mem_append_right _ hk))⟩, hnd⟩
  own_row := fun ⟨⟨a, b, f, f', e, ef, h, h'⟩, _⟩ k hk => by
    rw [ef] at hk
    rcases List.mem_append.1 hk with hk | hk
    · exact d.own_row h k hk
    · exact d'.own_row h' k hk
  own_nodup := fun h => h.2
  own_len := fun ⟨⟨a, b, f, f', e, ef, h, h'⟩, _⟩ => by rw [e, List.length_append, d.own_len h, d'.own_len h']
  one := fun ⟨a, b, e, h, h'⟩ v hv => by
    rw [e] at hv
    rcases List.mem_append.1 hv with hv | hv
    · exact d.one h v hv
    · exact d'.one h' v hv
def iso (d : Kd α) (f : β → α) : Kd β where
  sz := d.sz
  rd := fun w n cs x => d.rd w n cs (f x)
  len := d.len
  mono := d.mono
  le := d.le
  ow := fun w fp cs x => d.ow w fp cs (f x)
  own_rd := d.own_rd
  own_mono := d.own_mono
  own_row := d.own_row
  own_nodup := d.own_nodup
  own_len := d.own_len
  one := d.one
theorem add_block (a : Addr) (n : Nat) : (a.add n).block = a.block := by unfold Addr.add; split <;> rfl
theorem add_add (a : Addr) (m n : Nat) : (a.add m).add n = a.add (m + n) := by
  unfold Addr.add
  by_cases hm : m = 0
  · subst hm; simp
  · by_cases hn : n = 0
    · subst hn; simp [hm]
    · rw [if_neg hm, if_neg hn, if_neg (by omega)]; simp [Nat.add_assoc]
def sliceRd (d : Kd α) (w : World) (n : Nat) (A : Option Addr) (l : List α) : Prop :=
  ∀ i (h : i < l.length), A.isSome = true ∧ (adA A).block < n ∧ ∃ es, d.rd w n es l[i] ∧ ∀ j, j < d.sz → w.cell? ((adA A).add (i * d.sz + j)) = es[j]?
theorem sliceRd.mono {d : Kd α} {w w' : World} {n : Nat} {A : Option Addr} {l : List α} (h : sliceRd d w n A l) (hb : Below n w w') : sliceRd d w' n A l := fun i hi => by
  obtain ⟨h1, h2, es, h3, h4⟩ := h i hi; exact ⟨h1, h2, es, d.mono h3 hb, fun j hj => by rw [hb.cell (p := (adA A).add (i * d.sz + j)) (by rw [add_block]; exact h2)]; exact h4 j hj⟩
theorem sliceRd.le {d : Kd α} {w : World} {n m : Nat} {A : Option Addr} {l : List α} (h : sliceRd d w n A l) (hn : n ≤ m) : sliceRd d w m A l := fun i hi => by
  obtain ⟨h1, h2, es, h3, h4⟩ := h i hi; exact ⟨h1, by omega, es, d.le h3 hn, h4⟩
structure RowOw (e : TypeId) (d : Kd α) (w : World) (fp : List Nat) (v : Value) (l : List α) (rows : List (List Value)) (fps : List (List Nat)) : Prop where
  row : w.owR e d.sz v l.length rows.flatten
  lr : rows.length = l.length
  lf : fps.length = l.length
  el : ∀ i (h : i < l.length), d.ow w (fps[i]'(by omega)) (rows[i]'(by omega)) l[i]
  hfp : fp = v.ownBlock.toList ++ fps.flatten
  nd : fp.Nodup
theorem flat_get {k : Nat} : ∀ (rows : List (List Value)) (_ : ∀ r ∈ rows, r.length = k) (i j : Nat), j < k → rows.flatten[i * k + j]? = (rows[i]?).bind (·[j]?)
  | [], _, i, j, _ => by simp
  | r :: rs, h, 0, j, hj => by
    have hr := h r (List.mem_cons_self ..); simp only [Nat.zero_mul, Nat.zero_add, List.flatten_cons, List.getElem?_cons_zero, Option.bind_some]; rw [List.getElem?_append_left (by omega)]
  | r :: rs, h, i + 1, j, hj => by
    have hr := h r (List.mem_cons_self ..); have e : (i + 1) * k + j = k + (i * k + j) := by rw [Nat.add_mul]; omega
    simp only [List.flatten_cons, List.getElem?_cons_succ]; rw [List.getElem?_append_right (by omega), hr, e, Nat.add_sub_cancel_left]; exact flat_get rs (fun r hr => h r (List.mem_cons_of_mem _ hr)) i j hj
theorem add_plain (g j : Nat) : (⟨g, 0, none⟩ : Addr).add j = ⟨g, j, none⟩ := by unfold Addr.add; split <;> simp_all
theorem add_at (g o j : Nat) : (⟨g, o, none⟩ : Addr).add j = ⟨g, o + j, none⟩ := by unfold Addr.add; split <;> simp_all
theorem cell_blk {w : World} {g : Nat} {c : Array Value} {e : TypeId} {f : Nat × Nat} (h : w.heap[g]? = some (.cells c e f)) (i : Nat) : w.cell? ⟨g, i, none⟩ = c[i]? := by simp [World.cell?, h]
theorem RowOw.lens {e : TypeId} {d : Kd α} {w : World} {fp : List Nat} {v : Value} {l : List α} {rows : List (List Value)} {fps : List (List Nat)} (h : RowOw e d w fp v l rows fps) : ∀ r ∈ rows, r.length = d.sz := by
  intro r hr; obtain ⟨i, hi, rfl⟩ := List.getElem_of_mem hr; exact d.own_len (h.el i (by have := h.lr; omega))
theorem RowOw.sub {e : TypeId} {d : Kd α} {w : World} {fp : List Nat} {v : Value} {l : List α} {rows : List (List Value)} {fps : List (List Nat)} (h : RowOw e d w fp v l rows fps) (i : Nat) (hi : i < fps.length) : ∀ b ∈ fps[i], b ∈ fp := by
  intro b hb; rw [h.hfp]; exact List.mem_append_right _ (List.mem_flatten_of_mem (List.getElem_mem hi) hb)
theorem RowOw.rd {e : TypeId} {d : Kd α} {w : World} {fp : List Nat} {v : Value} {l : List α} {rows : List (List Value)} {fps : List (List Nat)} (h : RowOw e d w fp v l rows fps) {n : Nat} (hn : ∀ b ∈ fp, b < n) :
    ∃ A c, v = .slice A l.length c ∧ l.length ≤ c ∧ c ≤ maxLen ∧ sliceRd d w n A l := by
  obtain ⟨hl, h1⟩ := h.row
  rcases h1 with ⟨hv, h0⟩ | ⟨g, cap, cur, hv, _, hh, hc, hm, hs, ht⟩
  · exact ⟨none, 0, by rw [hv, h0], by omega, by simp [maxLen], fun i hi => absurd hi (by omega)⟩
  · refine ⟨some ⟨g, 0, none⟩, cap, hv, hc, hm, fun i hi => ⟨rfl, ?_, rows[i]'(by have := h.lr; omega), ?_, ?_⟩⟩
    · exact hn g (by rw [h.hfp, hv]; exact List.mem_append_left _ (by simp [Value.ownBlock]))
    · exact d.own_rd (h.el i hi) (fun b hb => hn b (h.sub i (by have := h.lf; omega) b hb))
    · intro j hj
      have hlr := h.lr; have e1 := flat_get rows h.lens i j hj; rw [List.getElem?_eq_getElem (l := rows) (i := i) (by omega), Option.bind_some] at e1
      show w.cell? ((⟨g, 0, none⟩ : Addr).add _) = _
      rw [add_plain, cell_blk hh, ← e1, ← ht, List.getElem?_take]
      have hlt : i * d.sz + j < l.length * d.sz := by
        have h9 : (i + 1) * d.sz ≤ l.length * d.sz := Nat.mul_le_mul_right _ hi; rw [Nat.add_mul, Nat.one_mul] at h9; omega
      rw [if_pos hlt]; simp
theorem RowOw.move {e : TypeId} {d : Kd α} {w w' : World} {fp : List Nat} {v : Value} {l : List α} {rows : List (List Value)} {fps : List (List Nat)} (h : RowOw e d w fp v l rows fps) (hm : ∀ b ∈ fp, w'.heap[b]? = w.heap[b]?) : RowOw e d w' fp v l rows fps where
  row := by
    obtain ⟨hl, h1⟩ := h.row; refine ⟨hl, ?_⟩
    rcases h1 with h1 | ⟨g, cap, cur, hv, hg, hh, hr⟩
    · exact .inl h1
    · exact .inr ⟨g, cap, cur, hv, hg, by rw [hm g (by rw [h.hfp, hv]; exact List.mem_append_left _ (by simp [Value.ownBlock]))]; exact hh, hr⟩
  lr := h.lr
  lf := h.lf
  el := fun i hi => d.own_mono (h.el i hi) (fun b hb => hm b (h.sub i (by have := h.lf; omega) b hb))
  hfp := h.hfp
  nd := h.nd
def slice (e : TypeId) (d : Kd α) : Kd (List α) where
  sz := 1
  rd := fun w n cs l => ∃ A c, cs = [.slice A l.length c] ∧ l.length ≤ c ∧ c ≤ maxLen ∧ sliceRd d w n A l
  len := fun ⟨A, c, h, _⟩ => by rw [h]; rfl
  mono := fun ⟨A, c, h, h1, h2, h3⟩ hb => ⟨A, c, h, h1, h2, h3.mono hb⟩
  le := fun ⟨A, c, h, h1, h2, h3⟩ hn => ⟨A, c, h, h1, h2, h3.le hn⟩
  ow := fun w fp cs l => ∃ v rows fps, cs = [v] ∧ RowOw e d w fp v l rows fps
  own_rd := fun ⟨v, rows, fps, h, hr⟩ hn => by
    obtain ⟨A, c, hv, h1, h2, h3⟩ := hr.rd hn; exact ⟨A, c, by rw [h, hv], h1, h2, h3⟩
  own_mono := fun ⟨v, rows, fps, h, hr⟩ hm => ⟨v, rows, fps, h, hr.move hm⟩
  own_row := fun ⟨v, rows, fps, h, hr⟩ b hb => by
    rw [hr.hfp] at hb
    rcases List.mem_append.1 hb with hb | hb
    · obtain ⟨_, h1⟩ := hr.row
      rcases h1 with ⟨hv, _⟩ | ⟨g, cap, cur, hv, _, hh, _⟩
      · rw [hv] at hb; simp [Value.ownBlock] at hb
      · rw [hv] at hb; simp [Value.ownBlock] at hb; subst hb; exact ⟨cur, e, hh⟩
    · obtain ⟨f, hf, hb⟩ := List.mem_flatten.1 hb
      obtain ⟨i, hi, rfl⟩ := List.getElem_of_mem hf; exact d.own_row (hr.el i (by have := hr.lf; omega)) b hb
  own_nodup := fun ⟨v, rows, fps, h, hr⟩ => hr.nd
  own_len := fun ⟨v, rows, fps, h, hr⟩ => by rw [h]; rfl
  one := fun ⟨A, c, h, _⟩ v hv => by rw [h] at hv; simp at hv; subst hv; rfl
end Kd
structure SlT (P : Program) (t e : TypeId) (sz by_ : Nat) (z : Value) : Prop where
  un : P.underlying t = some (.slice e)
  inf : ∃ i, P.info? e = some i ∧ i.size = sz ∧ i.bytes = by_ ∧ i.zero = some z
  zs : z.cells.size = sz
  pos : 0 < sz
structure ScT (P : Program) (e : TypeId) (z : Value) : Prop where
  un : (match P.underlying e with | some (.struct _) | some (.array _ _) | none => false | _ => true) = true
  inf : ∃ i, P.info? e = some i ∧ i.size = 1 ∧ i.zero = some z
structure StT (P : Program) (t : TypeId) (sz : Nat) (z : Array Value) : Prop where
  un : ∃ fs, P.underlying t = some (.struct fs)
  inf : ∃ i, P.info? t = some i ∧ i.size = sz ∧ i.zero = some (.agg z)
  zs : z.size = sz
section
variable {P : Program} {w : World} {K : Value → World → Prop}
theorem run_typeInfo {t : TypeId} {i : TypeInfo} (h : P.info? t = some i) : (typeInfo t).run P w = .ok i w := by simp [typeInfo, h]
theorem run_sizeOf' {t : TypeId} {i : TypeInfo} {n : Nat} (h : P.info? t = some i) (hs : i.size = n) : (sizeOf t).run P w = .ok n w := by simp [sizeOf, run_typeInfo h, hs]
theorem run_underlying' {t : TypeId} {u : TypeDesc} (h : P.underlying t = some u) : (underlying t).run P w = .ok u w := by simp [underlying, h]
theorem run_zeroValue' {t : TypeId} {i : TypeInfo} {z : Value} (h : P.info? t = some i) (hz : i.zero = some z) : (zeroValue t).run P w = .ok z w := by simp [zeroValue, run_typeInfo h, hz]
theorem run_isAgg_sc {e : TypeId} {z : Value} (H : ScT P e z) : (isAgg e).run P w = .ok false w := by
  have h := H.un; unfold isAgg
  cases hu : P.underlying e with
  | none => rw [hu] at h; cases h
  | some u => rw [hu] at h; simp only [Sem.run_bind, run_underlying' hu, Result.andThen_ok]; cases u <;> first | rfl | cases h
theorem v_index {t e : TypeId} {sz b : Nat} {z : Value} (H : SlT P t e sz b z) {A : Option Addr} {n c : Nat} {k : IntKind} {i : Int} (hA : A.isSome = true) (h0 : 0 ≤ i) (h1 : i < (n : Int)) :
    vS P (Instr.indexAt t (.slice A n c) (.int k i)) w K = K (.pointer (some ((adA A).add (i.toNat * sz)))) w := by
  obtain ⟨ad, rfl⟩ := Option.isSome_iff_exists.1 hA; obtain ⟨inf, hi, hs, _, _⟩ := H.inf
  simp [vS, Instr.indexAt, asIntOf, run_underlying' H.un, run_sizeOf' hi hs, h0, h1, adA]
theorem v_load {e : TypeId} {z v : Value} (H : ScT P e z) {a : Addr} (h : w.cell? a = some v) : vS P (Instr.loadAt e (.pointer (some a))) w K = K v w := by
  simp [vS, Instr.loadAt, Instr.sureAddr, loadVar, run_isAgg_sc H, h]
theorem v_loadAgg {t : TypeId} {sz : Nat} {z : Array Value} (H : StT P t sz z) {a : Addr} {cs : List Value} (hl : cs.length = sz) (h : ∀ j v, cs[j]? = some v → w.cell? (a.add j) = some v) :
    vS P (Instr.loadAt t (.pointer (some a))) w K = K (.agg cs.toArray) w := by
  obtain ⟨fs, hu⟩ := H.un; obtain ⟨inf, hi, hs, _⟩ := H.inf; have hc := run_loadCells_list (P := P) w a cs h; rw [hl] at hc; have ha : (isAgg t).run P w = .ok true w := by simp [isAgg, run_underlying' hu]
  simp [vS, Instr.loadAt, Instr.sureAddr, loadVar, ha, run_sizeOf' hi hs, hc]
theorem v_store {e : TypeId} {z v old : Value} (H : ScT P e z) {a : Addr} (hc : w.cell? a = some old) (hf : w.frozen? a = false) (h1 : v.oneCell' = true) :
    vU P (Instr.storeAt e (.pointer (some a)) v) w K = K undef (w.setCell a v) := by
  obtain ⟨inf, hi, hs, _⟩ := H.inf; have hcs : v.cells = #[v] := by cases v <;> first | rfl | simp [Value.oneCell'] at h1
  have hst : (store a v).run P w = .ok () (w.setCell a v) := by rw [run_store P w a v .plain h1]; simp [hc, hf]
  simp [vU, Instr.storeAt, Instr.sureAddr, storeVar, hcs, run_sizeOf' hi hs, storeCells, hst, Addr.add]
theorem v_box {t : TypeId} {v : Value} : vS P (Instr.box t v) w K = K (.pointer (some ⟨w.heap.size, 0, none⟩)) (w.alloc (.cells v.cells t)) := by
  simp [vS, Instr.box, newVar, newRow]
theorem v_alloc {t : TypeId} {i : TypeInfo} {z : Value} (hi : P.info? t = some i) (hz : i.zero = some z) : vS P (Instr.alloc t true (.tuple #[])) w K = K (.pointer (some ⟨w.heap.size, 0, none⟩)) (w.alloc (.cells z.cells t)) := by
  simp [vS, Instr.alloc, run_zeroValue' hi hz, newVar, newRow]
theorem v_len_slice {t e : TypeId} (h : P.underlying t = some (.slice e)) {ty : TypeId} {A : Option Addr} {n c : Nat} : vS P (Builtin.len_ #[t] ty #[.slice A n c]) w K = K (.int .i64 (n : Int)) w := by
  simp [vS, Builtin.len_, run_underlying' h, goInt]
theorem str_size (l : List UInt8) : (⟨l.toArray⟩ : ByteArray).size = l.length := by show l.toArray.size = _; simp
theorem v_len_str {t : TypeId} (h : P.underlying t = some .string) {ty : TypeId} {l : List UInt8} : vS P (Builtin.len_ #[t] ty #[.string ⟨l.toArray⟩]) w K = K (.int .i64 (l.length : Int)) w := by
  simp [vS, Builtin.len_, run_underlying' h, goInt, str_size]
theorem v_fieldAddr {t : TypeId} {fs : Array Field} (H : P.underlying t = some (.struct fs)) {a : Addr} {f : Nat} {fd : Field} {i : TypeInfo} {m : Nat} (hf : fs[f]? = some fd) (hi : P.info? fd.type = some i) (hs : i.size = m) (hm : m ≠ 0) :
    vS P (Instr.fieldAt t (.pointer (some a)) f) w K = K (.pointer (some (a.add fd.offset))) w := by
  simp [vS, Instr.fieldAt, run_underlying' H, hf, Instr.sureAddr, fieldPlace, run_sizeOf' hi hs, hm]
end
inductive Tg {α : Type} (a : α) : Type where
  | mk
def Acode (P : Program) (c : Code) (Q : AX → Sl → World → Prop) (_ : Tg (c, Q)) (s : Sl) (w : World) : Prop := acode P c Q s w
def Aops (P : Program) (ops : Array Oper) (K : Sl → World → Prop) (l : List Oper) (_ : Tg (ops, K, l)) (s : Sl) (w : World) : Prop := aops P ops K l s w
def Adraw (P : Program) (ops : Array Oper) (K : Sl → World → Prop) (_ : Tg (ops, K)) (s : Sl) (w : World) : Prop := adraw P ops K s w
def Aop (P : Program) (o : Oper) (K : Value → World → Prop) (_ : Tg (o, K)) (s : Sl) (w : World) : Prop := aop P o s w K
def VS (P : Program) (K : Value → World → Prop) (_ : Tg K) (x : Sem Value) (w : World) : Prop := vS P x w K
def VU (P : Program) (K : Value → World → Prop) (_ : Tg K) (x : Sem Unit) (w : World) : Prop := vU P x w K
def ACall (P : Program) (f : FuncId) (R : Value → World → Prop) (_ : Tg R) (args : Array Value) (w : World) : Prop := ACalls P f args w R
def Loop (P : Program) (b : Code) (Q : AX → Sl → World → Prop) (_ : Tg (b, Q)) (s : Sl) (w : World) : Prop := acode P (.loop b) Q s w
def Then (K : Sl → World → Prop) (Q : AX → Sl → World → Prop) (_ : Tg (K, Q)) (e : AX) (s : Sl) (w : World) : Prop := thenQ K Q e s w
def Block (i : Nat) (Q : AX → Sl → World → Prop) (_ : Tg Q) (e : AX) (s : Sl) (w : World) : Prop := blockQ i Q e s w
def Ret (P : Program) (rs : List ResultVar) (R : Value → World → Prop) (_ : Tg R) (e : AX) (s : Sl) (w : World) : Prop := retQ P rs R e s w
def If (A B : Prop) (_ : Tg (A, B)) (c : Prop) : Prop := (c → A) ∧ (¬ c → B)
theorem if_true {A B : Prop} {t : Tg (A, B)} : If A B t True = A := by simp [If]
theorem if_false {A B : Prop} {t : Tg (A, B)} : If A B t False = B := by simp [If]
theorem if_not {A B : Prop} {t : Tg (A, B)} {c : Prop} : If A B t (¬ c) = If B A .mk c := by simp only [If, Classical.not_not, and_comm]
theorem ways {A B : Prop} {t : Tg (A, B)} {c : Prop} (h1 : c → A) (h2 : ¬ c → B) : If A B t c := ⟨h1, h2⟩
def Br (A B : Prop) (_ : Tg (A, B)) (v : Value) : Prop := ∃ y, v = .bool y ∧ (if y = true then A else B)
theorem br_bool {A B : Prop} {t : Tg (A, B)} {y : Bool} : Br A B t (.bool y) = If A B .mk (y = true) := by cases y <;> simp [Br, If]
section code
variable {P : Program} {Q : AX → Sl → World → Prop} {s : Sl} {w : World} {K : Sl → World → Prop} {R : Value → World → Prop}
theorem ac_skip {t : Tg (Code.skip, Q)} : Acode P .skip Q t s w = Q .normal s w := rfl
theorem ac_region {id : Nat} {l : List Oper} {t : Tg (Code.region id l.toArray false, Q)} : Acode P (.region id l.toArray false) Q t s w = Aops P l.toArray (Q .normal) l .mk s w := rfl
theorem ac_draw {id : Nat} {l : List Oper} {t : Tg (Code.region id l.toArray true, Q)} : Acode P (.region id l.toArray true) Q t s w = Adraw P l.toArray (Q .normal) .mk s w := rfl
theorem ac_seq {a b : Code} {t : Tg (Code.seq a b, Q)} : Acode P (.seq a b) Q t s w = Acode P a (Then (Acode P b Q .mk) Q .mk) .mk s w := rfl
theorem ac_cond {c : Operand} {a b : Code} {t : Tg (Code.cond c a b, Q)} : Acode P (.cond c a b) Q t s w = Br (Acode P a Q .mk s w) (Acode P b Q .mk s w) .mk (ev s c) := rfl
theorem ac_block {id : Nat} {b : Code} {t : Tg (Code.block id b, Q)} : Acode P (.block id b) Q t s w = Acode P b (Block id Q .mk) .mk s w := rfl
theorem ac_loop {b : Code} {t : Tg (Code.loop b, Q)} : Acode P (.loop b) Q t s w = Loop P b Q .mk s w := rfl
theorem ac_exit {id : Nat} {t : Tg (Code.exit id, Q)} : Acode P (.exit id) Q t s w = Q (.exit id) s w := rfl
theorem ac_ret {t : Tg (Code.ret, Q)} : Acode P .ret Q t s w = Q .ret s w := rfl
theorem then_normal {t : Tg (K, Q)} : Then K Q t .normal s w = K s w := rfl
theorem then_exit {i : Nat} {t : Tg (K, Q)} : Then K Q t (.exit i) s w = Q (.exit i) s w := rfl
theorem then_ret {t : Tg (K, Q)} : Then K Q t .ret s w = Q .ret s w := rfl
theorem block_normal {i : Nat} {t : Tg Q} : Block i Q t .normal s w = Q .normal s w := rfl
theorem block_exit {i j : Nat} {t : Tg Q} : Block i Q t (.exit j) s w = if j = i then Q .normal s w else Q (.exit j) s w := by simp only [Block, blockQ]; split <;> rfl
theorem block_ret {i : Nat} {t : Tg Q} : Block i Q t .ret s w = Q .ret s w := rfl
theorem ret_ret {rs : List ResultVar} {t : Tg R} : Ret P rs R t .ret s w = resOf P s w rs fun vs => R (oneOf vs) w := rfl
theorem ret_normal {rs : List ResultVar} {t : Tg R} : Ret P rs R t .normal s w = resOf P s w rs fun vs => R (oneOf vs) w := rfl
theorem as_nil {ops : Array Oper} {t : Tg (ops, K, ([] : List Oper))} : Aops P ops K [] t s w = K s w := rfl
theorem as_cons {ops : Array Oper} {d : Option Tmp} {op : Op} {ty : TypeId} {pos : String} {af : Array Edge} {rest : List Oper} {t : Tg (ops, K, (⟨d, op, ty, pos, af, none⟩ : Oper) :: rest)} :
    Aops P ops K (⟨d, op, ty, pos, af, none⟩ :: rest) t s w = Aop P ⟨d, op, ty, pos, af, none⟩ (fun v w' => Aops P ops K rest .mk (putS s d v) w') .mk s w := rfl
theorem as_guard {ops : Array Oper} {d : Option Tmp} {op : Op} {ty : TypeId} {pos : String} {af : Array Edge} {j : Nat} {b : Bool} {rest : List Oper} {t : Tg (ops, K, (⟨d, op, ty, pos, af, some (j, b)⟩ : Oper) :: rest)} :
    Aops P ops K (⟨d, op, ty, pos, af, some (j, b)⟩ :: rest) t s w = If (Aop P ⟨d, op, ty, pos, af, some (j, b)⟩ (fun v w' => Aops P ops K rest .mk (putS s d v) w') .mk s w) (Aops P ops K rest .mk (putS s d undef) w) .mk (yl ops s j = some b) := by
  simp only [Aops, Aop, aops, Region.wanted, beq_iff_eq, If]
  split <;> simp_all
theorem putS_some {d : Nat} {v : Value} : putS s (some d) v = upd s d v := rfl
theorem putS_none {v : Value} : putS s none v = s := rfl
theorem ev_tmp {t : Tmp} : ev s (.tmp t) = s t := rfl
theorem ev_const {v : Value} : ev s (.const v) = v := rfl
theorem ev_func {f : FuncId} : ev s (.func f) = .func (.func f) #[] #[] := rfl
theorem upd_at {d t : Nat} {v : Value} : upd s d v t = if t = d then v else s t := rfl
theorem yl_at {l : List Oper} {j : Nat} : yl l.toArray s j = ((l[j]?).bind (·.dst)).bind fun d => boolOf (s d) := by simp [yl]
theorem boolOf_bool {b : Bool} : boolOf (.bool b) = some b := rfl
theorem some_bool {a b : Bool} : (some a = some b) = (a = b) := by simp
end code
section ops
variable {P : Program} {s : Sl} {w : World} {K : Value → World → Prop} {d : Option Tmp} {ty : TypeId} {pos : String} {af : Array Edge} {g : Option (Nat × Bool)}
theorem o_move {x : Operand} {t : Tg ((⟨d, .move x, ty, pos, af, g⟩ : Oper), K)} : Aop P ⟨d, .move x, ty, pos, af, g⟩ K t s w = K (ev s x) w := rfl
theorem o_assign {x : Operand} {t : Tg ((⟨d, .assign x, ty, pos, af, g⟩ : Oper), K)} : Aop P ⟨d, .assign x, ty, pos, af, g⟩ K t s w = K (ev s x) w := rfl
def Pick (K : Value → World → Prop) (_ : Tg K) (c a b : Value) (w : World) : Prop := ∃ t, c = .bool t ∧ K (if t = true then a else b) w
theorem o_pick {c a b : Operand} {t : Tg ((⟨d, .pick c a b, ty, pos, af, g⟩ : Oper), K)} : Aop P ⟨d, .pick c a b, ty, pos, af, g⟩ K t s w = Pick K .mk (ev s c) (ev s a) (ev s b) w := propext (aop_pick c a b)
theorem pick_bool {c : Bool} {a b : Value} {t : Tg K} : Pick K t (.bool c) a b w = K (if c = true then a else b) w := by simp [Pick]
theorem o_alloc {e : TypeId} {t : Tg ((⟨d, .alloc e, ty, pos, af, g⟩ : Oper), K)} : Aop P ⟨d, .alloc e, ty, pos, af, g⟩ K t s w = VS P K .mk (Instr.alloc e true (.tuple #[])) w := aop_alloc e
theorem o_box {e : TypeId} {x : Operand} {t : Tg ((⟨d, .box e x, ty, pos, af, g⟩ : Oper), K)} : Aop P ⟨d, .box e x, ty, pos, af, g⟩ K t s w = VS P K .mk (Instr.box e (ev s x)) w := aop_box e x
theorem o_build {y : TypeId} {ps : List (Nat × Operand)} {t : Tg ((⟨d, .build y ps.toArray, ty, pos, af, g⟩ : Oper), K)} : Aop P ⟨d, .build y ps.toArray, ty, pos, af, g⟩ K t s w = VS P K .mk (Instr.build y (ps.map fun p => (p.1, ev s p.2)).toArray) w := by
  rw [show (ps.map fun p => (p.1, ev s p.2)).toArray = ps.toArray.map fun p => (p.1, ev s p.2) by simp]; exact aop_build y ps.toArray
theorem o_buildSlice {y : TypeId} {n : Nat} {ps : List (Nat × Operand)} {t : Tg ((⟨d, .buildSlice y n ps.toArray, ty, pos, af, g⟩ : Oper), K)} : Aop P ⟨d, .buildSlice y n ps.toArray, ty, pos, af, g⟩ K t s w = VS P K .mk (Instr.buildSlice y n (ps.map fun p => (p.1, ev s p.2)).toArray) w := by
  rw [show (ps.map fun p => (p.1, ev s p.2)).toArray = ps.toArray.map fun p => (p.1, ev s p.2) by simp]; exact aop_buildSlice y n ps.toArray
theorem o_load {y : TypeId} {a : Operand} {t : Tg ((⟨d, .load y a, ty, pos, af, g⟩ : Oper), K)} : Aop P ⟨d, .load y a, ty, pos, af, g⟩ K t s w = VS P K .mk (Instr.loadAt y (ev s a)) w := aop_load y a
theorem o_store {y : TypeId} {a x : Operand} {t : Tg ((⟨d, .store y a x, ty, pos, af, g⟩ : Oper), K)} : Aop P ⟨d, .store y a x, ty, pos, af, g⟩ K t s w = VU P K .mk (Instr.storeAt y (ev s a) (ev s x)) w := aop_store y a x
def Bin (P : Program) (K : Value → World → Prop) (_ : Tg K) (op : BinOp) (y : TypeId) (x z : Operand) (a b : Value) (w : World) : Prop := vS P (do eqGuard op y x z a b; binOp op y a b) w K
theorem o_bin {op : BinOp} {y : TypeId} {x z : Operand} {y2 : TypeId} {t : Tg ((⟨d, .binOp op y x z y2, ty, pos, af, g⟩ : Oper), K)} : Aop P ⟨d, .binOp op y x z y2, ty, pos, af, g⟩ K t s w = Bin P K .mk op y x z (ev s x) (ev s z) w := aop_bin op y x z y2
theorem o_un {op : UnOp} {y : TypeId} {x : Operand} {t : Tg ((⟨d, .unOp op y x, ty, pos, af, g⟩ : Oper), K)} : Aop P ⟨d, .unOp op y x, ty, pos, af, g⟩ K t s w = VS P K .mk (Op.unary op (ev s x)) w := aop_un op y x
theorem o_convert {a b : TypeId} {x : Operand} {t : Tg ((⟨d, .convert a b x, ty, pos, af, g⟩ : Oper), K)} : Aop P ⟨d, .convert a b x, ty, pos, af, g⟩ K t s w = VS P K .mk (convert a b (ev s x)) w := aop_convert a b x
theorem o_makeFunc {fn : Fn} {a b : List Operand} {t : Tg ((⟨d, .makeFunc fn a.toArray b.toArray, ty, pos, af, g⟩ : Oper), K)} : Aop P ⟨d, .makeFunc fn a.toArray b.toArray, ty, pos, af, g⟩ K t s w = K (.func fn (a.map (ev s)).toArray (b.map (ev s)).toArray) w := by
  rw [show (a.map (ev s)).toArray = a.toArray.map (ev s) by simp, show (b.map (ev s)).toArray = b.toArray.map (ev s) by simp]; exact aop_makeFunc fn a.toArray b.toArray
theorem o_makeSlice {y : TypeId} {a b : Operand} {t : Tg ((⟨d, .makeSlice y a b, ty, pos, af, g⟩ : Oper), K)} : Aop P ⟨d, .makeSlice y a b, ty, pos, af, g⟩ K t s w = VS P K .mk (Instr.makeSlice y (ev s a) (ev s b)) w := aop_makeSlice y a b
theorem o_slice {y : TypeId} {x : Operand} {lo hi mx : Option Operand} {t : Tg ((⟨d, .slice y x lo hi mx, ty, pos, af, g⟩ : Oper), K)} : Aop P ⟨d, .slice y x lo hi mx, ty, pos, af, g⟩ K t s w = VS P K .mk (Instr.sliceAt y (ev s x) (lo.map (ev s)) (hi.map (ev s)) (mx.map (ev s))) w := aop_slice y x lo hi mx
theorem o_fieldAddr {y : TypeId} {x : Operand} {f : Nat} {t : Tg ((⟨d, .fieldAddr y x f, ty, pos, af, g⟩ : Oper), K)} : Aop P ⟨d, .fieldAddr y x f, ty, pos, af, g⟩ K t s w = VS P K .mk (Instr.fieldAt y (ev s x) f) w := aop_fieldAddr y x f
theorem o_field {y : TypeId} {x : Operand} {f : Nat} {t : Tg ((⟨d, .field y x f, ty, pos, af, g⟩ : Oper), K)} : Aop P ⟨d, .field y x f, ty, pos, af, g⟩ K t s w = VS P K .mk (Instr.field y (ev s x) f) w := aop_field y x f
theorem o_indexAddr {y : TypeId} {x i : Operand} {t : Tg ((⟨d, .indexAddr y x i, ty, pos, af, g⟩ : Oper), K)} : Aop P ⟨d, .indexAddr y x i, ty, pos, af, g⟩ K t s w = VS P K .mk (Instr.indexAt y (ev s x) (ev s i)) w := aop_indexAddr y x i
theorem o_index {y : TypeId} {x i : Operand} {t : Tg ((⟨d, .index y x i, ty, pos, af, g⟩ : Oper), K)} : Aop P ⟨d, .index y x i, ty, pos, af, g⟩ K t s w = VS P K .mk (Instr.index y (ev s x) (ev s i)) w := aop_index y x i
theorem o_extract {x : Operand} {i : Nat} {t : Tg ((⟨d, .extract x i, ty, pos, af, g⟩ : Oper), K)} : Aop P ⟨d, .extract x i, ty, pos, af, g⟩ K t s w = VS P K .mk (Instr.extract (ev s x) i) w := aop_extract x i
theorem o_call {f : FuncId} {xs : List Operand} {ts : Array TypeId} {t : Tg ((⟨d, .call ⟨.value (.func f), xs.toArray, ts⟩, ty, pos, af, g⟩ : Oper), K)} (h : entersB P f = true) : Aop P ⟨d, .call ⟨.value (.func f), xs.toArray, ts⟩, ty, pos, af, g⟩ K t s w = ACall P f K .mk (xs.map (ev s)).toArray w := by
  rw [show (xs.map (ev s)).toArray = xs.toArray.map (ev s) by simp]; exact aop_call h xs.toArray ts
def Builtin' (P : Program) (K : Value → World → Prop) (_ : Tg K) (b : Builtin) (ts : Array TypeId) (ty : TypeId) (xs : List Value) (w : World) : Prop :=
  vS P (match b with | .len => Builtin.len_ ts ty xs.toArray | .append => Builtin.append_ ts ty xs.toArray | .copy => Builtin.copy_ ts ty xs.toArray | .clear => Builtin.clear_ ts ty xs.toArray | .min => Builtin.min_ ts ty xs.toArray | .max => Builtin.max_ ts ty xs.toArray | _ => stuck "") w K
theorem o_len {xs : List Operand} {ts : Array TypeId} {t : Tg ((⟨d, .call ⟨.builtin .len, xs.toArray, ts⟩, ty, pos, af, g⟩ : Oper), K)} : Aop P ⟨d, .call ⟨.builtin .len, xs.toArray, ts⟩, ty, pos, af, g⟩ K t s w = Builtin' P K .mk .len ts ty (xs.map (ev s)) w := by
  have h := aop_len (P := P) (s := s) (w := w) (K := K) (d := d) (ty := ty) (pos := pos) (af := af) (g := g) xs.toArray ts; rw [List.map_toArray] at h; exact h
theorem o_append {xs : List Operand} {ts : Array TypeId} {t : Tg ((⟨d, .call ⟨.builtin .append, xs.toArray, ts⟩, ty, pos, af, g⟩ : Oper), K)} : Aop P ⟨d, .call ⟨.builtin .append, xs.toArray, ts⟩, ty, pos, af, g⟩ K t s w = Builtin' P K .mk .append ts ty (xs.map (ev s)) w := by
  have h := aop_append (P := P) (s := s) (w := w) (K := K) (d := d) (ty := ty) (pos := pos) (af := af) (g := g) xs.toArray ts; rw [List.map_toArray] at h; exact h
theorem o_copy {xs : List Operand} {ts : Array TypeId} {t : Tg ((⟨d, .call ⟨.builtin .copy, xs.toArray, ts⟩, ty, pos, af, g⟩ : Oper), K)} : Aop P ⟨d, .call ⟨.builtin .copy, xs.toArray, ts⟩, ty, pos, af, g⟩ K t s w = Builtin' P K .mk .copy ts ty (xs.map (ev s)) w := by
  have h := aop_copy (P := P) (s := s) (w := w) (K := K) (d := d) (ty := ty) (pos := pos) (af := af) (g := g) xs.toArray ts; rw [List.map_toArray] at h; exact h
theorem o_clear {xs : List Operand} {ts : Array TypeId} {t : Tg ((⟨d, .call ⟨.builtin .clear, xs.toArray, ts⟩, ty, pos, af, g⟩ : Oper), K)} : Aop P ⟨d, .call ⟨.builtin .clear, xs.toArray, ts⟩, ty, pos, af, g⟩ K t s w = Builtin' P K .mk .clear ts ty (xs.map (ev s)) w := by
  have h := aop_clear (P := P) (s := s) (w := w) (K := K) (d := d) (ty := ty) (pos := pos) (af := af) (g := g) xs.toArray ts; rw [List.map_toArray] at h; exact h
theorem o_min {xs : List Operand} {ts : Array TypeId} {t : Tg ((⟨d, .call ⟨.builtin .min, xs.toArray, ts⟩, ty, pos, af, g⟩ : Oper), K)} : Aop P ⟨d, .call ⟨.builtin .min, xs.toArray, ts⟩, ty, pos, af, g⟩ K t s w = Builtin' P K .mk .min ts ty (xs.map (ev s)) w := by
  have h := aop_min (P := P) (s := s) (w := w) (K := K) (d := d) (ty := ty) (pos := pos) (af := af) (g := g) xs.toArray ts; rw [List.map_toArray] at h; exact h
theorem o_max {xs : List Operand} {ts : Array TypeId} {t : Tg ((⟨d, .call ⟨.builtin .max, xs.toArray, ts⟩, ty, pos, af, g⟩ : Oper), K)} : Aop P ⟨d, .call ⟨.builtin .max, xs.toArray, ts⟩, ty, pos, af, g⟩ K t s w = Builtin' P K .mk .max ts ty (xs.map (ev s)) w := by
  have h := aop_max (P := P) (s := s) (w := w) (K := K) (d := d) (ty := ty) (pos := pos) (af := af) (g := g) xs.toArray ts; rw [List.map_toArray] at h; exact h
end ops
section vals
variable {P : Program} {w : World} {K : Value → World → Prop} {tg : Tg K} {t : TypeId} {x y : Operand} {k : IntKind} {a b : Int}
theorem b_add : Bin P K tg .add t x y (.int k a) (.int k b) w = K (.int k (k.wrap (a + b))) w := vb_add
theorem b_sub : Bin P K tg .sub t x y (.int k a) (.int k b) w = K (.int k (k.wrap (a - b))) w := vb_sub
theorem b_mul : Bin P K tg .mul t x y (.int k a) (.int k b) w = K (.int k (k.wrap (a * b))) w := vb_mul
theorem b_lss : Bin P K tg .lss t x y (.int k a) (.int k b) w = K (.bool (decide (a < b))) w := vb_lss
theorem b_leq : Bin P K tg .leq t x y (.int k a) (.int k b) w = K (.bool (decide (a ≤ b))) w := vb_leq
theorem b_gtr : Bin P K tg .gtr t x y (.int k a) (.int k b) w = K (.bool (decide (b < a))) w := vb_gtr
theorem b_geq : Bin P K tg .geq t x y (.int k a) (.int k b) w = K (.bool (decide (b ≤ a))) w := vb_geq
theorem b_eql : Bin P K tg .eql t x y (.int k a) (.int k b) w = K (.bool (decide (a = b))) w := vb_eql
theorem b_neq : Bin P K tg .neq t x y (.int k a) (.int k b) w = K (.bool (decide (¬ a = b))) w := vb_neq
theorem u_not {c : Bool} : VS P K tg (Op.unary .not (.bool c)) w = K (.bool (!c)) w := rfl
theorem u_neg : VS P K tg (Op.unary .neg (.int k a)) w = K (.int k (k.wrap (0 - a))) w := rfl
theorem len_slice {e ty : TypeId} {A : Option Addr} {n c : Nat} (h : P.underlying t = some (.slice e)) : Builtin' P K tg .len #[t] ty [.slice A n c] w = K (.int .i64 (n : Int)) w := v_len_slice h
theorem len_str {ty : TypeId} {l : List UInt8} (h : P.underlying t = some .string) : Builtin' P K tg .len #[t] ty [.string ⟨l.toArray⟩] w = K (.int .i64 (l.length : Int)) w := v_len_str h
end vals
theorem body_of {P : Program} (hm : P.follows .mixedOrders = true) {f : FuncId} {fn : Func} {c : Code} {args : List Value} {rs : List ResultVar} {w : World} {R : Value → World → Prop}
    (hf : P.funcs[f]? = some fn) (hb : fn.body = some c) (hr : fn.results = rs.toArray) (n : Nat) (hn : max fn.ntmps args.length = n) (hok : okCode n c = true)
    (h : Acode P c (Ret P rs R .mk) .mk (argS args 0) w) : ACalls P f args.toArray w R := by
  refine call_of hm hf hb (n := n) (by simpa using hn) hok ?_; rw [hr]; exact h
section
variable {P : Program} {t e : TypeId} {sz b : Nat} {z : Value}
theorem SlT.of (h : P.underlying t = some (.slice e)) (hi : (P.info? e).map (fun i => (i.zero, i.size, i.bytes)) = some (some z, sz, b)) (hz : z.cells.size = sz) (hp : 0 < sz) : SlT P t e sz b z := by
  refine ⟨h, ?_, hz, hp⟩
  cases hq : P.info? e with
  | none => rw [hq] at hi; cases hi
  | some i => rw [hq] at hi; simp only [Option.map_some, Option.some.injEq, Prod.mk.injEq] at hi; exact ⟨i, rfl, hi.2.1, hi.2.2, hi.1⟩
theorem ScT.of (h : (match P.underlying e with | some (.struct _) | some (.array _ _) | none => false | _ => true) = true) (hi : (P.info? e).map (fun i => (i.zero, i.size)) = some (some z, 1)) : ScT P e z := by
  refine ⟨h, ?_⟩
  cases hq : P.info? e with
  | none => rw [hq] at hi; cases hi
  | some i => rw [hq] at hi; simp only [Option.map_some, Option.some.injEq, Prod.mk.injEq] at hi; exact ⟨i, rfl, hi.2, hi.1⟩
theorem StT.of {fs : Array Field} {cs : Array Value} (h : P.underlying t = some (.struct fs)) (hi : (P.info? t).map (fun i => (i.zero, i.size)) = some (some (.agg cs), sz)) (hz : cs.size = sz) : StT P t sz cs := by
  refine ⟨⟨fs, h⟩, ?_, hz⟩
  cases hq : P.info? t with
  | none => rw [hq] at hi; cases hi
  | some i => rw [hq] at hi; simp only [Option.map_some, Option.some.injEq, Prod.mk.injEq] at hi; exact ⟨i, rfl, hi.2, hi.1⟩
variable {w : World} {K : Value → World → Prop} {tg : Tg K}
theorem alloc_st {cs : Array Value} (H : StT P t sz cs) : VS P K tg (Instr.alloc t true (.tuple #[])) w = K (.pointer (some ⟨w.heap.size, 0, none⟩)) (w.alloc (.cells cs t)) := by
  obtain ⟨i, hi, _, hz⟩ := H.inf; exact v_alloc hi hz
theorem fieldAddr_st {fs : Array Field} (H : P.underlying t = some (.struct fs)) {f : Nat} {fd : Field} {a : Addr} {off : Nat} (hf : fs[f]? = some fd) (hi : (match P.info? fd.type with | some i => decide (i.size ≠ 0) && fd.offset == off | none => false) = true) :
    VS P K tg (Instr.fieldAt t (.pointer (some a)) f) w = K (.pointer (some (a.add off))) w := by
  cases hq : P.info? fd.type with
  | none => rw [hq] at hi; cases hi
  | some i =>
    rw [hq] at hi; simp only [Bool.and_eq_true, decide_eq_true_eq, beq_iff_eq] at hi; rw [← hi.2]; exact v_fieldAddr H hf hq rfl hi.1
theorem extract_eq {vs : List Value} {i : Nat} : VS P K tg (Instr.extract (.tuple vs.toArray) i) w = ∃ v, vs[i]? = some v ∧ K v w := by
  unfold VS vS Instr.extract; simp only [List.getElem?_toArray]
  cases vs[i]? <;> simp
theorem add_zero' {a : Addr} : a.add 0 = a := by simp [Addr.add]
end
def encB (b : UInt8) : Value := .int .u8 (b.toNat : Int)
theorem encB_def (b : UInt8) : encB b = .int .u8 (b.toNat : Int) := rfl
theorem enc_inj {x y : UInt8} : ((x.toNat : Int) = (y.toNat : Int)) = (x = y) := by
  apply propext
  constructor
  · intro h; exact UInt8.toNat_inj.1 (by omega)
  · rintro rfl; rfl
abbrev bytes (e : TypeId) : Kd (List UInt8) := Kd.slice e Kd.u8
section
variable {P : Program} {w : World} {K : Value → World → Prop} {tg : Tg K}
theorem x_index {t e : TypeId} {sz b : Nat} {z : Value} (H : SlT P t e sz b z) {A : Option Addr} {n c : Nat} {k : IntKind} {i : Int} (hA : A.isSome = true) (h0 : 0 ≤ i) (h1 : i < (n : Int))
    (h : K (.pointer (some ((adA A).add (i.toNat * sz)))) w) : VS P K tg (Instr.indexAt t (.slice A n c) (.int k i)) w := by
  unfold VS; rw [v_index H hA h0 h1]; exact h
theorem x_load {e : TypeId} {z v : Value} (H : ScT P e z) {a : Addr} (hc : w.cell? a = some v) (h : K v w) : VS P K tg (Instr.loadAt e (.pointer (some a))) w := by
  unfold VS; rw [v_load H hc]; exact h
theorem x_loadAgg {t : TypeId} {sz : Nat} {z : Array Value} (H : StT P t sz z) {a : Addr} (cs : List Value) (hl : cs.length = sz) (hc : ∀ j v, cs[j]? = some v → w.cell? (a.add j) = some v)
    (h : K (.agg cs.toArray) w) : VS P K tg (Instr.loadAt t (.pointer (some a))) w := by
  unfold VS; rw [v_loadAgg H hl hc]; exact h
theorem x_store {e : TypeId} {z v old : Value} (H : ScT P e z) {a : Addr} (hc : w.cell? a = some old) (hf : w.frozen? a = false) (h1 : v.oneCell' = true) {tg : Tg K} (h : K undef (w.setCell a v)) :
    VU P K tg (Instr.storeAt e (.pointer (some a)) v) w := by
  unfold VU; rw [v_store H hc hf h1]; exact h
theorem x_put {e : TypeId} {z v : Value} (H : ScT P e z) {g n c j : Nat} {xs : List Value} (ho : w.owR e 1 (.slice (some ⟨g, 0, none⟩) n c) n xs) (hj : j < n) (h1 : v.oneCell' = true) {tg : Tg K}
    (h : ∀ w', w'.owR e 1 (.slice (some ⟨g, 0, none⟩) n c) n (xs.set j v) → (∀ b, b ≠ g → w'.heap[b]? = w.heap[b]?) → Below g w w' → K undef w') : VU P K tg (Instr.storeAt e (.pointer (some ⟨g, j, none⟩)) v) w := by
  have hl : j < xs.length := by rw [ho.1]; omega
  rcases ho.2 with ⟨h1', _⟩ | ⟨g', cap, cur, h1', _, hh, hc, hm, hs, ht⟩
  · cases h1'
  cases h1'
  have hjc : j < cur.size := by omega
  refine x_store H (old := cur[j]) (by rw [Kd.cell_blk hh, Array.getElem?_eq_getElem hjc]) (frozen_of_row w g j _ e hh) h1 ?_; refine h _ ⟨by rw [List.length_set]; exact ho.1, .inr ⟨g, c, _, rfl, Nat.zero_le _, heap_setCell_same w g j _ e v hh, hc, hm, by simpa using hs, ?_⟩⟩ (fun b hb => Below.heap_setCell _ _ _ _ hb) (Below.setCell (p := ⟨g, j, none⟩) (Below.refl _ _) (Nat.le_refl _) v); rw [Array.toList_setIfInBounds, List.take_set, ht]
theorem x_make {t e : TypeId} {sz b : Nat} {z : Value} (H : SlT P t e sz b z) {k k' : IntKind} {n : Nat} (hb : b * n ≤ 281474976710656) (hn : n ≤ 9223372036854775807)
    (h : ∀ w', w'.owR e sz (.slice (some ⟨w.heap.size, 0, none⟩) n n) n (madeCells z.cells (n * sz)).toList → Below w.heap.size w w' → w.heap.size < w'.heap.size → K (.slice (some ⟨w.heap.size, 0, none⟩) n n) w') :
    VS P K tg (Instr.makeSlice t (.int k (n : Int)) (.int k' (n : Int))) w := by
  obtain ⟨i, hi, hs, hby, hz⟩ := H.inf; obtain ⟨w', hr, ho, hg⟩ := run_make_full (P := P) w 0 t e i z sz H.un hi hz hs k k' n (by rw [hby]; exact hb) (by simpa [maxLen] using hn) (Nat.zero_le _); refine vS_run hr (h w' (owR_of ho) ⟨hg.os, hg.tape, hg.output, hg.size, fun k hk => hg.block k hk (by simp)⟩ ?_)
  rcases ho.2 with ⟨h1, _⟩ | ⟨g, cap, cur, h1, _, h2, _⟩
  · cases h1
  · cases h1; exact (Array.getElem?_eq_some_iff.1 h2).1
end
theorem loop_of {P : Program} {b : Code} {Q : AX → Sl → World → Prop} {tg : Tg (b, Q)} {s : Sl} {w : World} {σ : Type} (J : σ → Sl → World → Prop) (m : σ → Nat) (x : σ) (h0 : J x s w)
    (hr : ∀ x s w, J x s w → Acode P b (Then (fun s' w' => ∃ x', J x' s' w' ∧ m x' < m x) Q .mk) .mk s w) : Loop P b Q tg s w := by
  have key : ∀ s w, (∃ x, J x s w) → ∃ n, (∃ x, J x s w ∧ m x = n) ∧ ∀ k, (∃ x, J x s w ∧ m x = k) → n ≤ k := by
    intro s w ⟨x, hx⟩
    have : ∀ n, (∃ x, J x s w ∧ m x = n) → ∃ n, (∃ x, J x s w ∧ m x = n) ∧ ∀ k, (∃ x, J x s w ∧ m x = k) → n ≤ k := by
      intro n
      induction n using Nat.strongRecOn with
      | _ n ih =>
        intro hn
        by_cases h : ∃ k, k < n ∧ ∃ x, J x s w ∧ m x = k
        · obtain ⟨k, hk, hx⟩ := h; exact ih k hk hx
        · exact ⟨n, hn, fun k hk => Nat.le_of_not_lt fun hlt => h ⟨k, hlt, hk⟩⟩
    exact this (m x) ⟨x, hx, rfl⟩
  refine ⟨fun s w => ∃ x, J x s w, fun s w => Classical.epsilon fun n => (∃ x, J x s w ∧ m x = n) ∧ ∀ k, (∃ x, J x s w ∧ m x = k) → n ≤ k, ⟨x, h0⟩, ?_⟩; intro s w hI; have hs := Classical.epsilon_spec (key s w hI); obtain ⟨⟨x, hx, hm⟩, _⟩ := hs; have h1 := hr x s w hx; refine acode_mono (fun e s' w' he => ?_) b s w h1
  cases e with
  | normal =>
    obtain ⟨x', hx', hlt⟩ := he; refine ⟨⟨x', hx'⟩, ?_⟩; have h2 := (Classical.epsilon_spec (key s' w' ⟨x', hx'⟩)).2 (m x') ⟨x', hx', rfl⟩; rw [hm] at hlt; exact Nat.lt_of_le_of_lt h2 hlt
  | exit i => exact he
  | ret => exact he
def Slots (s : Sl) : List (Nat × Value) → Prop
  | [] => True
  | (d, v) :: l => s d = v ∧ Slots s l
def putAll (s : Sl) : List (Nat × Value) → Sl
  | [] => s
  | (d, v) :: l => upd (putAll s l) d v
theorem slots_nil {s : Sl} : Slots s [] = True := rfl
theorem slots_cons {s : Sl} {d : Nat} {v : Value} {l : List (Nat × Value)} : Slots s ((d, v) :: l) = (s d = v ∧ Slots s l) := rfl
theorem putAll_nil {s : Sl} : putAll s [] = s := rfl
theorem putAll_cons {s : Sl} {d : Nat} {v : Value} {l : List (Nat × Value)} : putAll s ((d, v) :: l) = upd (putAll s l) d v := rfl
theorem Slots.put {s : Sl} : ∀ {l : List (Nat × Value)}, Slots s l → putAll s l = s
  | [], _ => rfl
  | (d, v) :: l, h => by
    rw [putAll_cons, h.2.put]
    funext t
    unfold upd
    split
    · rename_i e; rw [e, h.1]
    · rfl
theorem loop_at {P : Program} {b : Code} {Q : AX → Sl → World → Prop} {tg : Tg (b, Q)} {s : Sl} {w : World} {σ : Type} (sl : σ → List (Nat × Value)) (I : σ → World → Prop) (m : σ → Nat) (x : σ) (h0 : Slots s (sl x)) (h1 : I x w)
    (hr : ∀ x s w, I x w → Acode P b (Then (fun s' w' => ∃ x', Slots s' (sl x') ∧ I x' w' ∧ m x' < m x) Q .mk) .mk (putAll s (sl x)) w) : Loop P b Q tg s w :=
  loop_of (fun x s w => Slots s (sl x) ∧ I x w) m x ⟨h0, h1⟩ fun x s w ⟨hs, hI⟩ => by
    have h := hr x s w hI; rw [hs.put] at h
    exact acode_mono (fun e s w he => by
      cases e with
      | normal => obtain ⟨x', a, b, c⟩ := he; exact ⟨x', ⟨a, b⟩, c⟩
      | exit i => exact he
      | ret => exact he) _ _ _ h
theorem i64_eq {a b : Int} (h : a = b) : Value.int .i64 a = .int .i64 b := by rw [h]
end Go.Proofs.YtcmckbgiiclomabGreatDoor.V
