/- Regions that draw, whose last operations wait for all others: nothing need be kept behind these. -/
import Derived.Test.YtcmckbgiiclomaaGreatDoorVy
namespace Go.Proofs.YtcmckbgiiclomaaGreatDoor.V
open Go Go.RowKit
set_option linter.unusedVariables false

/-- Whatever order is picked from here on; S is shown behind the operations below z. -/
def wpAnyZ (P : Program) (md : Region.Mode) (ops : Array Oper) (Q : Exit → Act → World → Prop) (S : World → Prop) (z : Nat) : Nat → Array Bool → Act → World → Prop
  | 0, listed, a, w => Region.ready md ops listed = [] ∧ Q .normal a w
  | fuel + 1, listed, a, w =>
    (Region.ready md ops listed = [] → Q .normal a w) ∧
    ∀ i ∈ Region.ready md ops listed, wpOp P ops Q i (fun a' w' => (i < z → S w') ∧ wpAnyZ P md ops Q S z fuel (listed.setIfInBounds i true) a' w') a w
/-- What is listed has all it waits for listed. -/
def Closed (ops : Array Oper) (listed : Array Bool) : Prop := ∀ (k : Nat) (o : Oper), ops[k]? = some o → listed.getD k false = true → ∀ e ∈ o.after, Region.binds .any e = true → listed.getD e.on false = true
theorem closed_set {ops : Array Oper} {listed : Array Bool} {j : Nat} (h : Closed ops listed) (hj : j ∈ Region.ready .any ops listed) : Closed ops (listed.setIfInBounds j true) := fun k o ho hk e he hb => by
  refine getD_set_true ?_
  by_cases hjk : j = k
  · subst hjk
    obtain ⟨_, oj, hoj, hall⟩ := mem_ready.1 hj
    rw [ho] at hoj
    cases hoj
    exact hall e he hb
  · rw [getD_set_ne false hjk] at hk
    exact h k o ho hk e he hb
theorem closed_none (ops : Array Oper) (m : Nat) : Closed ops (Array.replicate m false) := fun k o ho hk e he hb => by
  rw [Array.getD_eq_getD_getElem?, Array.getElem?_replicate] at hk
  split at hk <;> simp at hk
/-- Operation j waits for i, at once or through others. -/
inductive Waits (ops : Array Oper) (i : Nat) : Nat → Prop
  | direct {j : Nat} {o : Oper} (ho : ops[j]? = some o) (e : Edge) (he : e ∈ o.after) (hb : Region.binds .any e = true) (h : e.on = i) : Waits ops i j
  | via {j : Nat} {o : Oper} (ho : ops[j]? = some o) (e : Edge) (he : e ∈ o.after) (hb : Region.binds .any e = true) (h : Waits ops i e.on) : Waits ops i j
theorem waits_not {ops : Array Oper} {i j : Nat} {listed : Array Bool} (hc : Closed ops listed) (hi : listed.getD i false = false) (h : Waits ops i j) : listed.getD j false = false ∧ j ∉ Region.ready .any ops listed := by
  induction h with
  | direct ho e he hb h =>
    subst h
    refine ⟨Bool.eq_false_iff.2 fun hk => ?_, fun hr => ?_⟩
    · rw [hc _ _ ho hk e he hb] at hi; cases hi
    · obtain ⟨_, o', ho', hall⟩ := mem_ready.1 hr
      rw [ho] at ho'
      cases ho'
      rw [hall e he hb] at hi; cases hi
  | via ho e he hb _ ih =>
    refine ⟨Bool.eq_false_iff.2 fun hk => ?_, fun hr => ?_⟩
    · rw [hc _ _ ho hk e he hb] at ih; cases ih.1
    · obtain ⟨_, o', ho', hall⟩ := mem_ready.1 hr
      rw [ho] at ho'
      cases ho'
      rw [hall e he hb] at ih; cases ih.1
section
variable {P : Program} {ops : Array Oper} {Q : Exit → Act → World → Prop} {S : World → Prop} {z : Nat}
theorem wpAny_of_Z : ∀ (fuel : Nat) (listed : Array Bool) (a : Act) (w : World), wpAnyZ P .any ops Q S z fuel listed a w → wpAny P .any ops Q fuel listed a w
  | 0, _, _, _, h => h
  | fuel + 1, _, _, _, h => ⟨h.1, fun i hi => wpOp_mono (fun a' w' h' => wpAny_of_Z fuel _ a' w' h'.2) (h.2 i hi)⟩
theorem wpAnyZ_first {i : Nat} {oi : Oper} {v : Value} (hi : ops[i]? = some oi) (hsel : ∀ (j : Nat) (o : Oper) cs b, ops[j]? = some o → o.op ≠ .select cs b)
    (hz : ∀ j, j < ops.size → z ≤ j → Waits ops i j)
    (hQ : ∀ c a w, Q (.panic c) (a.put oi.dst v) w → Q (.panic c) a w) :
    ∀ (fuel : Nat) (listed : Array Bool) (a : Act) (w : World), Closed ops listed →
      (∀ j oj, ops[j]? = some oj → j ≠ i → listed.getD j true = false → (∀ e ∈ oj.after, Region.binds .any e = true → e.on ≠ i) → oi.apart ops oj = true) →
      i ∈ Region.ready .any ops listed → YieldsIf P ops S oi v a → S w →
      wpAnyZ P .any ops Q S z fuel (listed.setIfInBounds i true) (a.put oi.dst v) w → wpAnyZ P .any ops Q S z (fuel + 1) listed a w := by
  intro fuel
  induction fuel with
  | zero =>
    intro listed a w _ _ hr hy hS H
    refine ⟨fun h => (by rw [h] at hr; cases hr), fun j hj => ?_⟩
    by_cases hji : j = i
    · subst hji; exact hy.wpOp hi hS ⟨fun _ => hS, H⟩
    · have := ready_mono hj hji
      rw [H.1] at this
      cases this
  | succ fuel ih =>
    intro listed a w hcl hfree hr hy hS H
    refine ⟨fun h => (by rw [h] at hr; cases hr), fun j hj => ?_⟩
    by_cases hji : j = i
    · subst hji; exact hy.wpOp hi hS ⟨fun _ => hS, H⟩
    · have h1 := H.2 j (ready_mono hj hji)
      obtain ⟨hjun, oj, hoj, hall⟩ := mem_ready.1 hj
      have hnot : ∀ e ∈ oj.after, Region.binds .any e = true → e.on ≠ i := fun e he hb heq => by
        have h1 := hall e he hb
        have h0 := (mem_ready.1 hr).1
        rw [heq] at h1
        rcases Nat.lt_or_ge i listed.size with h' | h'
        · simp [h'] at h0 h1; rw [h0] at h1; cases h1
        · simp [Array.getElem?_eq_none h'] at h1
      have hjz : j < z := by
        rcases Nat.lt_or_ge j z with h' | h'
        · exact h'
        · have h0 := (mem_ready.1 hr).1
          have hi0 : listed.getD i false = false := by
            rcases Nat.lt_or_ge i listed.size with h3 | h3
            · simp [h3] at h0 ⊢; exact h0
            · simp [Array.getElem?_eq_none h3] at h0
          exact absurd hj (waits_not hcl hi0 (hz j (Array.getElem?_eq_some_iff.1 hoj).1 h')).2
      have h2 := wpOp_putIf hoj (hfree j oj hoj hji hjun hnot) (fun cs b => hsel i oi cs b hi) (fun cs b => hsel j oj cs b hoj) hQ hy h1
      have hfree' : ∀ k ok, ops[k]? = some ok → k ≠ i → (listed.setIfInBounds j true).getD k true = false →
          (∀ e ∈ ok.after, Region.binds .any e = true → e.on ≠ i) → oi.apart ops ok = true := fun k ok hk hki hun hno => by
        refine hfree k ok hk hki ?_ hno
        by_cases hjk : j = k
        · subst hjk; exact hjun
        · rw [getD_set_ne true hjk] at hun; exact hun
      refine wpOp_mono (fun a' w' h3 => ⟨fun _ => h3.2.1 hjz, ih (listed.setIfInBounds j true) a' w' (closed_set hcl hj) hfree' (ready_mono hr (Ne.symm hji)) h3.1 (h3.2.1 hjz) ?_⟩) h2
      rw [Array.setIfInBounds_comm _ _ hji]
      exact h3.2.2
end

def waitsN (ops : Array Oper) (i : Nat) : Nat → Nat → Bool
  | 0, _ => false
  | f + 1, j => match ops[j]? with
    | none => false
    | some o => o.after.any fun e => Region.binds .any e && (e.on == i || waitsN ops i f e.on)
theorem waitsN_sound {ops : Array Oper} {i : Nat} : ∀ (f j : Nat), waitsN ops i f j = true → Waits ops i j
  | 0, _, h => by cases h
  | f + 1, j, h => by
    unfold waitsN at h
    split at h
    · cases h
    · rename_i o ho
      rw [← Array.any_toList] at h
      obtain ⟨e, he, h2⟩ := List.any_eq_true.1 h
      simp only [Bool.and_eq_true, Bool.or_eq_true, beq_iff_eq] at h2
      rcases h2.2 with h3 | h3
      · exact .direct ho e (Array.mem_toList_iff.1 he) h2.1 h3
      · exact .via ho e (Array.mem_toList_iff.1 he) h2.1 (waitsN_sound f _ h3)
/-- All from z on wait for operation i. -/
def zwaits (ops : Array Oper) (z i : Nat) : Bool := (List.range ops.size).all fun j => decide (j < z) || waitsN ops i ops.size j
theorem zwaits_spec {ops : Array Oper} {z i : Nat} (h : zwaits ops z i = true) : ∀ j, j < ops.size → z ≤ j → Waits ops i j := fun j hj hz => by
  have := List.all_eq_true.1 h j (List.mem_range.2 hj)
  simp only [Bool.or_eq_true, decide_eq_true_eq] at this
  rcases this with h1 | h1
  · omega
  · exact waitsN_sound _ _ h1

def adrZ (P : Program) (ops : Array Oper) (K : Sl → World → Prop) (S : World → Prop) (z k : Nat) (listed : Array Bool) (s : Sl) (w : World) : Prop :=
  ∀ n a, Agr n a s → ops.all (dstOk n) = true → wpAnyZ P .any ops (postN n K) S z k listed a w
section
variable {P : Program} {ops : Array Oper} {K : Sl → World → Prop} {S : World → Prop} {z k : Nat} {listed : Array Bool} {s : Sl} {w : World}
theorem adrZ_done (hr : Region.ready .any ops listed = []) (h : K s w) : adrZ P ops K S z k listed s w := fun _ _ ha _ => by
  cases k with
  | zero => exact ⟨hr, s, ha, h⟩
  | succ k => exact ⟨fun _ => ⟨s, ha, h⟩, by rw [hr]; simp⟩
theorem adrZ_take (i : Nat) {o : Oper} {v : Value}
    (hi : ops[i]? = some o) (hs : Region.noSelect ops = true) (hz : zwaits ops z i = true) (hcl : Closed ops listed) (hf : Region.free .any ops listed i = true) (hr : (Region.ready .any ops listed).contains i = true) (hS : S w)
    (hy : (Region.wanted o (yl ops s) = true ∧ ∀ w', S w' → (execOp (ev s) o).run P w' = .ok (.value v) w') ∨ (Region.wanted o (yl ops s) = false ∧ v = undef))
    (h : adrZ P ops K S z k (listed.setIfInBounds i true) (putS s o.dst v) w) : adrZ P ops K S z (k + 1) listed s w := by
  intro n a ha hok
  have hd : dstOk n o = true := Array.all_eq_true_iff_forall_mem.1 hok o (Array.mem_of_getElem? hi)
  have hyl : yielded ops a.tmps = yl ops s := funext (ha.yielded ops)
  refine wpAnyZ_first hi (Region.noSelect_spec hs) (zwaits_spec hz) (fun c a w hq => hq) k listed a w hcl (Region.free_spec hi hf) (by simpa using hr) ?_ hS (h n _ (ha.put hd v) hok)
  unfold YieldsIf
  rw [hyl, ← ev_slotsOf, ha.slots]
  exact hy
theorem adrZ_all (rs : List Nat)
    (hr : Region.ready .any ops listed = rs) (hne : rs ≠ []) (h : ∀ i ∈ rs, aopI P ops i s w fun s' w' => (i < z → S w') ∧ adrZ P ops K S z k (listed.setIfInBounds i true) s' w') :
    adrZ P ops K S z (k + 1) listed s w := by
  intro n a ha hok
  refine ⟨fun h0 => absurd (hr ▸ h0) hne, hr ▸ fun i hi => ?_⟩
  have hi' := h i hi
  unfold aopI at hi'
  unfold wpOp
  cases ho : ops[i]? with
  | none => rw [ho] at hi'; exact hi'.elim
  | some o =>
    rw [ho] at hi'
    have hd : dstOk n o = true := Array.all_eq_true_iff_forall_mem.1 hok o (Array.mem_of_getElem? ho)
    have hyl : yielded ops a.tmps = yl ops s := funext (ha.yielded ops)
    simp only [hyl]
    split
    · rename_i hw
      simp only [hw, if_true] at hi'
      exact .inl (aop_sound ha (fun v w' hv => ⟨hv.1, hv.2 n _ (ha.put hd v) hok⟩) hi')
    · rename_i hw
      simp only [hw, Bool.false_eq_true, if_false] at hi'
      exact ⟨hi'.1, hi'.2 n _ (ha.put hd undef) hok⟩
end

/-- The early ones that are taken first are waited for by all late ones. -/
def planZ (ops : Array Oper) (z : Nat) (l : List (Nat × Bool)) : Bool := l.all fun p => !p.2 || zwaits ops z p.1
theorem preZ_sound {P : Program} {ops : Array Oper} {S : World → Prop} {K : Sl → World → Prop} {z : Nat} (hs : Region.noSelect ops = true) :
    ∀ (l : List (Nat × Bool)) (k : Nat) (listed : Array Bool) (s : Sl) (w : World), Closed ops listed → planPre ops l listed = true → planZ ops z l = true → S w → dpl P ops S (fun s w => S w → adrZ P ops K S z k (planTo l listed) s w) l s w → adrZ P ops K S z (l.length + k) listed s w
  | [], k, listed, s, w, _, hp, _, hS, h => by rw [List.length_nil, Nat.zero_add]; exact h hS
  | (i, true) :: rest, k, listed, s, w, hcl, hp, hz, hS, h => by
    simp only [planPre, Bool.and_eq_true] at hp
    simp only [planZ, List.all_cons, Bool.not_true, Bool.false_or, Bool.and_eq_true] at hz
    rw [List.length_cons, Nat.succ_add]
    simp only [dpl] at h
    cases ho : ops[i]? with
    | none => rw [ho] at h; exact h.elim
    | some o =>
      rw [ho] at h
      simp only at h
      by_cases hw : Region.wanted o (yl ops s) = true
      · rw [if_pos hw] at h
        obtain ⟨v, hv, h⟩ := h
        exact adrZ_take i ho hs hz.1 hcl hp.1.1 hp.1.2 hS (.inl ⟨hw, hv⟩) (preZ_sound hs rest k _ _ _ (closed_set hcl (by simpa using hp.1.2)) hp.2 hz.2 hS h)
      · rw [if_neg hw] at h
        exact adrZ_take i ho hs hz.1 hcl hp.1.1 hp.1.2 hS (.inr ⟨by simpa using hw, rfl⟩) (preZ_sound hs rest k _ _ _ (closed_set hcl (by simpa using hp.1.2)) hp.2 hz.2 hS h)
  | (i, false) :: rest, k, listed, s, w, hcl, hp, hz, _, h => by
    simp only [planPre, Bool.and_eq_true, beq_iff_eq] at hp
    simp only [planZ, List.all_cons, Bool.not_false, Bool.true_or, Bool.true_and] at hz
    rw [List.length_cons, Nat.succ_add]
    refine adrZ_all [i] hp.1 (by simp) fun j hj => ?_
    simp only [List.mem_singleton] at hj
    subst hj
    have h' : aopI P ops j s w fun s' w' => S w' ∧ dpl P ops S (fun s w => S w → adrZ P ops K S z k (planTo rest (listed.setIfInBounds j true)) s w) rest s' w' := h
    exact aopI_mono h' fun s' w' hv => ⟨fun _ => hv.1, preZ_sound hs rest k _ _ _ (closed_set hcl (by rw [hp.1]; simp)) hp.2 hz hv.1 hv.2⟩

/-- The late ones, in their order. -/
def dlate (P : Program) (ops : Array Oper) (K : Sl → World → Prop) : List Nat → Sl → World → Prop
  | [], s, w => K s w
  | i :: r, s, w => aopI P ops i s w fun s' w' => dlate P ops K r s' w'
def lateOk (ops : Array Oper) (z : Nat) : List Nat → Array Bool → Bool
  | [], listed => (Region.ready .any ops listed).isEmpty
  | i :: r, listed => decide (z ≤ i) && (Region.ready .any ops listed == [i]) && lateOk ops z r (listed.setIfInBounds i true)
theorem late_sound {P : Program} {ops : Array Oper} {S : World → Prop} {K : Sl → World → Prop} {z : Nat} :
    ∀ (l : List Nat) (k : Nat) (listed : Array Bool) (s : Sl) (w : World), lateOk ops z l listed = true → l.length ≤ k → dlate P ops K l s w → adrZ P ops K S z k listed s w
  | [], k, listed, s, w, hp, _, h => adrZ_done (by simpa [lateOk] using hp) h
  | i :: r, k, listed, s, w, hp, hk, h => by
    simp only [lateOk, Bool.and_eq_true, beq_iff_eq, decide_eq_true_eq] at hp
    obtain ⟨k, rfl⟩ : ∃ m, k = m + 1 := ⟨k - 1, by simp at hk; omega⟩
    refine adrZ_all [i] hp.1.2 (by simp) fun j hj => ?_
    simp only [List.mem_singleton] at hj
    subst hj
    have h' : aopI P ops j s w fun s' w' => dlate P ops K r s' w' := h
    exact aopI_mono h' fun s' w' hv => ⟨fun hlt => absurd hlt (by omega), late_sound r k _ _ _ hp.2 (by simp at hk; omega) hv⟩

theorem dpl_mono {P : Program} {ops : Array Oper} {S : World → Prop} {K K' : Sl → World → Prop} (hk : ∀ s w, K s w → K' s w) : ∀ (l : List (Nat × Bool)) (s : Sl) (w : World), dpl P ops S K l s w → dpl P ops S K' l s w
  | [], s, w, h => hk s w h
  | (i, true) :: r, s, w, h => by
    simp only [dpl] at h ⊢
    cases ho : ops[i]? with
    | none => rw [ho] at h; exact h.elim
    | some o =>
      rw [ho] at h
      simp only at h ⊢
      by_cases hw : Region.wanted o (yl ops s) = true
      · rw [if_pos hw] at h ⊢
        obtain ⟨v, hv, h⟩ := h
        exact ⟨v, hv, dpl_mono hk r _ _ h⟩
      · rw [if_neg hw] at h ⊢
        exact dpl_mono hk r _ _ h
  | (i, false) :: r, s, w, h => aopI_mono (K := fun s' w' => S w' ∧ dpl P ops S K r s' w') h fun s' w' hv => ⟨hv.1, dpl_mono hk r _ _ hv.2⟩

/-! ### marked words -/
def DLate (P : Program) (ops : Array Oper) (K : Sl → World → Prop) (l : List Nat) (_ : Tg (ops, K, l)) (s : Sl) (w : World) : Prop := dlate P ops K l s w
section
variable {P : Program} {l : List Oper} {n : Nat} {G : List (Nat × Nat)} {w0 : World} {K : Sl → World → Prop} {s : Sl} {w : World} {listed : Array Bool} {z k : Nat}
theorem dl_nil {tg : Tg (l.toArray, K, ([] : List Nat))} (h : K s w) : DLate P l.toArray K [] tg s w := h
theorem dl_cons {i : Nat} {r : List Nat} {tg : Tg (l.toArray, K, i :: r)}
    (h : ∃ o, l[i]? = some o ∧ If (Aop P o (fun v w' => DLate P l.toArray K r .mk (putS s o.dst v) w') .mk s w) (DLate P l.toArray K r .mk (putS s o.dst undef) w) .mk (Region.wanted o (yl l.toArray s) = true)) : DLate P l.toArray K (i :: r) tg s w := by
  obtain ⟨o, ho, h⟩ := h
  unfold DLate
  simp only [dlate, aopI, List.getElem?_toArray, ho]
  unfold If at h
  by_cases hw : Region.wanted o (yl l.toArray s) = true
  · rw [if_pos hw]; exact h.1 hw
  · rw [if_neg hw]; exact h.2 hw
/-- The same: all that was there is kept, but for the blocks of G. -/
theorem draw_zat {tg : Tg (l.toArray, K)} (pl : List (Nat × Bool)) (z : Nat) (late : List Nat) (G : List (Nat × Nat)) (h : ∀ w1, w1.heap = w.heap → (∀ m, Below m w w1) → Dpl P l.toArray w1.heap.size G w1 (fun s w => DLate P l.toArray K late .mk s w) pl .mk s w1)
    (hs : Region.noSelect l.toArray = true := by kernel_rfl) (hp : planPre l.toArray pl (Array.replicate l.toArray.size false) = true := by kernel_rfl) (hz : planZ l.toArray z pl = true := by kernel_rfl)
    (hq : lateOk l.toArray z late (planTo pl (Array.replicate l.toArray.size false)) = true := by kernel_rfl) (hl : pl.length + late.length = l.toArray.size := by decide) : Adraw P l.toArray K tg s w := by
  have h1 := h w.drew rfl fun m => (Below.refl m w).drew
  have key : adrZ P l.toArray K (Kept w.drew.heap.size G w.drew) z l.toArray.size (Array.replicate l.toArray.size false) s w.drew := by
    rw [← hl]
    refine preZ_sound hs pl late.length _ s w.drew (closed_none _ _) (by rw [hl]; exact hp) hz (Kept.refl ..) ?_
    have : ∀ (s : Sl) (w' : World), DLate P l.toArray K late .mk s w' → Kept w.drew.heap.size G w.drew w' → adrZ P l.toArray K (Kept w.drew.heap.size G w.drew) z late.length (planTo pl (Array.replicate (pl.length + late.length) false)) s w' := fun s w' hd _ => late_sound late _ _ s w' (by rw [hl]; exact hq) (Nat.le_refl _) hd
    exact dpl_mono this pl s w.drew h1
  exact fun m a ha hok => wpAny_of_Z _ _ _ _ (key m a ha hok)
end

/-! ### quiet loads where some blocks may change -/
def fpG (f : List Nat) : List (Nat × Nat) := f.map fun b => (b, 0)
theorem fpG_mem {f : List Nat} {b : Nat} (h : b ∈ f) : (b, 0) ∈ fpG f := List.mem_map.2 ⟨b, h, rfl⟩
theorem fpG_zero {f : List Nat} : ∀ g t, (g, t) ∈ fpG f → t = 0 := fun g t h => by
  obtain ⟨b, _, e⟩ := List.mem_map.1 h
  exact (Prod.mk.inj e).2.symm
section
variable {P : Program} {n m : Nat} {w0 w : World} {L M M' : List Ck} {K : Value → Prop} {G : List (Nat × Nat)} {α : Type} {d : Kd α}
theorem Sep.apartG (H : Sep n w0 w L) {g : Nat} {cs cs' : List Value} {t : TypeId} {f : List Nat} {x : α} (h : Out (Ck.own d f cs' x) L M) (h' : Out (Ck.box g cs t) M M') : ∀ k, (g, k) ∉ fpG f := fun k hk => by
  have H1 := (H.out h).out (.there h')
  obtain ⟨b, hb, e⟩ := List.mem_map.1 hk
  obtain ⟨rfl, _⟩ := Prod.mk.inj e
  have hnd := H1.nd
  simp only [fps, Ck.own_fp, Ck.box, List.singleton_append] at hnd
  exact (List.nodup_cons.1 hnd).1 (List.mem_append_left _ hb)
theorem q_ldG {tg : Tg (w.heap.size, G, w, K)} (H : Sep n w0 w L) {g j : Nat} {cs : List Value} {t e : TypeId} {z v : Value} (HS : ScT P e z) (hG : ∀ k, (g, k) ∉ G) (h : K v) (hm : Ck.box g cs t ∈ L := by repeat (first | exact List.mem_cons_self | apply List.mem_cons_of_mem)) (hv : cs[j]? = some v := by rfl) :
    QS P w.heap.size G w K tg (Instr.loadAt e (.pointer (some ⟨g, j, none⟩))) :=
  qx_load HS (by rw [H.cell hm]; exact hv) (H.lt hm) hG h
theorem q_ldaG {tg : Tg (w.heap.size, G, w, K)} (H : Sep n w0 w L) {g : Nat} {cs : List Value} {t e : TypeId} {sz : Nat} {z : Array Value} (HS : StT P e sz z) (hG : ∀ k, (g, k) ∉ G) (h : K (.agg cs.toArray)) (hm : Ck.box g cs t ∈ L := by repeat (first | exact List.mem_cons_self | apply List.mem_cons_of_mem)) (hl : cs.length = sz := by rfl) :
    QS P w.heap.size G w K tg (Instr.loadAt e (.pointer (some ⟨g, 0, none⟩))) :=
  qx_loadAgg HS cs hl (fun j v hj => by rw [Kd.add_plain, H.cell hm]; exact hj) (H.lt hm) hG h
end
end Go.Proofs.YtcmckbgiiclomaaGreatDoor.V
