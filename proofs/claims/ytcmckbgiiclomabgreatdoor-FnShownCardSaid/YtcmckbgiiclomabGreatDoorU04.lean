/- Texts laid by programs, part 4. -/
import Derived.Test.YtcmckbgiiclomabGreatDoorU03
namespace Go.Proofs.YtcmckbgiiclomabGreatDoor.V
open Go Go.RowKit
set_option linter.unusedSimpArgs false
set_option linter.unusedVariables false
set_option pp.deepTerms false
set_option pp.deepTerms.threshold 3
def wpAnyZ (P : Program) (md : Region.Mode) (ops : Array Oper) (Q : Exit → Act → World → Prop) (S : World → Prop) (z : Nat) : Nat → Array Bool → Act → World → Prop
  | 0, listed, a, w => Region.ready md ops listed = [] ∧ Q .normal a w
  | fuel + 1, listed, a, w =>
    (Region.ready md ops listed = [] → Q .normal a w) ∧
    ∀ i ∈ Region.ready md ops listed, wpOp P ops Q i (fun a' w' => (i < z → S w') ∧ wpAnyZ P md ops Q S z fuel (listed.setIfInBounds i true) a' w') a w
def Closed (ops : Array Oper) (listed : Array Bool) : Prop := ∀ (k : Nat) (o : Oper), ops[k]? = some o → listed.getD k false = true → ∀ e ∈ o.after, Region.binds .any e = true → listed.getD e.on false = true
theorem closed_set {ops : Array Oper} {listed : Array Bool} {j : Nat} (h : Closed ops listed) (hj : j ∈ Region.ready .any ops listed) : Closed ops (listed.setIfInBounds j true) := fun k o ho hk e he hb => by
  refine getD_set_true ?_
  by_cases hjk : j = k
  · subst hjk
    obtain ⟨_, oj, hoj, hall⟩ := mem_ready.1 hj; rw [ho] at hoj
    cases hoj
    exact hall e he hb
  · rw [getD_set_ne false hjk] at hk
    exact h k o ho hk e he hb
theorem closed_none (ops : Array Oper) (m : Nat) : Closed ops (Array.replicate m false) := fun k o ho hk e he hb => by
  rw [Array.getD_eq_getD_getElem?, Array.getElem?_replicate] at hk
  split at hk <;> simp at hk
inductive Waits (ops : Array Oper) (i : Nat) : Nat → Prop
  | direct {j : Nat} {o : Oper} (ho : ops[j]? = some o) (e : Edge) (he : e ∈ o.after) (hb : Region.binds .any e = true) (h : e.on = i) : Waits ops i j
  | via {j : Nat} {o : Oper} (ho : ops[j]? = some o) (e : Edge) (he : e ∈ o.after) (hb : Region.binds .any e = true) (h : Waits ops i e.on) : Waits ops i j
theorem waits_not {ops : Array Oper} {i j : Nat} {listed : Array Bool} (hc : Closed ops listed) (hi : listed.getD i false = false) (h : Waits ops i j) : listed.getD j false = false ∧ j ∉ Region.ready .any ops listed := by
  induction h with
  | direct ho e he hb h =>
    subst h; refine ⟨Bool.eq_false_iff.2 fun hk => ?_, fun hr => ?_⟩
    · rw [hc _ _ ho hk e he hb] at hi; cases hi
    · obtain ⟨_, o', ho', hall⟩ := mem_ready.1 hr
      rw [ho] at ho'
      cases ho'
      rw [hall e he hb] at hi; cases hi
  | via ho e he hb _ ih =>
    refine ⟨Bool.eq_false_iff.2 fun hk => ?_, fun hr => ?_⟩
    · rw [hc _ _ ho hk e he hb] at ih; cases ih.1
    · obtain ⟨_, o', ho', hall⟩ := mem_ready.1 hr
      rw [ho] at ho'
      cases ho'
      rw [hall e he hb] at ih; cases ih.1
section
variable {P : Program} {ops : Array Oper} {Q : Exit → Act → World → Prop} {S : World → Prop} {z : Nat}
theorem wpAny_of_Z : ∀ (fuel : Nat) (listed : Array Bool) (a : Act) (w : World), wpAnyZ P .any ops Q S z fuel listed a w → wpAny P .any ops Q fuel listed a w
  | 0, _, _, _, h => h
  | fuel + 1, _, _, _, h => ⟨h.1, fun i hi => wpOp_mono (fun a' w' h' => wpAny_of_Z fuel _ a' w' h'.2) (h.2 i hi)⟩
theorem wpAnyZ_first {i : Nat} {oi : Oper} {v : Value} (hi : ops[i]? = some oi) (hsel : ∀ (j : Nat) (o : Oper) cs b, ops[j]? = some o → o.op ≠ .select cs b)
    (hz : ∀ j, j < ops.size → z ≤ j → Waits ops i j)
    (hQ : ∀ c a w, Q (.panic c) (a.put oi.dst v) w → Q (.panic c) a w) :
    ∀ (fuel : Nat) (listed : Array Bool) (a : Act) (w : World), Closed ops listed →
      (∀ j oj, ops[j]? = some oj → j ≠ i → listed.getD j true = false → (∀ e ∈ oj.after, Region.binds .any e = true → e.on ≠ i) → oi.apart ops oj = true) →
      i ∈ Region.ready .any ops listed → YieldsIf P ops S oi v a → S w →
      wpAnyZ P .any ops Q S z fuel (listed.setIfInBounds i true) (a.put oi.dst v) w → wpAnyZ P .any ops Q S z (fuel + 1) listed a w := by
  intro fuel
  induction fuel with
  | zero =>
    intro listed a w _ _ hr hy hS H; refine ⟨fun h => (by rw [h] at hr; cases hr), fun j hj => ?_⟩
    by_cases hji : j = i
    · subst hji; exact hy.wpOp hi hS ⟨fun _ => hS, H⟩
    · have := ready_mono hj hji
      rw [H.1] at this
      cases this
  | succ fuel ih =>
    intro listed a w hcl hfree hr hy hS H; refine ⟨fun h => (by rw [h] at hr; cases hr), fun j hj => ?_⟩
    by_cases hji : j = i
    · subst hji; exact hy.wpOp hi hS ⟨fun _ => hS, H⟩
    · have h1 := H.2 j (ready_mono hj hji)
      obtain ⟨hjun, oj, hoj, hall⟩ := mem_ready.1 hj
      have hnot : ∀ e ∈ oj.after, Region.binds .any e = true → e.on ≠ i := fun e he hb heq => by
        have h1 := hall e he hb; have h0 := (mem_ready.1 hr).1; rw [heq] at h1
        rcases Nat.lt_or_ge i listed.size with h' | h'
        · simp [h'] at h0 h1; rw [h0] at h1; cases h1
        · simp [Array.getElem?_eq_none h'] at h1
      have hjz : j < z := by
        rcases Nat.lt_or_ge j z with h' | h'
        · exact h'
        · have h0 := (mem_ready.1 hr).1
          have hi0 : listed.getD i false = false := by
            rcases Nat.lt_or_ge i listed.size with h3 | h3
            · simp [h3] at h0 ⊢; exact h0
            · simp [Array.getElem?_eq_none h3] at h0
          exact absurd hj (waits_not hcl hi0 (hz j (Array.getElem?_eq_some_iff.1 hoj).1 h')).2
      have h2 := wpOp_putIf hoj (hfree j oj hoj hji hjun hnot) (fun cs b => hsel i oi cs b hi) (fun cs b => hsel j oj cs b hoj) hQ hy h1
      have hfree' : ∀ k ok, ops[k]? = some ok → k ≠ i → (listed.setIfInBounds j true).getD k true = false →
          (∀ e ∈ ok.after, Region.binds .any e = true → e.on ≠ i) → oi.apart ops ok = true := fun k ok hk hki hun hno => by
        refine hfree k ok hk hki ?_ hno
        by_cases hjk : j = k
        · subst hjk; exact hjun
        · rw [getD_set_ne true hjk] at hun; exact hun
      refine wpOp_mono (fun a' w' h3 => ⟨fun _ => h3.2.1 hjz, ih (listed.setIfInBounds j true) a' w' (closed_set hcl hj) hfree' (ready_mono hr (Ne.symm hji)) h3.1 (h3.2.1 hjz) ?_⟩) h2; rw [Array.setIfInBounds_comm _ _ hji]; exact h3.2.2
end
def waitsN (ops : Array Oper) (i : Nat) : Nat → Nat → Bool
  | 0, _ => false
  | f + 1, j => match ops[j]? with
    | none => false
    | some o => o.after.any fun e => Region.binds .any e && (e.on == i || waitsN ops i f e.on)
theorem waitsN_sound {ops : Array Oper} {i : Nat} : ∀ (f j : Nat), waitsN ops i f j = true → Waits ops i j
  | 0, _, h => by cases h
  | f + 1, j, h => by
    unfold waitsN at h
    split at h
    · cases h
    · rename_i o ho
      rw [← Array.any_toList] at h; obtain ⟨e, he, h2⟩ := List.any_eq_true.1 h; simp only [Bool.and_eq_true, Bool.or_eq_true, beq_iff_eq] at h2
      rcases h2.2 with h3 | h3
      · exact .direct ho e (Array.mem_toList_iff.1 he) h2.1 h3
      · exact .via ho e (Array.mem_toList_iff.1 he) h2.1 (waitsN_sound f _ h3)
def zwaits (ops : Array Oper) (z i : Nat) : Bool := (List.range ops.size).all fun j => decide (j < z) || waitsN ops i ops.size j
theorem zwaits_spec {ops : Array Oper} {z i : Nat} (h : zwaits ops z i = true) : ∀ j, j < ops.size → z ≤ j → Waits ops i j := fun j hj hz => by
  have := List.all_eq_true.1 h j (List.mem_range.2 hj); simp only [Bool.or_eq_true, decide_eq_true_eq] at this
  rcases this with h1 | h1
  · omega
  · exact waitsN_sound _ _ h1
def adrZ (P : Program) (ops : Array Oper) (K : Sl → World → Prop) (S : World → Prop) (z k : Nat) (listed : Array Bool) (s : Sl) (w : World) : Prop :=
  ∀ n a, Agr n a s → ops.all (dstOk n) = true → wpAnyZ P .any ops (postN n K) S z k listed a w
section
variable {P : Program} {ops : Array Oper} {K : Sl → World → Prop} {S : World → Prop} {z k : Nat} {listed : Array Bool} {s : Sl} {w : World}
theorem adrZ_done (hr : Region.ready .any ops listed = []) (h : K s w) : adrZ P ops K S z k listed s w := fun _ _ ha _ => by
  cases k with
  | zero => exact ⟨hr, s, ha, h⟩
  | succ k => exact ⟨fun _ => ⟨s, ha, h⟩, by rw [hr]; simp⟩
theorem adrZ_take (i : Nat) {o : Oper} {v : Value}
    (hi : ops[i]? = some o) (hs : Region.noSelect ops = true) (hz : zwaits ops z i = true) (hcl : Closed ops listed) (hf : Region.free .any ops listed i = true) (hr : (Region.ready .any ops listed).contains i = true) (hS : S w)
    (hy : (Region.wanted o (yl ops s) = true ∧ ∀ w', S w' → (execOp (ev s) o).run P w' = .ok (.value v) w') ∨ (Region.wanted o (yl ops s) = false ∧ v = undef))
    (h : adrZ P ops K S z k (listed.setIfInBounds i true) (putS s o.dst v) w) : adrZ P ops K S z (k + 1) listed s w := by
  intro n a ha hok; have hd : dstOk n o = true := Array.all_eq_true_iff_forall_mem.1 hok o (Array.mem_of_getElem? hi); have hyl : yielded ops a.tmps = yl ops s := funext (ha.yielded ops); refine wpAnyZ_first hi (Region.noSelect_spec hs) (zwaits_spec hz) (fun c a w hq => hq) k listed a w hcl (Region.free_spec hi hf) (by simpa using hr) ?_ hS (h n _ (ha.put hd v) hok); unfold YieldsIf; rw [hyl, ← ev_slotsOf, ha.slots]; exact hy
theorem adrZ_all (rs : List Nat)
    (hr : Region.ready .any ops listed = rs) (hne : rs ≠ []) (h : ∀ i ∈ rs, aopI P ops i s w fun s' w' => (i < z → S w') ∧ adrZ P ops K S z k (listed.setIfInBounds i true) s' w') :
    adrZ P ops K S z (k + 1) listed s w := by
  intro n a ha hok; refine ⟨fun h0 => absurd (hr ▸ h0) hne, hr ▸ fun i hi => ?_⟩; have hi' := h i hi; unfold aopI at hi'; unfold wpOp
  cases ho : ops[i]? with
  | none => rw [ho] at hi'; exact hi'.elim
  | some o =>
    rw [ho] at hi'; have hd : dstOk n o = true := Array.all_eq_true_iff_forall_mem.1 hok o (Array.mem_of_getElem? ho); have hyl : yielded ops a.tmps = yl ops s := funext (ha.yielded ops); simp only [hyl]
    split
    · rename_i hw
      simp only [hw, if_true] at hi'; exact .inl (aop_sound ha (fun v w' hv => ⟨hv.1, hv.2 n _ (ha.put hd v) hok⟩) hi')
    · rename_i hw
      simp only [hw, Bool.false_eq_true, if_false] at hi'; exact ⟨hi'.1, hi'.2 n _ (ha.put hd undef) hok⟩
end
def planZ (ops : Array Oper) (z : Nat) (l : List (Nat × Bool)) : Bool := l.all fun p => !p.2 || zwaits ops z p.1
theorem preZ_sound {P : Program} {ops : Array Oper} {S : World → Prop} {K : Sl → World → Prop} {z : Nat} (hs : Region.noSelect ops = true) :
    ∀ (l : List (Nat × Bool)) (k : Nat) (listed : Array Bool) (s : Sl) (w : World), Closed ops listed → planPre ops l listed = true → planZ ops z l = true → S w → dpl P ops S (fun s w => S w → adrZ P ops K S z k (planTo l listed) s w) l s w → adrZ P ops K S z (l.length + k) listed s w
  | [], k, listed, s, w, _, hp, _, hS, h => by rw [List.length_nil, Nat.zero_add]; exact h hS
  | (i, true) :: rest, k, listed, s, w, hcl, hp, hz, hS, h => by
    simp only [planPre, Bool.and_eq_true] at hp; simp only [planZ, List.all_cons, Bool.not_true, Bool.false_or, Bool.and_eq_true] at hz; rw [List.length_cons, Nat.succ_add]; simp only [dpl] at h
    cases ho : ops[i]? with
    | none => rw [ho] at h; exact h.elim
    | some o =>
      rw [ho] at h; simp only at h
      by_cases hw : Region.wanted o (yl ops s) = true
      · rw [if_pos hw] at h
        obtain ⟨v, hv, h⟩ := h; exact adrZ_take i ho hs hz.1 hcl hp.1.1 hp.1.2 hS (.inl ⟨hw, hv⟩) (preZ_sound hs rest k _ _ _ (closed_set hcl (by simpa using hp.1.2)) hp.2 hz.2 hS h)
      · rw [if_neg hw] at h
        exact adrZ_take i ho hs hz.1 hcl hp.1.1 hp.1.2 hS (.inr ⟨by simpa using hw, rfl⟩) (preZ_sound hs rest k _ _ _ (closed_set hcl (by simpa using hp.1.2)) hp.2 hz.2 hS h)
  | (i, false) :: rest, k, listed, s, w, hcl, hp, hz, _, h => by
    simp only [planPre, Bool.and_eq_true, beq_iff_eq] at hp; simp only [planZ, List.all_cons, Bool.not_false, Bool.true_or, Bool.true_and] at hz; rw [List.length_cons, Nat.succ_add]; refine adrZ_all [i] hp.1 (by simp) fun j hj => ?_; simp only [List.mem_singleton] at hj; subst hj; have h' : aopI P ops j s w fun s' w' => S w' ∧ dpl P ops S (fun s w => S w → adrZ P ops K S z k (planTo rest (listed.setIfInBounds j true)) s w) rest s' w' := h; exact aopI_mono h' fun s' w' hv => ⟨fun _ => hv.1, preZ_sound hs rest k _ _ _ (closed_set hcl (by rw [hp.1]; simp)) hp.2 hz hv.1 hv.2⟩
def dlate (P : Program) (ops : Array Oper) (K : Sl → World → Prop) : List Nat → Sl → World → Prop
  | [], s, w => K s w
  | i :: r, s, w => aopI P ops i s w fun s' w' => dlate P ops K r s' w'
def lateOk (ops : Array Oper) (z : Nat) : List Nat → Array Bool → Bool
  | [], listed => (Region.ready .any ops listed).isEmpty
  | i :: r, listed => decide (z ≤ i) && (Region.ready .any ops listed == [i]) && lateOk ops z r (listed.setIfInBounds i true)
theorem late_sound {P : Program} {ops : Array Oper} {S : World → Prop} {K : Sl → World → Prop} {z : Nat} :
    ∀ (l : List Nat) (k : Nat) (listed : Array Bool) (s : Sl) (w : World), lateOk ops z l listed = true → l.length ≤ k → dlate P ops K l s w → adrZ P ops K S z k listed s w
  | [], k, listed, s, w, hp, _, h => adrZ_done (by simpa [lateOk] using hp) h
  | i :: r, k, listed, s, w, hp, hk, h => by
    simp only [lateOk, Bool.and_eq_true, beq_iff_eq, decide_eq_true_eq] at hp; obtain ⟨k, rfl⟩ : ∃ m, k = m + 1 := ⟨k - 1, by simp at hk; omega⟩; refine adrZ_all [i] hp.1.2 (by simp) fun j hj => ?_; simp only [List.mem_singleton] at hj; subst hj; have h' : aopI P ops j s w fun s' w' => dlate P ops K r s' w' := h; exact aopI_mono h' fun s' w' hv => ⟨fun hlt => absurd hlt (by omega), late_sound r k _ _ _ hp.2 (by simp at hk; omega) hv⟩
theorem dpl_mono {P : Program} {ops : Array Oper} {S : World → Prop} {K K' : Sl → World → Prop} (hk : ∀ s w, K s w → K' s w) : ∀ (l : List (Nat × Bool)) (s : Sl) (w : World), dpl P ops S K l s w → dpl P ops S K' l s w
  | [], s, w, h => hk s w h
  | (i, true) :: r, s, w, h => by
    simp only [dpl] at h ⊢
    cases ho : ops[i]? with
    | none => rw [ho] at h; exact h.elim
    | some o =>
      rw [ho] at h; simp only at h ⊢
      by_cases hw : Region.wanted o (yl ops s) = true
      · rw [if_pos hw] at h ⊢
        obtain ⟨v, hv, h⟩ := h; exact ⟨v, hv, dpl_mono hk r _ _ h⟩
      · rw [if_neg hw] at h ⊢
        exact dpl_mono hk r _ _ h
  | (i, false) :: r, s, w, h => aopI_mono (K := fun s' w' => S w' ∧ dpl P ops S K r s' w') h fun s' w' hv => ⟨hv.1, dpl_mono hk r _ _ hv.2⟩
def DLate (P : Program) (ops : Array Oper) (K : Sl → World → Prop) (l : List Nat) (_ : Tg (ops, K, l)) (s : Sl) (w : World) : Prop := dlate P ops K l s w
section
variable {P : Program} {l : List Oper} {n : Nat} {G : List (Nat × Nat)} {w0 : World} {K : Sl → World → Prop} {s : Sl} {w : World} {listed : Array Bool} {z k : Nat}
theorem dl_nil {tg : Tg (l.toArray, K, ([] : List Nat))} (h : K s w) : DLate P l.toArray K [] tg s w := h
theorem dl_cons {i : Nat} {r : List Nat} {tg : Tg (l.toArray, K, i :: r)}
    (h : ∃ o, l[i]? = some o ∧ If (Aop P o (fun v w' => DLate P l.toArray K r .mk (putS s o.dst v) w') .mk s w) (DLate P l.toArray K r .mk (putS s o.dst undef) w) .mk (Region.wanted o (yl l.toArray s) = true)) : DLate P l.toArray K (i :: r) tg s w := by
  obtain ⟨o, ho, h⟩ := h; unfold DLate; simp only [dlate, aopI, List.getElem?_toArray, ho]; unfold If at h
  by_cases hw : Region.wanted o (yl l.toArray s) = true
  · rw [if_pos hw]; exact h.1 hw
  · rw [if_neg hw]; exact h.2 hw
theorem draw_zat {tg : Tg (l.toArray, K)} (pl : List (Nat × Bool)) (z : Nat) (late : List Nat) (G : List (Nat × Nat)) (h : ∀ w1, w1.heap = w.heap → (∀ m, Below m w w1) → Dpl P l.toArray w1.heap.size G w1 (fun s w => DLate P l.toArray K late .mk s w) pl .mk s w1)
    (hs : Region.noSelect l.toArray = true := by kernel_rfl) (hp : planPre l.toArray pl (Array.replicate l.toArray.size false) = true := by kernel_rfl) (hz : planZ l.toArray z pl = true := by kernel_rfl)
    (hq : lateOk l.toArray z late (planTo pl (Array.replicate l.toArray.size false)) = true := by kernel_rfl) (hl : pl.length + late.length = l.toArray.size := by decide) : Adraw P l.toArray K tg s w := by
  have h1 := h w.drew rfl fun m => (Below.refl m w).drew
  have key : adrZ P l.toArray K (Kept w.drew.heap.size G w.drew) z l.toArray.size (Array.replicate l.toArray.size false) s w.drew := by
    rw [← hl]; refine preZ_sound hs pl late.length _ s w.drew (closed_none _ _) (by rw [hl]; exact hp) hz (Kept.refl ..) ?_; have : ∀ (s : Sl) (w' : World), DLate P l.toArray K late .mk s w' → Kept w.drew.heap.size G w.drew w' → adrZ P l.toArray K (Kept w.drew.heap.size G w.drew) z late.length (planTo pl (Array.replicate (pl.length + late.length) false)) s w' := fun s w' hd _ => late_sound late _ _ s w' (by rw [hl]; exact hq) (Nat.le_refl _) hd; exact dpl_mono this pl s w.drew h1
  exact fun m a ha hok => wpAny_of_Z _ _ _ _ (key m a ha hok)
end
def fpG (f : List Nat) : List (Nat × Nat) := f.map fun b => (b, 0)
theorem fpG_mem {f : List Nat} {b : Nat} (h : b ∈ f) : (b, 0) ∈ fpG f := List.mem_map.2 ⟨b, h, rfl⟩
theorem fpG_zero {f : List Nat} : ∀ g t, (g, t) ∈ fpG f → t = 0 := fun g t h => by
  obtain ⟨b, _, e⟩ := List.mem_map.1 h; exact (Prod.mk.inj e).2.symm
section
variable {P : Program} {n m : Nat} {w0 w : World} {L M M' : List Ck} {K : Value → Prop} {G : List (Nat × Nat)} {α : Type} {d : Kd α}
theorem Sep.apartG (H : Sep n w0 w L) {g : Nat} {cs cs' : List Value} {t : TypeId} {f : List Nat} {x : α} (h : Out (Ck.own d f cs' x) L M) (h' : Out (Ck.box g cs t) M M') : ∀ k, (g, k) ∉ fpG f := fun k hk => by
  have H1 := (H.out h).out (.there h'); obtain ⟨b, hb, e⟩ := List.mem_map.1 hk; obtain ⟨rfl, _⟩ := Prod.mk.inj e; have hnd := H1.nd; simp only [fps, Ck.own_fp, Ck.box, List.singleton_append] at hnd; exact (List.nodup_cons.1 hnd).1 (List.mem_append_left _ hb)
theorem q_ldG {tg : Tg (w.heap.size, G, w, K)} (H : Sep n w0 w L) {g j : Nat} {cs : List Value} {t e : TypeId} {z v : Value} (HS : ScT P e z) (hG : ∀ k, (g, k) ∉ G) (h : K v) (hm : Ck.box g cs t ∈ L := by repeat (first | exact List.mem_cons_self | apply List.mem_cons_of_mem)) (hv : cs[j]? = some v := by rfl) :
    QS P w.heap.size G w K tg (Instr.loadAt e (.pointer (some ⟨g, j, none⟩))) :=
  qx_load HS (by rw [H.cell hm]; exact hv) (H.lt hm) hG h
theorem q_ldaG {tg : Tg (w.heap.size, G, w, K)} (H : Sep n w0 w L) {g : Nat} {cs : List Value} {t e : TypeId} {sz : Nat} {z : Array Value} (HS : StT P e sz z) (hG : ∀ k, (g, k) ∉ G) (h : K (.agg cs.toArray)) (hm : Ck.box g cs t ∈ L := by repeat (first | exact List.mem_cons_self | apply List.mem_cons_of_mem)) (hl : cs.length = sz := by rfl) :
    QS P w.heap.size G w K tg (Instr.loadAt e (.pointer (some ⟨g, 0, none⟩))) :=
  qx_loadAgg HS cs hl (fun j v hj => by rw [Kd.add_plain, H.cell hm]; exact hj) (H.lt hm) hG h
end
theorem flat_len {k : Nat} : ∀ (rows : List (List Value)), (∀ r ∈ rows, r.length = k) → rows.flatten.length = rows.length * k
  | [], _ => by simp
  | r :: rs, h => by
    rw [List.flatten_cons, List.length_append, List.length_cons, h r (List.mem_cons_self ..), flat_len rs fun r hr => h r (List.mem_cons_of_mem _ hr), Nat.add_mul, Nat.one_mul]; omega
theorem flat_take {k : Nat} (rows : List (List Value)) (h : ∀ r ∈ rows, r.length = k) (i : Nat) (hi : i ≤ rows.length) : rows.flatten.take (i * k) = (rows.take i).flatten := by
  have e : rows.flatten = (rows.take i).flatten ++ (rows.drop i).flatten := by rw [← List.flatten_append, List.take_append_drop]
  have hl := flat_len (rows.take i) fun r hr => h r (List.mem_of_mem_take hr); rw [List.length_take, Nat.min_eq_left hi] at hl; rw [e, List.take_append_of_le_length (by omega), List.take_of_length_le (by omega)]
theorem flat_drop {k : Nat} (rows : List (List Value)) (h : ∀ r ∈ rows, r.length = k) (i : Nat) (hi : i ≤ rows.length) : rows.flatten.drop (i * k) = (rows.drop i).flatten := by
  have e : rows.flatten = (rows.take i).flatten ++ (rows.drop i).flatten := by rw [← List.flatten_append, List.take_append_drop]
  have hl := flat_len (rows.take i) fun r hr => h r (List.mem_of_mem_take hr); rw [List.length_take, Nat.min_eq_left hi] at hl; rw [e, ← hl, List.drop_left]
theorem sub_flat {α : Type} {l l' : List (List α)} (h : l.Sublist l') : l.flatten.Sublist l'.flatten := by
  induction h with
  | slnil => exact List.Sublist.refl _
  | cons a _ ih => rw [List.flatten_cons]; exact ih.trans (List.sublist_append_right ..)
  | cons_cons a _ ih => rw [List.flatten_cons, List.flatten_cons]; exact (List.Sublist.refl a).append ih
section
variable {n : Nat} {w0 w : World} {L : List Ck} {α : Type} {d : Kd α}
structure RowAt (e : TypeId) (d : Kd α) (w : World) (fp : List Nat) (g m c : Nat) (l : List α) (rs : List (List Value × List Nat × α)) (cur : Array Value) : Prop where
  vals : rs.map (·.2.2) = l
  len : rs.length = m
  lenl : l.length = m
  el : ∀ r ∈ rs, d.ow w r.2.1 r.1 r.2.2
  hfp : fp = g :: (rs.map (·.2.1)).flatten
  nd : fp.Nodup
  heap : w.heap[g]? = some (.cells cur e (0, 0))
  mc : m ≤ c
  cm : c ≤ maxLen
  cs : c * d.sz ≤ cur.size
  row : cur.toList.take (m * d.sz) = (rs.map (·.1)).flatten
  lens : ∀ r ∈ rs.map (·.1), r.length = d.sz
theorem row_at {e : TypeId} {fp : List Nat} {g m c : Nat} {l : List α} (h : (Kd.slice e d).ow w fp [.slice (some ⟨g, 0, none⟩) m c] l) : ∃ rs cur, RowAt e d w fp g m c l rs cur := by
  obtain ⟨v', rows, fs, hv, hr⟩ := h; simp only [List.cons.injEq, and_true] at hv; subst hv; obtain rfl := ownsRow_len hr.row; obtain ⟨rs, e1, e2, e3⟩ := zip3 rows fs l hr.lr hr.lf; have hrl : rs.length = l.length := by rw [← e3]; simp
  have hel : ∀ r ∈ rs, d.ow w r.2.1 r.1 r.2.2 := fun r hrm => by
    obtain ⟨k, hk, rfl⟩ := List.getElem_of_mem hrm; have := hr.el k (by omega); have q1 : rows[k]'(by rw [hr.lr]; omega) = rs[k].1 := by subst e1; simp
    have q2 : fs[k]'(by rw [hr.lf]; omega) = rs[k].2.1 := by subst e2; simp
    have q3 : l[k]'(by omega) = rs[k].2.2 := by subst e3; simp
    rw [q1, q2, q3] at this; exact this
  rcases hr.row.2 with ⟨h1, h2⟩ | ⟨g', cap, cur, h1, _, hh, hc, hm, hs, ht⟩
  · cases h1
  cases h1
  exact ⟨rs, cur, e3, hrl, rfl, hel, by rw [hr.hfp, e2]; rfl, hr.nd, hh, hc, hm, hs, by rw [ht, e1], by rw [e1]; exact hr.lens⟩
theorem RowAt.put {e : TypeId} {fp : List Nat} {g m c : Nat} {l : List α} {rs : List (List Value × List Nat × α)} {cur : Array Value} (h : RowAt e d w fp g m c l rs cur) (rs' : List (List Value × List Nat × α)) (cur' : List Value)
    (hs : rs'.Sublist rs) (hl : cur'.length = cur.size) (ht : cur'.take (rs'.length * d.sz) = (rs'.map (·.1)).flatten)
    (H : Sep n w0 w (Ck.own (Kd.slice e d) fp [.slice (some ⟨g, 0, none⟩) m c] l :: L)) :
    ∃ fp', Sep n w0 (w.setRow g cur'.toArray) (Ck.own (Kd.slice e d) fp' [.slice (some ⟨g, 0, none⟩) rs'.length c] (rs'.map (·.2.2)) :: L) := by
  have hfs : ((rs'.map (·.2.1)).flatten).Sublist ((rs.map (·.2.1)).flatten) := sub_flat (hs.map _); have hnd : (g :: (rs'.map (·.2.1)).flatten).Nodup := (h.hfp ▸ h.nd).sublist (List.Sublist.cons_cons g hfs); have hg : g < w.heap.size := (Array.getElem?_eq_some_iff.1 h.heap).1
  have hgn : ∀ r ∈ rs', ∀ b ∈ r.2.1, b ≠ g := fun r hr b hb e => by
    subst e; exact (List.nodup_cons.1 hnd).1 (List.mem_flatten_of_mem (List.mem_map.2 ⟨r, hr, rfl⟩) hb)
  have hle : rs'.length ≤ m := by rw [← h.len]; exact hs.length_le
  refine ⟨g :: (rs'.map (·.2.1)).flatten, H.put (w' := w.setRow g cur'.toArray) (c' := Ck.own (Kd.slice e d) (g :: (rs'.map fun r : List Value × List Nat × α => r.2.1).flatten) [.slice (some ⟨g, 0, none⟩) rs'.length c] (rs'.map fun r : List Value × List Nat × α => r.2.2)) .here ⟨rfl, rfl, rfl, by simp [World.setRow], fun k _ hn => setRow_other w g k _ (fun q => hn (by rw [q]; show g ∈ fp; rw [h.hfp]; exact List.mem_cons_self ..))⟩ ?_ hnd fun b hb => ?_⟩
  · refine RowOw.of rs' ⟨?_, .inr ⟨g, c, cur'.toArray, rfl, Nat.zero_le _, setRow_heap w g cur _ e _ h.heap, by have := h.mc; omega, h.cm, by simpa [hl] using h.cs, by simpa using ht⟩⟩ (fun r hr => d.own_mono (h.el r (hs.subset hr)) fun b hb => setRow_other w g b _ (hgn r hr b hb)) rfl hnd
    have h1 := flat_len (rs'.map (·.1)) fun r hr => h.lens r ((hs.map _).subset hr); rw [List.length_map] at h1; exact h1
  · have hfp : fp = g :: (rs.map (·.2.1)).flatten := h.hfp
    have hb : b ∈ g :: (rs'.map (·.2.1)).flatten := hb
    have hm : b ∈ fp := by
      rw [hfp]
      rcases List.mem_cons.1 hb with rfl | hb
      · exact List.mem_cons_self ..
      · exact List.mem_cons_of_mem _ (hfs.subset hb)
    refine ⟨.inl hm, ?_⟩; have := (H.lo b (mem_fps (c := Ck.own (Kd.slice e d) fp [.slice (some ⟨g, 0, none⟩) m c] l) hm (.head _))).2
    simpa [World.setRow] using this
end
section
variable {P : Program} {n : Nat} {w0 w : World} {L : List Ck} {K : Value → World → Prop} {tg : Tg K} {α : Type} {d : Kd α}
end
def Kd.raw (k : Nat) : Kd (List Value) where
  sz := k
  rd := fun _ _ cs x => cs = x ∧ (x.length = k ∧ ∀ v ∈ x, v.oneCell' = true)
  len := fun h => by rw [h.1]; exact h.2.1
  mono := fun h _ => h
  le := fun h _ => h
  ow := fun _ fp cs x => (cs = x ∧ (x.length = k ∧ ∀ v ∈ x, v.oneCell' = true)) ∧ fp = []
  own_rd := fun h _ => h.1
  own_mono := fun h _ => h
  own_row := fun h b hb => by rw [h.2] at hb; cases hb
  own_nodup := fun h => by rw [h.2]; exact List.nodup_nil
  own_len := fun h => by rw [h.1.1]; exact h.1.2.1
  one := fun h v hv => by rw [h.1] at hv; exact h.2.2 v hv
theorem Sep.raw {n : Nat} {w0 w : World} {L : List Ck} (cs : List Value) (H : Sep n w0 w L) (h : ∀ v ∈ cs, v.oneCell' = true) : Sep n w0 w (Ck.own (Kd.raw cs.length) [] cs cs :: L) := H.nothing ⟨⟨rfl, rfl, h⟩, rfl⟩
def Ck.els {α : Type} (d : Kd α) (rs : List (List Value × List Nat × α)) : Ck where
  fp := (rs.map fun r : List Value × List Nat × α => r.2.1).flatten
  A := fun w => ∀ r ∈ rs, d.ow w r.2.1 r.1 r.2.2
  loc := fun {w w'} h ha r hr => d.own_mono (ha r hr) fun b hb => h b (List.mem_flatten_of_mem (List.mem_map.2 ⟨r, hr, rfl⟩) hb)
theorem els_fp {α : Type} {d : Kd α} {rs : List (List Value × List Nat × α)} : (Ck.els d rs).fp = (rs.map (·.2.1)).flatten := rfl
section
variable {n : Nat} {w0 w : World} {M : List Ck} {α : Type} {d : Kd α} {e : TypeId} {rs a b : List (List Value × List Nat × α)} {r : List Value × List Nat × α}
theorem Sep.elsSplit (H : Sep n w0 w (Ck.els d (a ++ b) :: M)) : Sep n w0 w (Ck.els d a :: Ck.els d b :: M) := by
  have e1 : fps (Ck.els d (a ++ b) :: M) = fps (Ck.els d a :: Ck.els d b :: M) := by simp only [fps, els_fp, List.map_append, List.flatten_append, List.append_assoc]
  have h0 : ∀ q ∈ a ++ b, d.ow w q.2.1 q.1 q.2.2 := H.ok _ (.head _); refine H.swapTo (by rw [e1]) fun c hc => ?_
  rcases List.mem_cons.1 hc with rfl | hc
  · exact fun q hq => h0 q (List.mem_append_left _ hq)
  rcases List.mem_cons.1 hc with rfl | hc
  · exact fun q hq => h0 q (List.mem_append_right _ hq)
  · exact H.ok _ (.tail _ hc)
theorem Sep.elsOne (H : Sep n w0 w (Ck.els d [r] :: M)) : Sep n w0 w (Ck.own d r.2.1 r.1 r.2.2 :: M) := by
  have e1 : fps (Ck.els d [r] :: M) = fps (Ck.own d r.2.1 r.1 r.2.2 :: M) := by simp only [fps, els_fp, Ck.own_fp, List.map_cons, List.map_nil, List.flatten_cons, List.flatten_nil, List.append_nil]
  have h0 : ∀ q ∈ [r], d.ow w q.2.1 q.1 q.2.2 := H.ok _ (.head _); refine H.swapTo (by rw [e1]) fun c hc => ?_
  rcases List.mem_cons.1 hc with rfl | hc
  · exact h0 r (.head _)
  · exact H.ok _ (.tail _ hc)
theorem Sep.elsAt (H : Sep n w0 w (Ck.els d rs :: M)) (i : Nat) (hi : i < rs.length) : Sep n w0 w (Ck.els d (rs.take i) :: Ck.own d rs[i].2.1 rs[i].1 rs[i].2.2 :: Ck.els d (rs.drop (i + 1)) :: M) := by
  have h1 : rs = rs.take i ++ ([rs[i]] ++ rs.drop (i + 1)) := by
    rw [List.singleton_append, ← List.drop_eq_getElem_cons hi, List.take_append_drop]
  have H1 : Sep n w0 w (Ck.els d (rs.take i ++ ([rs[i]] ++ rs.drop (i + 1))) :: M) := by rw [← h1]; exact H
  have H2 := H1.elsSplit.front (.there .here); have H3 := H2.elsSplit.elsOne; exact H3.front (c := Ck.els d (rs.take i)) (.there (.there .here))
theorem Sep.openRow {fp : List Nat} {v : Value} {l : List α} (H : Sep n w0 w (Ck.own (Kd.slice e d) fp [v] l :: M)) (hl : 0 < l.length) :
    ∃ (rs : List (List Value × List Nat × α)) (g c : Nat) (cur : List Value), v = .slice (some ⟨g, 0, none⟩) l.length c ∧ rs.map (·.2.2) = l ∧ cur.take (l.length * d.sz) = (rs.map (·.1)).flatten ∧ (∀ q ∈ rs.map (·.1), q.length = d.sz) ∧ l.length ≤ c ∧ c ≤ maxLen ∧ c * d.sz ≤ cur.length ∧
      Sep n w0 w (Ck.els d rs :: Ck.box g cur e :: M) := by
  obtain ⟨A, c, rfl, hA⟩ := own_val (show (Kd.slice e d).ow w fp [v] l from H.ok _ (.head _)); obtain ⟨g, rfl⟩ := hA hl; obtain ⟨rs, cur, R⟩ := row_at (show (Kd.slice e d).ow w fp [.slice (some ⟨g, 0, none⟩) l.length c] l from H.ok _ (.head _)); refine ⟨rs, g, c, cur.toList, rfl, R.vals, R.row, R.lens, R.mc, R.cm, by simpa using R.cs, ?_⟩
  have hp : (fps (Ck.own (Kd.slice e d) fp [.slice (some ⟨g, 0, none⟩) l.length c] l :: M)).Perm (fps (Ck.els d rs :: Ck.box g cur.toList e :: M)) := by
    simp only [fps, els_fp, Ck.own_fp, R.hfp]
    show ([g] ++ (rs.map (·.2.1)).flatten ++ fps M).Perm ((rs.map (·.2.1)).flatten ++ ([g] ++ fps M))
    rw [← List.append_assoc]; exact (List.perm_append_comm).append_right _
  refine H.swapTo hp fun q hq => ?_
  rcases List.mem_cons.1 hq with rfl | hq
  · exact R.el
  rcases List.mem_cons.1 hq with rfl | hq
  · show w.heap[g]? = some (.cells cur.toList.toArray e (0, 0))
    rw [R.heap]
  · exact H.ok _ (.tail _ hq)
theorem Sep.elsJoin (H : Sep n w0 w (Ck.els d a :: Ck.els d b :: M)) : Sep n w0 w (Ck.els d (a ++ b) :: M) := by
  have e1 : fps (Ck.els d (a ++ b) :: M) = fps (Ck.els d a :: Ck.els d b :: M) := by simp only [fps, els_fp, List.map_append, List.flatten_append, List.append_assoc]
  have h0 : ∀ q ∈ a, d.ow w q.2.1 q.1 q.2.2 := H.ok _ (.head _); have h1 : ∀ q ∈ b, d.ow w q.2.1 q.1 q.2.2 := H.ok _ (.tail _ (.head _)); refine H.swapTo (by rw [e1]) fun c hc => ?_
  rcases List.mem_cons.1 hc with rfl | hc
  · intro q hq
    rcases List.mem_append.1 hq with hq | hq
    · exact h0 q hq
    · exact h1 q hq
  · exact H.ok _ (.tail _ (.tail _ hc))
theorem Sep.elsOf (H : Sep n w0 w (Ck.own d r.2.1 r.1 r.2.2 :: M)) : Sep n w0 w (Ck.els d [r] :: M) := by
  have e1 : fps (Ck.els d [r] :: M) = fps (Ck.own d r.2.1 r.1 r.2.2 :: M) := by simp only [fps, els_fp, Ck.own_fp, List.map_cons, List.map_nil, List.flatten_cons, List.flatten_nil, List.append_nil]
  have h0 : d.ow w r.2.1 r.1 r.2.2 := H.ok _ (.head _); refine H.swapTo (by rw [e1]) fun c hc => ?_
  rcases List.mem_cons.1 hc with rfl | hc
  · intro q hq
    rw [List.mem_singleton.1 hq]; exact h0
  · exact H.ok _ (.tail _ hc)
theorem Sep.closeRow {g c : Nat} {cur : List Value} (H : Sep n w0 w (Ck.els d rs :: Ck.box g cur e :: M)) (h1 : cur.take (rs.length * d.sz) = (rs.map (·.1)).flatten) (h2 : rs.length ≤ c) (h3 : c ≤ maxLen) (h4 : c * d.sz ≤ cur.length) :
    ∃ fp, Sep n w0 w (Ck.own (Kd.slice e d) fp [.slice (some ⟨g, 0, none⟩) rs.length c] (rs.map (·.2.2)) :: M) := by
  have hel : ∀ r ∈ rs, d.ow w r.2.1 r.1 r.2.2 := H.ok _ (.head _); have hb : w.heap[g]? = some (.cells cur.toArray e (0, 0)) := H.ok _ (.tail _ (.head _))
  have e1 : (fps (Ck.els d rs :: Ck.box g cur e :: M)).Perm (fps (Ck.own (Kd.slice e d) (g :: (rs.map fun r : List Value × List Nat × α => r.2.1).flatten) [.slice (some ⟨g, 0, none⟩) rs.length c] (rs.map fun r : List Value × List Nat × α => r.2.2) :: M)) := by
    simp only [fps, els_fp, Ck.own_fp]
    show ((rs.map (·.2.1)).flatten ++ ([g] ++ fps M)).Perm ([g] ++ (rs.map (·.2.1)).flatten ++ fps M)
    rw [← List.append_assoc]; exact (List.perm_append_comm).append_right _
  have hnd : (g :: (rs.map (·.2.1)).flatten).Nodup := by
    have := e1.nodup_iff.1 H.nd; simp only [fps, Ck.own_fp] at this; exact (List.nodup_append.1 this).1
  refine ⟨_, H.swapTo e1 fun q hq => ?_⟩
  rcases List.mem_cons.1 hq with rfl | hq
  · refine RowOw.of rs ⟨?_, .inr ⟨g, c, cur.toArray, rfl, Nat.zero_le _, hb, h2, h3, by simpa using h4, by simpa using h1⟩⟩ hel rfl hnd
    have h5 := flat_len (rs.map (·.1)) fun q hq => by
      obtain ⟨r, hr, rfl⟩ := List.mem_map.1 hq; exact d.own_len (hel r hr)
    rw [List.length_map] at h5; exact h5
  · exact H.ok _ (.tail _ (.tail _ hq))
end
section
variable {P : Program} {n : Nat} {w0 w : World} {L M : List Ck} {K : Value → World → Prop} {tg : Tg K} {α : Type} {d : Kd α}
theorem x_lst1W {t e sz by_ : Nat} {z : Value} (HS : SlT P t e sz by_ z) {fe : List Nat} {es : List Value} {u : Value} {x : α} (H : Sep n w0 w (Ck.own d fe es x :: M)) (hu : u.cells = es.toArray) (hd : d.sz = sz)
    (h : ∀ fp v w', Sep n w0 w' (Ck.own (Kd.slice e d) fp [v] [x] :: M) → Below w.heap.size w w' → K v w') (hsz : sz ≤ 16777216 := by decide) : VS P K tg (Instr.buildSlice t 1 #[(0, u)]) w := by
  obtain ⟨i, hi, hs, _, hz⟩ := HS.inf; have he : d.ow w fe es x := H.ok _ (.head _); have hes : es.length = sz := by rw [← hd]; exact d.own_len he
  have hpos := HS.pos
  have hfill : Instr.fill (fun i => some (i * sz, sz)) ((Array.range (1 * sz)).map (z.cells[· % z.cells.size]!)) [(0, u)] = some es.toArray := by
    have h3 := put_arr es ((Array.range (1 * sz)).map (z.cells[· % z.cells.size]!)) (by simp [hes]); have h4 : (es.toArray.size ≠ sz || 0 * sz + es.toArray.size > ((Array.range (1 * sz)).map (z.cells[· % z.cells.size]!)).size) = false := by simp [hes]
    simp only [Instr.fill, hu]; rw [if_neg (by rw [h4]; decide)]; simp only [Nat.zero_mul, Nat.zero_add]; rw [h3]
  refine vS_run (v := .slice (some ⟨w.heap.size, 0, none⟩) 1 1) (w' := w.alloc (.cells es.toArray e)) ?_ (h (w.heap.size :: fe) _ _ ?_ (Below.alloc (Below.refl _ _) (Nat.le_refl _) _))
  · have hg : ¬ (16777216 < 1 * sz) := by omega
    have hz0 : ¬ sz = 0 := by omega
    simp only [Nat.one_mul] at hfill hg
    simp [Instr.buildSlice, run_underlying' HS.un, run_sizeOf' hi hs, hg, hz0, run_zeroValue' hi hz, hfill, newRow]
  · have hlt : ∀ b ∈ fe, n ≤ b ∧ b < w.heap.size := fun b hb => H.lo b (List.mem_append_left _ hb)
    have hB := Sep.fresh H es e; refine hB.swapTo (by simp only [fps, Ck.own_fp, Ck.box, List.cons_append, List.nil_append]; exact List.Perm.refl _) fun c hc => ?_
    rcases List.mem_cons.1 hc with rfl | hc
    · refine ⟨_, [es], [fe], rfl, ⟨?_, rfl, rfl, fun i hi => ?_, by simp [Value.ownBlock], ?_⟩⟩
      · have := owR_of <| World.ownsRow_lit (base := 0) (e := e) (size := sz) w es.toArray 1 (Nat.zero_le _) (by simp [maxLen]) (by simp [hes])
        rw [hd]; simpa using this
      · obtain rfl : i = 0 := by simp at hi; omega
        exact hB.ok _ (.tail _ (.head _))
      · have := hB.nd
        simp only [fps, Ck.own_fp, Ck.box, List.cons_append, List.nil_append] at this; refine List.nodup_cons.2 ⟨fun hm => ?_, d.own_nodup he⟩; have := hlt _ hm; omega
    · exact hB.ok _ (.tail _ (.tail _ hc))
theorem x_stC {K : Value → World → Prop} (H : Sep n w0 w L) {g j : Nat} {cs : List Value} {t e : TypeId} {z v : Value} {f : Ck → List Ck} {tg : Tg K} (HS : ScT P e z) (h : ∀ w', Sep n w0 w' (f (Ck.box g (cs.set j v) t)) → Chg [g] w w' → K undef w')
    (hm : Hole (Ck.box g cs t) L f := by repeat (first | exact Hole.here | apply Hole.there)) (hj : j < cs.length := by first | decide | simp) (h1 : v.oneCell' = true := by rfl) :
    VU P K tg (Instr.storeAt e (.pointer (some ⟨g, j, none⟩)) v) w := by
  have hb : w.heap[g]? = some (.cells cs.toArray t (0, 0)) := H.ok _ hm.mem; have hchg : Chg [g] w (w.setCell ⟨g, j, none⟩ v) := ⟨rfl, rfl, rfl, by simp, fun k _ hk => heap_setCell_other w _ k v (fun e => hk (by simp [e]))⟩; refine x_store HS (old := cs[j]) (by rw [H.cell hm.mem, List.getElem?_eq_getElem hj]) (frozen_of_row w g j _ t hb) h1 (h _ (H.put hm ?_ ?_ (by simp [Ck.box]) (fun b hb => ?_)) hchg)
  · exact ⟨rfl, rfl, rfl, by simp, fun k _ hk => heap_setCell_other w _ k v (fun e => hk (by simp [Ck.box, e]))⟩
  · have := heap_setCell_same w g j _ t v hb
    simpa [Ck.box] using this
  · simp only [Ck.box, List.mem_singleton] at hb ⊢
    refine ⟨.inl hb, ?_⟩; have := H.lt hm.mem
    simp; omega
end
section
variable {w w' : World} {α : Type} {d : Kd α} {fb : List Nat} {cs : List Value} {x : α}
def Stay (w : World) (d : Kd α) (fb : List Nat) (cs : List Value) (x : α) : Prop := d.ow w fb cs x ∧ ∀ b ∈ fb, b < w.heap.size
theorem Sep.stay {n : Nat} {w0 : World} {L : List Ck} (H : Sep n w0 w L) (h : Ck.own d fb cs x ∈ L) : Stay w d fb cs x := ⟨H.ok _ h, fun b hb => (H.lo b (mem_fps (c := Ck.own d fb cs x) hb h)).2⟩
theorem Stay.chg {fp : List Nat} (h : Stay w d fb cs x) (hc : Chg fp w w') (hd : ∀ b ∈ fb, b ∉ fp) : Stay w' d fb cs x := ⟨d.own_mono h.1 fun b hb => hc.block b (h.2 b hb) (hd b hb), fun b hb => Nat.lt_of_lt_of_le (h.2 b hb) hc.size⟩
theorem Stay.below (h : Stay w d fb cs x) (hb : Below w.heap.size w w') : Stay w' d fb cs x := h.chg (V.Below.chg hb) (fun b _ h => by simp at h)
theorem Stay.rd (h : Stay w d fb cs x) : d.rd w w.heap.size cs x := d.own_rd h.1 h.2
theorem Sep.apart2 {n : Nat} {w0 : World} {L M M' : List Ck} {c c' : Ck} (H : Sep n w0 w L) (h : Out c L M := by repeat (first | exact Out.here | apply Out.there)) (h' : Out c' M M' := by repeat (first | exact Out.here | apply Out.there)) : ∀ b ∈ c.fp, b ∉ c'.fp := by
  have H1 := (H.out h).out (.there h'); have hnd := H1.nd; simp only [fps] at hnd; obtain ⟨n1, n2, n3⟩ := List.nodup_append.1 hnd; exact fun b hb hb' => n3 b hb' b (List.mem_append_left _ hb) rfl
end
section
variable {P : Program} {n : Nat} {w0 w : World} {M : List Ck} {K : Value → World → Prop} {tg : Tg K} {α : Type} {d : Kd α}
theorem x_appEl {t ty e sz by_ : Nat} {z : Value} (HS : SlT P t e sz by_ z) {fp : List Nat} {v : Value} {l : List α} {rs : List (List Value × List Nat × α)} {A : Option Addr} {m c : Nat} (H : Sep n w0 w (Ck.els d rs :: Ck.own (Kd.slice e d) fp [v] l :: M)) (hd : d.sz = sz) (hm : rs.length = m) (hA : A = none → m = 0)
    (hnews : ∀ j u, (rs.map (·.1)).flatten[j]? = some u → w.cell? ((adA A).add j) = some u) (hb : (l.length + m) * by_ ≤ 140737488355328) (hn : l.length + m ≤ 9223372036854775807)
    (h : ∀ fp' v' w', Sep n w0 w' (Ck.own (Kd.slice e d) fp' [v'] (l ++ rs.map (·.2.2)) :: M) → K v' w') : Builtin' P K tg .append #[t, t] ty [v, .slice A m c] w := by
  subst hm; obtain ⟨_, rows, fs, hv, hr⟩ := (show (Kd.slice e d).ow w fp [v] l from H.ok _ (.tail _ (.head _))); have hel2 : ∀ r ∈ rs, d.ow w r.2.1 r.1 r.2.2 := H.ok _ (.head _); simp only [List.cons.injEq, and_true] at hv; subst hv; generalize hfp2 : (rs.map (·.2.1)).flatten = fp2; have hrow := hr.row; rw [hd] at hrow; have hnd := H.nd; simp only [fps, Ck.own_fp, els_fp, hfp2] at hnd; have hlo : ∀ b, b ∈ fp2 ++ (fp ++ fps M) → n ≤ b ∧ b < w.heap.size := fun b hb => H.lo b (by simp only [fps, Ck.own_fp, els_fp, hfp2]; exact hb); obtain ⟨n1, n2, n3⟩ := List.nodup_append.1 hnd; obtain ⟨n4, n5, n6⟩ := List.nodup_append.1 n2; obtain ⟨p1, p2⟩ := ow_nodup_parts hr; have hsub2 : ∀ r ∈ rs, ∀ b ∈ r.2.1, b ∈ fp2 := fun r hr b hb => by rw [← hfp2]; exact List.mem_flatten_of_mem (List.mem_map.2 ⟨r, hr, rfl⟩) hb
  have hsub : ∀ b ∈ fs.flatten, b ∈ fp := fun b hb => by rw [hr.hfp]; exact List.mem_append_right _ hb
  have hlens : ∀ q ∈ rs.map (·.1), q.length = sz := fun q hq => by
    obtain ⟨r, hr, rfl⟩ := List.mem_map.1 hq; rw [← hd]; exact d.own_len (hel2 r hr)
  have h1 : ∀ u ∈ (rs.map (·.1)).flatten, u.oneCell' = true := fun u hu => by
    obtain ⟨q, hq, hu⟩ := List.mem_flatten.1 hu; obtain ⟨r, hr, rfl⟩ := List.mem_map.1 hq; exact d.one (d.own_rd (n := w.heap.size) (hel2 r hr) (fun b hb => (hlo b (List.mem_append_left _ (hsub2 r hr b hb))).2)) u hu
  have hl2 : (rs.map (·.1)).flatten.length = rs.length * sz := by rw [flat_len _ hlens, List.length_map]
  obtain ⟨v', w', hrun, ho', hg, hv', _⟩ := app_raw HS (ty := ty) hrow (A := A) (m := rs.length) (c := c) (news := (rs.map (·.1)).flatten) hl2 hA hnews h1 hn hb; have hchg : Chg v.ownBlock.toList w w' := grown_chg hg; have hvfp : ∀ b ∈ v.ownBlock.toList, b ∈ fp := fun b hb => by rw [hr.hfp]; exact List.mem_append_left _ hb
  have hkeep : ∀ b, b ∈ fs.flatten ∨ b ∈ fp2 ∨ b ∈ fps M → w'.heap[b]? = w.heap[b]? := fun b hb => by
    refine hchg.block b ?_ ?_
    · rcases hb with hb | hb | hb
      · exact (hlo b (List.mem_append_right _ (List.mem_append_left _ (hsub b hb)))).2
      · exact (hlo b (List.mem_append_left _ hb)).2
      · exact (hlo b (List.mem_append_right _ (List.mem_append_right _ hb))).2
    · intro hm
      rcases hb with hb | hb | hb
      · exact p2 b (by simpa using hm) hb
      · exact n3 b hb b (List.mem_append_left _ (hvfp b hm)) rfl
      · exact n6 b (hvfp b hm) b hb rfl
  have hv'b : ∀ b ∈ v'.ownBlock.toList, (b ∈ v.ownBlock.toList ∨ w.heap.size ≤ b) ∧ b < w'.heap.size := fun b hb => by
    refine ⟨?_, ownB_lt ho' b hb⟩
    rcases hv' with h2 | h2
    · left; rw [← h2]; exact hb
    · right; exact h2 b (by simpa using hb)
  have hnew : ∀ b ∈ v'.ownBlock.toList, ∀ c, c ∈ fs.flatten ∨ c ∈ fp2 ∨ c ∈ fps M → b ≠ c := fun b hb c hc e => by
    subst e
    rcases (hv'b b hb).1 with h2 | h2
    · rcases hc with hc | hc | hc
      · exact p2 b (by simpa using h2) hc
      · exact n3 b hc b (List.mem_append_left _ (hvfp b h2)) rfl
      · exact n6 b (hvfp b h2) b hc rfl
    · have : b < w.heap.size := by
        rcases hc with hc | hc | hc
        · exact (hlo b (List.mem_append_right _ (List.mem_append_left _ (hsub b hc)))).2
        · exact (hlo b (List.mem_append_left _ hc)).2
        · exact (hlo b (List.mem_append_right _ (List.mem_append_right _ hc))).2
      omega
  have hnd' : (v'.ownBlock.toList ++ (fs ++ rs.map (·.2.1)).flatten).Nodup := by
    rw [List.flatten_append, hfp2]; refine List.nodup_append.2 ⟨ownB_nodup _, List.nodup_append.2 ⟨p1, n1, fun a ha b hb e => ?_⟩, fun a ha b hb => ?_⟩
    · subst e; exact n3 a hb a (List.mem_append_left _ (hsub a ha)) rfl
    · rcases List.mem_append.1 hb with hb | hb
      · exact hnew a ha b (.inl hb)
      · exact hnew a ha b (.inr (.inl hb))
  have hge : ∀ b ∈ v.ownBlock.toList, n ≤ b := fun b hb => (hlo b (List.mem_append_right _ (List.mem_append_left _ (hvfp b hb)))).1; refine vS_run hrun (h (v'.ownBlock.toList ++ (fs ++ rs.map (·.2.1)).flatten) v' w' ?_); refine ⟨H.bel.trans (hchg.below hge H.ns), Nat.le_trans H.ns hchg.size, ?_, ?_, ?_⟩
  · simp only [fps, Ck.own_fp]
    refine List.nodup_append.2 ⟨hnd', n5, fun a ha b hb => ?_⟩; rw [List.flatten_append, hfp2] at ha
    rcases List.mem_append.1 ha with ha | ha
    · exact hnew a ha b (.inr (.inr hb))
    · rcases List.mem_append.1 ha with ha | ha
      · exact n6 a (hsub a ha) b hb
      · exact n3 a ha b (List.mem_append_right _ hb)
  · intro b hb
    simp only [fps, Ck.own_fp] at hb
    rcases List.mem_append.1 hb with hb | hb
    · rw [List.flatten_append, hfp2] at hb
      rcases List.mem_append.1 hb with hb | hb
      · refine ⟨?_, (hv'b b hb).2⟩
        rcases (hv'b b hb).1 with h2 | h2
        · exact hge b h2
        · exact Nat.le_trans H.ns h2
      · have : n ≤ b ∧ b < w.heap.size := by
          rcases List.mem_append.1 hb with hb | hb
          · exact hlo b (List.mem_append_right _ (List.mem_append_left _ (hsub b hb)))
          · exact hlo b (List.mem_append_left _ hb)
        exact ⟨this.1, Nat.lt_of_lt_of_le this.2 hchg.size⟩
    · have := hlo b (List.mem_append_right _ (List.mem_append_right _ hb))
      exact ⟨this.1, Nat.lt_of_lt_of_le this.2 hchg.size⟩
  · intro c hc
    rcases List.mem_cons.1 hc with rfl | hc
    · refine ⟨v', rows ++ rs.map (·.1), fs ++ rs.map (·.2.1), rfl, ⟨?_, by simp [hr.lr], by simp [hr.lf], fun i hi => ?_, rfl, hnd'⟩⟩
      · rw [hd, List.length_append, List.flatten_append, List.length_map]; exact ho'
      · by_cases hi1 : i < l.length
        · have := hr.el i hi1
          have hlf := hr.lf; have hlr := hr.lr; simp only [List.getElem_append_left (show i < fs.length by omega), List.getElem_append_left (show i < rows.length by omega), List.getElem_append_left hi1]; exact d.own_mono this fun b hb => hkeep b (.inl (List.mem_flatten_of_mem (List.getElem_mem _) hb))
        · have hi2 : i - l.length < rs.length := by simp at hi; omega
          have := hel2 rs[i - l.length] (List.getElem_mem _); have hlf := hr.lf; have hlr := hr.lr; rw [List.getElem_append_right (show fs.length ≤ i by omega), List.getElem_append_right (show rows.length ≤ i by omega), List.getElem_append_right (show l.length ≤ i by omega)]; simp only [hlf, hlr, List.getElem_map]; exact d.own_mono this fun b hb => hkeep b (.inr (.inl (hsub2 _ (List.getElem_mem _) b hb)))
    · exact c.loc (fun b hb => hkeep b (.inr (.inr (mem_fps hb hc)))) (H.ok _ (.tail _ (.tail _ hc)))
end
end Go.Proofs.YtcmckbgiiclomabGreatDoor.V
