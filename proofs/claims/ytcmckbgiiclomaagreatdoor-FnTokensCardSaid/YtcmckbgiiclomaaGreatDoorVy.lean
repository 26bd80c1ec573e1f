/- Regions that draw where several effects may come: a tree of plans. Parts of an owned slice; parts of many. -/
import Derived.Test.YtcmckbgiiclomaaGreatDoorVx
namespace Go.Proofs.YtcmckbgiiclomaaGreatDoor.V
open Go Go.RowKit
set_option linter.unusedVariables false

/-! ### a tree of plans -/
/-- A plan's beginning. -/
def planPre (ops : Array Oper) : List (Nat × Bool) → Array Bool → Bool
  | [], _ => true
  | (i, true) :: rest, listed => Region.free .any ops listed i && (Region.ready .any ops listed).contains i && planPre ops rest (listed.setIfInBounds i true)
  | (i, false) :: rest, listed => (Region.ready .any ops listed == [i]) && planPre ops rest (listed.setIfInBounds i true)
def planTo : List (Nat × Bool) → Array Bool → Array Bool
  | [], listed => listed
  | (i, _) :: rest, listed => planTo rest (listed.setIfInBounds i true)
theorem pre_sound {P : Program} {ops : Array Oper} {S : World → Prop} {K : Sl → World → Prop} (hs : Region.noSelect ops = true) :
    ∀ (l : List (Nat × Bool)) (k : Nat) (listed : Array Bool) (s : Sl) (w : World), planPre ops l listed = true → S w → dpl P ops S (fun s w => S w → adr P ops K S k (planTo l listed) s w) l s w → adr P ops K S (l.length + k) listed s w
  | [], k, listed, s, w, hp, hS, h => by rw [List.length_nil, Nat.zero_add]; exact h hS
  | (i, true) :: rest, k, listed, s, w, hp, hS, h => by
    simp only [planPre, Bool.and_eq_true] at hp
    rw [List.length_cons, Nat.succ_add]
    simp only [dpl] at h
    cases ho : ops[i]? with
    | none => rw [ho] at h; exact h.elim
    | some o =>
      rw [ho] at h
      simp only at h
      by_cases hw : Region.wanted o (yl ops s) = true
      · rw [if_pos hw] at h
        obtain ⟨v, hv, h⟩ := h
        exact adr_take i ho hs hp.1.1 hp.1.2 hS (.inl ⟨hw, hv⟩) (pre_sound hs rest k _ _ _ hp.2 hS h)
      · rw [if_neg hw] at h
        exact adr_take i ho hs hp.1.1 hp.1.2 hS (.inr ⟨by simpa using hw, rfl⟩) (pre_sound hs rest k _ _ _ hp.2 hS h)
  | (i, false) :: rest, k, listed, s, w, hp, _, h => by
    simp only [planPre, Bool.and_eq_true, beq_iff_eq] at hp
    rw [List.length_cons, Nat.succ_add]
    refine adr_all [i] hp.1 (by simp) fun j hj => ?_
    simp only [List.mem_singleton] at hj
    subst hj
    have h' : aopI P ops j s w fun s' w' => S w' ∧ dpl P ops S (fun s w => S w → adr P ops K S k (planTo rest (listed.setIfInBounds j true)) s w) rest s' w' := h
    unfold aopI at h' ⊢
    cases ho : ops[j]? with
    | none => rw [ho] at h'; exact h'
    | some o =>
      rw [ho] at h'
      simp only at h' ⊢
      split
      · rename_i hw
        rw [if_pos hw] at h'
        exact aop_mono h' fun v w' hv => ⟨hv.1, pre_sound hs rest k _ _ _ hp.2 hv.1 hv.2⟩
      · rename_i hw
        rw [if_neg hw] at h'
        exact ⟨h'.1, pre_sound hs rest k _ _ _ hp.2 h'.1 h'.2⟩

/-- What is left of a region. -/
def Rest (P : Program) (ops : Array Oper) (n : Nat) (G : List (Nat × Nat)) (w0 : World) (K : Sl → World → Prop) (k : Nat) (listed : Array Bool) (_ : Tg (ops, n, G, w0, K, k, listed)) (s : Sl) (w : World) : Prop := Kept n G w0 w → adr P ops K (Kept n G w0) k listed s w
section
variable {P : Program} {l : List Oper} {n : Nat} {G : List (Nat × Nat)} {w0 : World} {K : Sl → World → Prop} {s : Sl} {w : World} {listed : Array Bool} {k : Nat}
theorem fork_draw {tg : Tg (l.toArray, K)} (n : Nat) (G : List (Nat × Nat)) (h : ∀ w1, w1.heap = w.heap → (∀ m, Below m w w1) → Rest P l.toArray n G w1 K l.toArray.size (Array.replicate l.toArray.size false) .mk s w1) : Adraw P l.toArray K tg s w :=
  adraw_of (Kept n G w.drew) (h w.drew rfl (fun m => (Below.refl m w).drew) (Kept.refl ..))
theorem rest_end {tg : Tg (l.toArray, n, G, w0, K, k, listed)} (pl : List (Nat × Bool)) (h : Dpl P l.toArray n G w0 K pl .mk s w)
    (hs : Region.noSelect l.toArray = true := by kernel_rfl) (hp : planOk l.toArray pl listed = true := by kernel_rfl) (hl : pl.length ≤ k := by decide) : Rest P l.toArray n G w0 K k listed tg s w := fun hS => dpl_sound hs pl _ _ _ _ hp hl hS h
theorem rest_pre {tg : Tg (l.toArray, n, G, w0, K, k, listed)} (pl : List (Nat × Bool)) (k' : Nat) (h : Dpl P l.toArray n G w0 (fun s w => Rest P l.toArray n G w0 K k' (planTo pl listed) .mk s w) pl .mk s w)
    (hs : Region.noSelect l.toArray = true := by kernel_rfl) (hp : planPre l.toArray pl listed = true := by kernel_rfl) (hl : pl.length + k' = k := by decide) : Rest P l.toArray n G w0 K k listed tg s w := by
  subst hl
  exact fun hS => pre_sound hs pl k' listed s w hp hS h
theorem aopI_dpl {ops : Array Oper} {S : World → Prop} {K : Sl → World → Prop} {i : Nat} (h : dpl P ops S K [(i, false)] s w) : aopI P ops i s w fun s' w' => S w' ∧ K s' w' := h
theorem aopI_mono {ops : Array Oper} {K K' : Sl → World → Prop} {i : Nat} (h : aopI P ops i s w K) (hk : ∀ s w, K s w → K' s w) : aopI P ops i s w K' := by
  unfold aopI at h ⊢
  split
  · rename_i o ho
    rw [ho] at h
    simp only at h
    split
    · rename_i hw
      rw [if_pos hw] at h
      exact aop_mono h fun v w' hv => hk _ _ hv
    · rename_i hw
      rw [if_neg hw] at h
      exact hk _ _ h
  · rename_i ho
    rw [ho] at h
    exact h
/-- Two effects may come. -/
theorem rest_fork {tg : Tg (l.toArray, n, G, w0, K, k, listed)} (i j : Nat) (k' : Nat)
    (hi : Dpl P l.toArray n G w0 (fun s w => Rest P l.toArray n G w0 K k' (listed.setIfInBounds i true) .mk s w) [(i, false)] .mk s w)
    (hj : Dpl P l.toArray n G w0 (fun s w => Rest P l.toArray n G w0 K k' (listed.setIfInBounds j true) .mk s w) [(j, false)] .mk s w)
    (hr : (Region.ready .any l.toArray listed == [i, j]) = true := by kernel_rfl) (hk : k = k' + 1 := by rfl) : Rest P l.toArray n G w0 K k listed tg s w := by
  subst hk
  refine fun hS => adr_all [i, j] (beq_iff_eq.1 hr) (by simp) fun q hq => ?_
  simp only [List.mem_cons, List.not_mem_nil, or_false] at hq
  rcases hq with rfl | rfl
  · exact aopI_mono (aopI_dpl hi) fun s' w' h => ⟨h.1, h.2 h.1⟩
  · exact aopI_mono (aopI_dpl hj) fun s' w' h => ⟨h.1, h.2 h.1⟩
/-- Three. -/
theorem rest_fork3 {tg : Tg (l.toArray, n, G, w0, K, k, listed)} (i j p : Nat) (k' : Nat)
    (hi : Dpl P l.toArray n G w0 (fun s w => Rest P l.toArray n G w0 K k' (listed.setIfInBounds i true) .mk s w) [(i, false)] .mk s w)
    (hj : Dpl P l.toArray n G w0 (fun s w => Rest P l.toArray n G w0 K k' (listed.setIfInBounds j true) .mk s w) [(j, false)] .mk s w)
    (hq : Dpl P l.toArray n G w0 (fun s w => Rest P l.toArray n G w0 K k' (listed.setIfInBounds p true) .mk s w) [(p, false)] .mk s w)
    (hr : (Region.ready .any l.toArray listed == [i, j, p]) = true := by kernel_rfl) (hk : k = k' + 1 := by rfl) : Rest P l.toArray n G w0 K k listed tg s w := by
  subst hk
  refine fun hS => adr_all [i, j, p] (beq_iff_eq.1 hr) (by simp) fun q hm => ?_
  simp only [List.mem_cons, List.not_mem_nil, or_false] at hm
  rcases hm with rfl | rfl | rfl
  · exact aopI_mono (aopI_dpl hi) fun s' w' h => ⟨h.1, h.2 h.1⟩
  · exact aopI_mono (aopI_dpl hj) fun s' w' h => ⟨h.1, h.2 h.1⟩
  · exact aopI_mono (aopI_dpl hq) fun s' w' h => ⟨h.1, h.2 h.1⟩
end

/-! ### parts of many -/
section
variable {n : Nat} {w0 w : World} {L M M' M'' : List Ck} {c c' c'' : Ck}
theorem Sep.left (H : Sep n w0 w (L ++ M)) : Sep n w0 w L := by
  have e : fps (L ++ M) = fps L ++ fps M := fps_append L M
  exact ⟨H.bel, H.ns, (List.nodup_append.1 (e ▸ H.nd)).1, fun b hb => H.lo b (by rw [e]; exact List.mem_append_left _ hb), fun c hc => H.ok c (List.mem_append_left _ hc)⟩
/-- Two parts of many. -/
theorem Sep.two (H : Sep n w0 w L) (h : Out c L M := by repeat (first | exact Out.here | apply Out.there)) (h' : Out c' M M' := by repeat (first | exact Out.here | apply Out.there)) : Sep n w0 w [c, c'] :=
  ((H.out h).out (.there h')).out (.there .here) |>.left (L := [c, c'])
/-- Three. -/
theorem Sep.three (H : Sep n w0 w L) (h : Out c L M := by repeat (first | exact Out.here | apply Out.there)) (h' : Out c' M M' := by repeat (first | exact Out.here | apply Out.there)) (h'' : Out c'' M' M'' := by repeat (first | exact Out.here | apply Out.there)) : Sep n w0 w [c, c', c''] :=
  ((((H.out h).out (.there h')).out (.there (.there h''))).out (.there .here)).out (.there (.there .here)) |>.left (L := [c, c', c''])
end

/-! ### the first elements of an owned slice -/
section
variable {P : Program} {n : Nat} {w0 w : World} {L : List Ck} {K : Value → World → Prop} {tg : Tg K} {α : Type} {d : Kd α} {f : α → Value} {R : α → Prop}
theorem owR_take {w : World} {e : TypeId} {sz : Nat} {A : Option Addr} {m c n hi : Nat} {xs : List Value} (h : w.owR e sz (.slice A m c) n xs) (hh : hi ≤ n) : w.owR e sz (.slice A hi c) hi (xs.take (hi * sz)) := by
  obtain ⟨h1, h2⟩ := h
  have hm : hi * sz ≤ n * sz := Nat.mul_le_mul_right sz hh
  refine ⟨by rw [List.length_take]; omega, ?_⟩
  rcases h2 with ⟨h3, h4⟩ | ⟨g, cap, cur, h3, h4, h5, h6, h7, h8, h9⟩
  · simp only [Value.slice.injEq] at h3
    obtain ⟨rfl, rfl, rfl⟩ := h3
    exact .inl ⟨by rw [show hi = 0 by omega], by omega⟩
  · simp only [Value.slice.injEq] at h3
    obtain ⟨rfl, rfl, rfl⟩ := h3
    refine .inr ⟨g, _, cur, rfl, h4, h5, by omega, h7, h8, ?_⟩
    rw [← h9, List.take_take, Nat.min_eq_left hm]
theorem Sep.takeO (hp : IsPlain d f R) {e : TypeId} {fp : List Nat} {A : Option Addr} {m c hi : Nat} {l : List α} (H : Sep n w0 w (Ck.own (Kd.slice e d) fp [.slice A m c] l :: L)) (hh : hi ≤ l.length) : Sep n w0 w (Ck.own (Kd.slice e d) fp [.slice A hi c] (l.take hi) :: L) := by
  refine H.swapTo (List.Perm.refl _) fun q hq => ?_
  rcases List.mem_cons.1 hq with rfl | hq
  · obtain ⟨h1, h2, h3⟩ := hp.slOw.1 (show (Kd.slice e d).ow w fp [.slice A m c] l from H.ok _ (.head _))
    refine hp.slOw.2 ⟨fun x hx => h1 x (List.mem_of_mem_take hx), ?_, h3.trans (by cases A <;> rfl)⟩
    have := owR_take h2 hh
    rw [Nat.mul_one, ← List.map_take] at this
    rw [List.length_take, Nat.min_eq_left hh]
    exact this
  · exact H.ok _ (.tail _ hq)
/-- l[:hi], owned. -/
theorem x_hiO {t e sz by_ : Nat} {z : Value} (HS : SlT P t e sz by_ z) {A : Option Addr} {m c hi : Nat} {k : IntKind} (hm : hi ≤ c) (h : K (.slice A hi c) w) : VS P K tg (Instr.sliceAt t (.slice A m c) none (some (.int k (hi : Int))) none) w := by
  refine vS_run ((run_sub HS (k := .i64) (lo := 0)).2.1 hm) ?_
  have e : sliced A 0 hi c sz = .slice A hi c := by
    unfold sliced
    rw [Nat.zero_mul]
    cases A with
    | none => simp
    | some a => simp [Addr.add]
  rw [e]; exact h
/-- The bytes of a text that is known: the row is marked, it is read from then on. -/
theorem x_cvb {t e : TypeId} (hu : P.underlying t = some (.slice e)) (he : P.underlying e = some (.int .u8)) {fp : List Nat} {g m c : Nat} {l : List UInt8} (H : Sep n w0 w (Ck.own (bytes e) fp [.slice (some ⟨g, 0, none⟩) m c] l :: L))
    (h : ∀ w', Sep n w0 w' L → (bytes e).rd w' w'.heap.size [.slice (some ⟨g, 0, none⟩) m c] l → K (.slice (some ⟨g, 0, none⟩) m c) w') : VS P K tg (convert t t (.slice (some ⟨g, 0, none⟩) m c)) w := by
  have hrd := H.own (.head _)
  obtain ⟨_, hrow, hfp⟩ := pl_u8.slOw.1 (show (bytes e).ow w fp [.slice (some ⟨g, 0, none⟩) m c] l from H.ok _ (.head _))
  rcases hrow.2 with ⟨h1, _⟩ | ⟨g', cap, cur, h1, _, hh, hc, hm, hs, ht⟩
  · cases h1
  cases h1
  have hg : g < w.heap.size := (Array.getElem?_eq_some_iff.1 hh).1
  have hsh : w.shape? g = some (e, cur.size) := by unfold World.shape?; rw [hh]
  obtain ⟨w', hw'⟩ : ∃ w', w' = w.freeze ⟨g, cur.size, none⟩ 1 := ⟨_, rfl⟩
  have e0 : w' = { w with heap := w'.heap } := by rw [hw']; unfold World.freeze; rw [if_neg (by decide)]
  have e1 : ∀ k, k ≠ g → w'.heap[k]? = w.heap[k]? := fun k hk => by
    rw [hw']; unfold World.freeze; rw [if_neg (by decide)]
    simp only [Array.getElem?_modify]
    rw [if_neg (fun q => hk q.symm)]
  have e2 : w'.heap[g]? = some (.cells cur e (cur.size, cur.size + 1)) := by
    rw [hw']; unfold World.freeze; rw [if_neg (by decide)]
    simp only [Array.getElem?_modify, hh]
    simp
  have e3 : w'.heap.size = w.heap.size := by
    rw [hw']; unfold World.freeze; rw [if_neg (by decide)]
    simp only [Array.size_modify]
  have hrun : (convert t t (.slice (some ⟨g, 0, none⟩) l.length c)).run P w = .ok (.slice (some ⟨g, 0, none⟩) l.length c) w' := by
    rw [hw']
    simp [convert, run_underlying' hu, run_underlying' he, markStringish, hsh]
  have hcell : ∀ j, w'.cell? ⟨g, j, none⟩ = w.cell? ⟨g, j, none⟩ := fun j => by
    simp only [World.cell?, e2, hh]
  have H' := (H.put (c' := Ck.own Kd.u8 [] [encB 0] 0) .here ⟨by rw [e0], by rw [e0], by rw [e0], Nat.le_of_eq e3.symm, fun k _ hn => e1 k (fun q => hn (by rw [q]; show g ∈ fp; rw [hfp]; simp [Value.ownBlock]))⟩ ⟨⟨rfl, trivial⟩, rfl⟩ List.nodup_nil (fun b hb => by cases hb)).tail
  refine vS_run hrun (h w' H' ?_)
  obtain ⟨A, c', hv, h2, h3, h4⟩ := hrd
  have hA : A = some ⟨g, 0, none⟩ := by
    simp only [List.cons.injEq, Value.slice.injEq, and_true] at hv
    exact hv.1.symm
  subst hA
  refine ⟨_, c', hv, h2, h3, pl_u8.slRd.2 ⟨fun _ _ => trivial, fun i hi => ?_⟩⟩
  obtain ⟨h5, h6, h7⟩ := (pl_u8.slRd.1 h4).2 i hi
  refine ⟨h5, by rw [e3]; exact h6, ?_⟩
  rw [adA_some, Kd.add_plain] at h7 ⊢
  rw [hcell]; exact h7
end
end Go.Proofs.YtcmckbgiiclomaaGreatDoor.V
