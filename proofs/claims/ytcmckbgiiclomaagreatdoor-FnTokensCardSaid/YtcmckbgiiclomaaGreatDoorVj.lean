/- Memory in separate parts: boxes and owned data, each with its own blocks; how a walk's steps move them. -/
import Derived.Test.YtcmckbgiiclomaaGreatDoorVi
namespace Go.Proofs.YtcmckbgiiclomaaGreatDoor.V
open Go Go.RowKit
set_option linter.unusedVariables false

/-- A part: its blocks, and what holds of it, by these blocks alone. -/
structure Ck where
  fp : List Nat
  A : World → Prop
  loc : ∀ {w w' : World}, (∀ b ∈ fp, w'.heap[b]? = w.heap[b]?) → A w → A w'
/-- A variable in memory. -/
def Ck.box (g : Nat) (c : List Value) (t : TypeId) : Ck := ⟨[g], fun w => w.heap[g]? = some (.cells c.toArray t (0, 0)), fun h ha => by rw [h g (by simp)]; exact ha⟩
/-- Owned data. -/
def Ck.own {α : Type} (d : Kd α) (fp : List Nat) (cs : List Value) (x : α) : Ck := ⟨fp, fun w => d.ow w fp cs x, fun h ha => d.own_mono ha h⟩
theorem Ck.own_fp {α : Type} {d : Kd α} {fp : List Nat} {cs : List Value} {x : α} : (Ck.own d fp cs x).fp = fp := rfl

def fps : List Ck → List Nat
  | [] => []
  | c :: L => c.fp ++ fps L
theorem fps_append (L M : List Ck) : fps (L ++ M) = fps L ++ fps M := by
  induction L with
  | nil => rfl
  | cons c L ih => simp only [List.cons_append, fps, ih, List.append_assoc]
theorem mem_fps {c : Ck} {b : Nat} (hb : b ∈ c.fp) : ∀ {L : List Ck}, c ∈ L → b ∈ fps L
  | _ :: L, .head _ => List.mem_append_left _ hb
  | _ :: L, .tail _ h => List.mem_append_right _ (mem_fps hb h)

structure Sep (n : Nat) (w0 w : World) (L : List Ck) : Prop where
  bel : Below n w0 w
  ns : n ≤ w.heap.size
  nd : (fps L).Nodup
  lo : ∀ b ∈ fps L, n ≤ b ∧ b < w.heap.size
  ok : ∀ c ∈ L, c.A w

/-- What changed: the blocks of a part at most. -/
structure Chg (fp : List Nat) (w w' : World) : Prop where
  os : w'.os = w.os
  tape : w'.tape = w.tape
  output : w'.output = w.output
  size : w.heap.size ≤ w'.heap.size
  block : ∀ k, k < w.heap.size → k ∉ fp → w'.heap[k]? = w.heap[k]?
theorem Chg.below {fp : List Nat} {n : Nat} {w w' : World} (h : Chg fp w w') (hn : ∀ b ∈ fp, n ≤ b) (hw : n ≤ w.heap.size) : Below n w w' :=
  ⟨h.os, h.tape, h.output, h.size, fun k hk => h.block k (by omega) (fun hm => by have := hn k hm; omega)⟩
theorem Below.chg {w w' : World} (h : Below w.heap.size w w') : Chg [] w w' := ⟨h.os, h.tape, h.output, h.size, fun k hk _ => h.block k hk⟩
theorem grown_chg {w w' : World} {v : Value} (h : w.grownBy w' v.ownBlock) : Chg v.ownBlock.toList w w' :=
  ⟨h.os, h.tape, h.output, h.size, fun k hk hm => h.block k hk (fun e => hm (by rw [← e]; simp))⟩

/-- A part of many, and the rest round it. -/
inductive Hole (c : Ck) : List Ck → (Ck → List Ck) → Prop
  | here {L : List Ck} : Hole c (c :: L) (fun c' => c' :: L)
  | there {d : Ck} {L : List Ck} {f : Ck → List Ck} (h : Hole c L f) : Hole c (d :: L) (fun c' => d :: f c')
theorem Hole.split {c : Ck} {L : List Ck} {f : Ck → List Ck} (h : Hole c L f) : ∃ L1 L2, L = L1 ++ c :: L2 ∧ ∀ c', f c' = L1 ++ c' :: L2 := by
  induction h with
  | here => exact ⟨[], _, rfl, fun _ => rfl⟩
  | there h ih => obtain ⟨L1, L2, e, hf⟩ := ih; exact ⟨_ :: L1, L2, by rw [e]; rfl, fun c' => congrArg (_ :: ·) (hf c')⟩
theorem Hole.mem {c : Ck} {L : List Ck} {f : Ck → List Ck} (h : Hole c L f) : c ∈ L := by
  obtain ⟨L1, L2, e, _⟩ := h.split; rw [e]; simp
/-- A part taken out. -/
inductive Out (c : Ck) : List Ck → List Ck → Prop
  | here {L : List Ck} : Out c (c :: L) L
  | there {d : Ck} {L M : List Ck} (h : Out c L M) : Out c (d :: L) (d :: M)
theorem Out.split {c : Ck} {L M : List Ck} (h : Out c L M) : ∃ L1 L2, L = L1 ++ c :: L2 ∧ M = L1 ++ L2 := by
  induction h with
  | here => exact ⟨[], _, rfl, rfl⟩
  | there h ih => obtain ⟨L1, L2, e, hf⟩ := ih; exact ⟨_ :: L1, L2, by rw [e]; rfl, by rw [hf]; rfl⟩

section
variable {n : Nat} {w0 w w' : World} {L M : List Ck}
theorem Sep.start (w : World) : Sep w.heap.size w w [] := ⟨Below.refl .., Nat.le_refl _, List.nodup_nil, fun b hb => by simp [fps] at hb, fun c hc => by simp at hc⟩
theorem Sep.begin {n : Nat} {w : World} (h : n ≤ w.heap.size) : Sep n w w [] := ⟨Below.refl .., h, List.nodup_nil, fun b hb => by simp [fps] at hb, fun c hc => by simp at hc⟩
theorem Sep.go (H : Sep n w0 w L) (h : Below w.heap.size w w') : Sep n w0 w' L where
  bel := H.bel.trans (h.mono H.ns)
  ns := Nat.le_trans H.ns h.size
  nd := H.nd
  lo := fun b hb => ⟨(H.lo b hb).1, Nat.lt_of_lt_of_le (H.lo b hb).2 h.size⟩
  ok := fun c hc => c.loc (fun b hb => h.block b (H.lo b (mem_fps hb hc)).2) (H.ok c hc)
theorem Sep.join (H : Sep n w0 w L) (J : Sep w.heap.size w w' M) : Sep n w0 w' (M ++ L) where
  bel := (H.go J.bel).bel
  ns := (H.go J.bel).ns
  nd := by
    rw [fps_append]
    exact List.nodup_append.2 ⟨J.nd, H.nd, fun a ha b hb e => by have h1 := (J.lo a ha).1; have h2 := (H.lo b hb).2; omega⟩
  lo := fun b hb => by
    rw [fps_append] at hb
    rcases List.mem_append.1 hb with hb | hb
    · exact ⟨Nat.le_trans H.ns (J.lo b hb).1, (J.lo b hb).2⟩
    · exact (H.go J.bel).lo b hb
  ok := fun c hc => by
    rcases List.mem_append.1 hc with hc | hc
    · exact J.ok c hc
    · exact (H.go J.bel).ok c hc
theorem Sep.tail {c : Ck} (H : Sep n w0 w (c :: L)) : Sep n w0 w L where
  bel := H.bel
  ns := H.ns
  nd := (List.nodup_append.1 H.nd).2.1
  lo := fun b hb => H.lo b (List.mem_append_right _ hb)
  ok := fun d hd => H.ok d (List.mem_cons_of_mem _ hd)
theorem Sep.out {c : Ck} (H : Sep n w0 w L) (h : Out c L M) : Sep n w0 w (c :: M) := by
  obtain ⟨L1, L2, rfl, rfl⟩ := h.split
  have hp : (fps (L1 ++ c :: L2)).Perm (fps (c :: (L1 ++ L2))) := by
    simp only [fps_append, fps]
    rw [← List.append_assoc, ← List.append_assoc]
    exact List.Perm.append_right _ List.perm_append_comm
  exact ⟨H.bel, H.ns, hp.nodup_iff.1 H.nd, fun b hb => H.lo b (hp.mem_iff.2 hb), fun d hd => H.ok d (by simp at hd ⊢; rcases hd with h | h | h <;> simp [h])⟩
theorem Sep.put {c c' : Ck} {f : Ck → List Ck} (H : Sep n w0 w L) (h : Hole c L f) (hc : Chg c.fp w w') (ha : c'.A w') (hnd : c'.fp.Nodup) (hl : ∀ b ∈ c'.fp, (b ∈ c.fp ∨ w.heap.size ≤ b) ∧ b < w'.heap.size) : Sep n w0 w' (f c') := by
  obtain ⟨L1, L2, rfl, hf⟩ := h.split
  rw [hf]
  have hnd0 := H.nd
  have hlo := H.lo
  simp only [fps_append, fps] at hnd0 hlo
  obtain ⟨h1, h2, h3⟩ := List.nodup_append.1 hnd0
  obtain ⟨h4, h5, h6⟩ := List.nodup_append.1 h2
  have hge : ∀ b ∈ c.fp, n ≤ b := fun b hb => (hlo b (List.mem_append_right _ (List.mem_append_left _ hb))).1
  refine ⟨H.bel.trans (hc.below hge H.ns), Nat.le_trans H.ns hc.size, ?_, ?_, ?_⟩
  · simp only [fps_append, fps]
    refine List.nodup_append.2 ⟨h1, List.nodup_append.2 ⟨hnd, h5, fun a hA b hb e => ?_⟩, fun a hA b hb e => ?_⟩
    · subst e
      rcases (hl a hA).1 with h7 | h7
      · exact h6 a h7 a hb rfl
      · have := (hlo a (List.mem_append_right _ (List.mem_append_right _ hb))).2; omega
    · subst e
      rcases List.mem_append.1 hb with hb | hb
      · rcases (hl a hb).1 with h7 | h7
        · exact h3 a hA a (List.mem_append_left _ h7) rfl
        · have := (hlo a (List.mem_append_left _ hA)).2; omega
      · exact h3 a hA a (List.mem_append_right _ hb) rfl
  · intro b hb
    simp only [fps_append, fps] at hb
    rcases List.mem_append.1 hb with hb | hb
    · have := hlo b (List.mem_append_left _ hb); have := hc.size; omega
    · rcases List.mem_append.1 hb with hb | hb
      · rcases (hl b hb).1 with h7 | h7
        · have := hge b h7; have := (hl b hb).2; omega
        · have := H.ns; have := (hl b hb).2; omega
      · have := hlo b (List.mem_append_right _ (List.mem_append_right _ hb)); have := hc.size; omega
  · intro d hd
    rcases List.mem_append.1 hd with hd | hd
    · exact d.loc (fun b hb => hc.block b (hlo b (List.mem_append_left _ (mem_fps hb hd))).2 (fun hm => h3 b (mem_fps hb hd) b (List.mem_append_left _ hm) rfl)) (H.ok d (List.mem_append_left _ hd))
    · rcases List.mem_cons.1 hd with hd | hd
      · subst hd; exact ha
      · exact d.loc (fun b hb => hc.block b (hlo b (List.mem_append_right _ (List.mem_append_right _ (mem_fps hb hd)))).2 (fun hm => h6 b hm b (mem_fps hb hd) rfl)) (H.ok d (List.mem_append_right _ (List.mem_cons_of_mem _ hd)))
theorem Sep.add {c : Ck} (H : Sep n w0 w L) (h : Below w.heap.size w w') (ha : c.A w') (hnd : c.fp.Nodup) (hl : ∀ b ∈ c.fp, w.heap.size ≤ b ∧ b < w'.heap.size) : Sep n w0 w' (c :: L) := by
  have J : Sep w.heap.size w w' [c] := ⟨h, h.size, by simpa [fps] using hnd, by simpa [fps] using hl, by simpa using ha⟩
  exact H.join J
/-- Data that was known when the walk began. -/
theorem Sep.rd {α : Type} {d : Kd α} {cs : List Value} {x : α} (H : Sep n w0 w L) (h : d.rd w0 n cs x) : d.rd w w.heap.size cs x := d.le (d.mono h H.bel) H.ns
theorem Sep.own {α : Type} {d : Kd α} {fp : List Nat} {cs : List Value} {x : α} (H : Sep n w0 w L) (h : Ck.own d fp cs x ∈ L) : d.rd w w.heap.size cs x :=
  d.own_rd (H.ok _ h) fun b hb => (H.lo b (mem_fps (c := Ck.own d fp cs x) hb h)).2
theorem Sep.cell {g : Nat} {cs : List Value} {t : TypeId} (H : Sep n w0 w L) (h : Ck.box g cs t ∈ L) (j : Nat) : w.cell? ⟨g, j, none⟩ = cs[j]? := by
  have := H.ok _ h
  simp [World.cell?, show w.heap[g]? = some (.cells cs.toArray t (0, 0)) from this]
theorem Sep.lt {g : Nat} {cs : List Value} {t : TypeId} (H : Sep n w0 w L) (h : Ck.box g cs t ∈ L) : g < w.heap.size := (H.lo g (mem_fps (c := Ck.box g cs t) (by simp [Ck.box]) h)).2
end

theorem toArr {l : List Value} {a : Array Value} (h : a.toList = l) : a = l.toArray := by rw [← h]

/-! ### steps -/
section
variable {P : Program} {n : Nat} {w0 w : World} {L : List Ck} {K : Value → World → Prop} {tg : Tg K}
theorem Sep.fresh {w : World} {L : List Ck} (H : Sep n w0 w L) (cs : List Value) (t : TypeId) : Sep n w0 (w.alloc (.cells cs.toArray t)) (Ck.box w.heap.size cs t :: L) := by
  refine H.add (Below.alloc (Below.refl _ _) (Nat.le_refl _) _) (heap_alloc_new w _) (by simp [Ck.box]) (fun b hb => ?_)
  simp only [Ck.box, List.mem_singleton] at hb
  subst hb
  simp
theorem x_bx (H : Sep n w0 w L) {t : TypeId} {v : Value} (cs : List Value) (h : ∀ g w', Sep n w0 w' (Ck.box g cs t :: L) → K (.pointer (some ⟨g, 0, none⟩)) w') (hc : v.cells = cs.toArray := by rfl) : VS P K tg (Instr.box t v) w := by
  unfold VS; rw [v_box, hc]; exact h _ _ (H.fresh cs t)
theorem x_al (H : Sep n w0 w L) {t : TypeId} {sz : Nat} {z : Array Value} (HS : StT P t sz z) (h : ∀ g w', Sep n w0 w' (Ck.box g z.toList t :: L) → K (.pointer (some ⟨g, 0, none⟩)) w') : VS P K tg (Instr.alloc t true (.tuple #[])) w := by
  rw [alloc_st HS]; exact h _ _ (by have := H.fresh z.toList t; simpa using this)
theorem x_al1 (H : Sep n w0 w L) {t : TypeId} {z : Value} (HS : ScT P t z) (h : ∀ g w', Sep n w0 w' (Ck.box g [z] t :: L) → K (.pointer (some ⟨g, 0, none⟩)) w') (hc : z.cells = #[z] := by rfl) : VS P K tg (Instr.alloc t true (.tuple #[])) w := by
  rw [alloc_sc HS hc]; exact h _ _ (H.fresh [z] t)
theorem x_ld (H : Sep n w0 w L) {g j : Nat} {cs : List Value} {t e : TypeId} {z v : Value} (HS : ScT P e z) (h : K v w) (hm : Ck.box g cs t ∈ L := by repeat (first | exact List.mem_cons_self | apply List.mem_cons_of_mem)) (hv : cs[j]? = some v := by rfl) :
    VS P K tg (Instr.loadAt e (.pointer (some ⟨g, j, none⟩))) w := x_load HS ((H.cell hm j).trans hv) h
theorem x_lda (H : Sep n w0 w L) {g : Nat} {cs : List Value} {t e : TypeId} {sz : Nat} {z : Array Value} (HS : StT P e sz z) (h : K (.agg cs.toArray) w) (hm : Ck.box g cs t ∈ L := by repeat (first | exact List.mem_cons_self | apply List.mem_cons_of_mem)) (hl : cs.length = sz := by rfl) :
    VS P K tg (Instr.loadAt e (.pointer (some ⟨g, 0, none⟩))) w := x_loadAgg HS cs hl (fun j v hj => by rw [Kd.add_at, Nat.zero_add, H.cell hm]; exact hj) h
/-- A part of a struct that is one itself. -/
theorem x_ldp (H : Sep n w0 w L) {g j : Nat} {cs : List Value} {t e : TypeId} {sz : Nat} {z : Array Value} (vs : List Value) (HS : StT P e sz z) (h : K (.agg vs.toArray) w) (hm : Ck.box g cs t ∈ L := by repeat (first | exact List.mem_cons_self | apply List.mem_cons_of_mem)) (hl : vs.length = sz := by rfl) (hv : (cs.drop j).take sz = vs := by rfl) :
    VS P K tg (Instr.loadAt e (.pointer (some ⟨g, j, none⟩))) w := x_loadAgg HS vs hl (fun i v hi => by
      rw [Kd.add_at, H.cell hm, ← hi, ← hv, List.getElem?_take, List.getElem?_drop]
      have : i < sz := by rw [← hl]; exact (List.getElem?_eq_some_iff.1 hi).1
      rw [if_pos this]) h
theorem x_st (H : Sep n w0 w L) {g j : Nat} {cs : List Value} {t e : TypeId} {z v : Value} {f : Ck → List Ck} {tg : Tg K} (HS : ScT P e z) (h : ∀ w', Sep n w0 w' (f (Ck.box g (cs.set j v) t)) → K undef w')
    (hm : Hole (Ck.box g cs t) L f := by repeat (first | exact Hole.here | apply Hole.there)) (hj : j < cs.length := by first | decide | simp) (h1 : v.oneCell' = true := by rfl) :
    VU P K tg (Instr.storeAt e (.pointer (some ⟨g, j, none⟩)) v) w := by
  have hb : w.heap[g]? = some (.cells cs.toArray t (0, 0)) := H.ok _ hm.mem
  refine x_store HS (old := cs[j]) (by rw [H.cell hm.mem, List.getElem?_eq_getElem hj]) (frozen_of_row w g j _ t hb) h1 (h _ (H.put hm ?_ ?_ (by simp [Ck.box]) (fun b hb => ?_)))
  · exact ⟨rfl, rfl, rfl, by simp, fun k _ hk => heap_setCell_other w _ k v (fun e => hk (by simp [Ck.box, e]))⟩
  · have := heap_setCell_same w g j _ t v hb
    simpa [Ck.box] using this
  · simp only [Ck.box, List.mem_singleton] at hb ⊢
    refine ⟨.inl hb, ?_⟩
    have := H.lt hm.mem
    simp; omega
/-- A struct stored over another, or into a part of one. -/
theorem x_sta (H : Sep n w0 w L) {g j : Nat} {cs vs : List Value} {t e : TypeId} {sz : Nat} {z : Array Value} {f : Ck → List Ck} {tg : Tg K} (HS : StT P e sz z) (h : ∀ w', Sep n w0 w' (f (Ck.box g (cs.take j ++ vs ++ cs.drop (j + vs.length)) t)) → K undef w')
    (hm : Hole (Ck.box g cs t) L f := by repeat (first | exact Hole.here | apply Hole.there)) (hl : vs.length = sz := by rfl) (hj : j + vs.length ≤ cs.length := by first | decide | simp) (h1 : ∀ v ∈ vs, v.oneCell' = true) :
    VU P K tg (Instr.storeAt e (.pointer (some ⟨g, j, none⟩)) (.agg vs.toArray)) w := by
  have hb : w.heap[g]? = some (.cells cs.toArray t (0, 0)) := H.ok _ hm.mem
  obtain ⟨fs, hu⟩ := HS.un
  obtain ⟨inf, hi, hs, _⟩ := HS.inf
  have hst := run_storeCells_at P g j t vs 0 cs.toArray w hb (by simpa using hj) h1
  unfold VU
  refine vU_run (u := ()) (w' := w.setRow g ((cs.take j ++ vs ++ cs.drop (j + vs.length)).toArray)) ?_ (h _ (H.put hm ?_ ?_ (by simp [Ck.box]) (fun b hb => ?_)))
  · simp only [Nat.add_zero] at hst
    simp [Instr.storeAt, Instr.sureAddr, storeVar, Value.cells, run_sizeOf' hi hs, hl, hst]
  · exact ⟨rfl, rfl, rfl, by simp [World.setRow], fun k _ hk => setRow_other w g k _ (fun e => hk (by simp [Ck.box, e]))⟩
  · exact setRow_heap w g _ _ t _ hb
  · simp only [Ck.box, List.mem_singleton] at hb ⊢
    refine ⟨.inl hb, ?_⟩
    have := H.lt hm.mem
    simp [World.setRow]; omega
theorem x_call {f : FuncId} {args : Array Value} {R : Value → World → Prop} (c : ACalls P f args w R) (h : ∀ v w', R v w' → K v w') : ACall P f K tg args w := ACalls.mono c h
end

/-! ### quiet steps -/
section
variable {P : Program} {n n' : Nat} {w0 w1 w : World} {L : List Ck} {G : List (Nat × Nat)} {K : Value → Prop} {tg : Tg (w.heap.size, ([] : List (Nat × Nat)), w, K)}
theorem q_ld (H : Sep n w0 w L) {g j : Nat} {cs : List Value} {t e : TypeId} {z v : Value} (HS : ScT P e z) (h : K v) (hm : Ck.box g cs t ∈ L := by repeat (first | exact List.mem_cons_self | apply List.mem_cons_of_mem)) (hv : cs[j]? = some v := by rfl) :
    QS P w.heap.size [] w K tg (Instr.loadAt e (.pointer (some ⟨g, j, none⟩))) := qx_load HS ((H.cell hm j).trans hv) (H.lt hm) (by simp) h
theorem q_lda (H : Sep n w0 w L) {g : Nat} {cs : List Value} {t e : TypeId} {sz : Nat} {z : Array Value} (HS : StT P e sz z) (h : K (.agg cs.toArray)) (hm : Ck.box g cs t ∈ L := by repeat (first | exact List.mem_cons_self | apply List.mem_cons_of_mem)) (hl : cs.length = sz := by rfl) :
    QS P w.heap.size [] w K tg (Instr.loadAt e (.pointer (some ⟨g, 0, none⟩))) := qx_loadAgg HS cs hl (fun j v hj => by rw [Kd.add_at, Nat.zero_add, H.cell hm]; exact hj) (H.lt hm) (by simp) h
theorem Sep.kept {w' : World} (h : Below w.heap.size w w') : Kept w.heap.size [] w w' := ⟨fun _ => h.size, fun b hb _ => h.block b hb, fun _ _ h => by cases h⟩
end

end Go.Proofs.YtcmckbgiiclomaaGreatDoor.V
