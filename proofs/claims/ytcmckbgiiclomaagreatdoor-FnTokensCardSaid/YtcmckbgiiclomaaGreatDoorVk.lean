/- Slices of plain elements (bytes, numbers, strings), and strings: reading, making, appending, storing, converting. -/
import Derived.Test.YtcmckbgiiclomaaGreatDoorVj
namespace Go.Proofs.YtcmckbgiiclomaaGreatDoor.V
open Go Go.RowKit
set_option linter.unusedVariables false

/-- A kind of one cell that looks at no memory. -/
def IsPlain {α : Type} (d : Kd α) (f : α → Value) (R : α → Prop) : Prop := ∃ h1, d = Kd.plain f h1 R
theorem pl_u8 : IsPlain Kd.u8 encB (fun _ => True) := ⟨_, rfl⟩
theorem pl_i64 : IsPlain Kd.i64 (fun x => .int .i64 x) (fun x => -9223372036854775808 ≤ x ∧ x < 9223372036854775808) := ⟨_, rfl⟩
theorem pl_str : IsPlain Kd.str (fun l => .string ⟨l.toArray⟩) (fun l => l.length ≤ 9223372036854775807) := ⟨_, rfl⟩
theorem pl_bool : IsPlain Kd.bool (fun x => .bool x) (fun _ => True) := ⟨_, rfl⟩

section
variable {α : Type} {d : Kd α} {f : α → Value} {R : α → Prop}
theorem IsPlain.sz (h : IsPlain d f R) : d.sz = 1 := by obtain ⟨_, rfl⟩ := h; rfl
theorem IsPlain.one (h : IsPlain d f R) (x : α) : (f x).oneCell' = true := by obtain ⟨h1, rfl⟩ := h; exact h1 x
theorem IsPlain.rd (h : IsPlain d f R) {w : World} {n : Nat} {cs : List Value} {x : α} : d.rd w n cs x ↔ cs = [f x] ∧ R x := by obtain ⟨h1, rfl⟩ := h; exact Iff.rfl
theorem IsPlain.ow (h : IsPlain d f R) {w : World} {fp : List Nat} {cs : List Value} {x : α} : d.ow w fp cs x ↔ (cs = [f x] ∧ R x) ∧ fp = [] := by obtain ⟨h1, rfl⟩ := h; exact Iff.rfl

theorem IsPlain.slRd (h : IsPlain d f R) {w : World} {n : Nat} {A : Option Addr} {l : List α} : Kd.sliceRd d w n A l ↔ (∀ x ∈ l, R x) ∧ ∀ i (hi : i < l.length), A.isSome = true ∧ (adA A).block < n ∧ w.cell? ((adA A).add i) = some (f l[i]) := by
  constructor
  · intro H
    refine ⟨fun x hx => ?_, fun i hi => ?_⟩
    · obtain ⟨i, hi, rfl⟩ := List.getElem_of_mem hx
      obtain ⟨_, _, es, h3, _⟩ := H i hi
      exact (h.rd.1 h3).2
    · obtain ⟨h1, h2, es, h3, h4⟩ := H i hi
      refine ⟨h1, h2, ?_⟩
      have h5 := h4 0 (by rw [h.sz]; exact Nat.zero_lt_one)
      rw [(h.rd.1 h3).1, h.sz, Nat.mul_one, Nat.add_zero] at h5
      exact h5
  · intro ⟨hR, H⟩ i hi
    obtain ⟨h1, h2, h3⟩ := H i hi
    refine ⟨h1, h2, [f l[i]], h.rd.2 ⟨rfl, hR _ (List.getElem_mem hi)⟩, fun j hj => ?_⟩
    have hj0 : j = 0 := by rw [h.sz] at hj; omega
    subst hj0
    rw [h.sz, Nat.mul_one, Nat.add_zero, h3]; rfl

theorem flat_one' (l : List α) (f : α → Value) : (l.map fun b => [f b]).flatten = l.map f := by induction l <;> simp_all
theorem flat_nil' (l : List α) : (l.map fun _ => ([] : List Nat)).flatten = [] := by induction l <;> simp_all

theorem IsPlain.slOw (hp : IsPlain d f R) {e : TypeId} {w : World} {fp : List Nat} {v : Value} {l : List α} : (Kd.slice e d).ow w fp [v] l ↔ (∀ x ∈ l, R x) ∧ w.owR e 1 v l.length (l.map f) ∧ fp = v.ownBlock.toList := by
  constructor
  · rintro ⟨v', rows, fps, hv, h⟩
    simp only [List.cons.injEq, and_true] at hv
    subst hv
    have hr : rows = l.map fun b => [f b] := by
      apply List.ext_getElem
      · simp [h.lr]
      · intro i h1 h2
        have h3 := (hp.ow.1 (h.el i (by rw [← h.lr]; exact h1))).1.1
        simp only [List.getElem_map]
        exact h3
    have hf : fps.flatten = [] := by
      rw [List.flatten_eq_nil_iff]
      intro f hf
      obtain ⟨i, hi, rfl⟩ := List.getElem_of_mem hf
      exact (hp.ow.1 (h.el i (by rw [← h.lf]; exact hi))).2
    have h1 := h.row
    rw [hr, flat_one', hp.sz] at h1
    refine ⟨fun x hx => ?_, h1, by rw [h.hfp, hf, List.append_nil]⟩
    obtain ⟨i, hi, rfl⟩ := List.getElem_of_mem hx
    exact (hp.ow.1 (h.el i hi)).1.2
  · rintro ⟨hR, h1, h2⟩
    refine ⟨v, l.map (fun b => [f b]), l.map (fun _ => []), rfl, ⟨by rw [flat_one', hp.sz]; exact h1, by simp, by simp, fun i hi => ?_, by rw [flat_nil', List.append_nil]; exact h2, ?_⟩⟩
    · simp only [List.getElem_map]
      exact hp.ow.2 ⟨⟨rfl, hR _ (List.getElem_mem hi)⟩, rfl⟩
    · rw [h2]; cases v.ownBlock <;> simp
theorem ownB_lt {w : World} {e : TypeId} {sz : Nat} {v : Value} {n : Nat} {xs : List Value} (h : w.owR e sz v n xs) : ∀ b ∈ v.ownBlock.toList, b < w.heap.size := fun b hb => owR_lt h b (by simpa using hb)
theorem ownB_nodup (v : Value) : v.ownBlock.toList.Nodup := by cases v.ownBlock <;> simp
end

/-- What an append comes to; where its row lies. -/
theorem app_raw {P : Program} {w : World} {t ty e : TypeId} {sz by_ : Nat} {z : Value} (HS : SlT P t e sz by_ z) {v : Value} {n : Nat} {xs : List Value} (ho : w.owR e sz v n xs) {A : Option Addr} {m c : Nat} {news : List Value}
    (hl : news.length = m * sz) (hA : A = none → m = 0) (hnews : ∀ j u, news[j]? = some u → w.cell? ((adA A).add j) = some u) (h1 : ∀ u ∈ news, u.oneCell' = true) (hn : n + m ≤ 9223372036854775807) (hb : (n + m) * by_ ≤ 140737488355328) :
    ∃ v' w', (Builtin.append_ #[t, t] ty #[v, .slice A m c]).run P w = .ok v' w' ∧ w'.owR e sz v' (n + m) (xs ++ news) ∧ w.grownBy w' v.ownBlock ∧ (v'.ownBlock = v.ownBlock ∨ ∀ b, v'.ownBlock = some b → w.heap.size ≤ b) ∧ ∀ g j, v.ownBlock = some g → j < n * sz → w'.cell? ⟨g, j, none⟩ = w.cell? ⟨g, j, none⟩ := by
  obtain ⟨i, hi, hs, hby, hz⟩ := HS.inf
  have hmx : n + m ≤ maxLen := by simpa [maxLen] using hn
  cases A with
  | none =>
    have := hA rfl
    subst this
    obtain rfl : news = [] := List.eq_nil_of_length_eq_zero (by simpa using hl)
    refine ⟨v, w, ?_, by simpa using ho, ⟨rfl, rfl, rfl, Nat.le_refl _, fun _ _ _ => rfl⟩, .inl rfl, fun _ _ _ _ => rfl⟩
    rcases ho.2 with ⟨rfl, rfl⟩ | ⟨g, cap, cur, rfl, _, _, hnc, _⟩
    · simp [Builtin.append_, run_underlying' HS.un, run_sizeOf' hi hs, Builtin.lenOf, Builtin.firstCells]
    · simp [Builtin.append_, run_underlying' HS.un, run_sizeOf' hi hs, Builtin.lenOf, Builtin.firstCells, hnc, storeCells]
  | some a =>
    rcases ho.2 with ⟨rfl, rfl⟩ | ⟨g, cap, cur, rfl, _, hg, hnc, hcm, hcs, htake⟩
    · have hx : xs = [] := List.eq_nil_of_length_eq_zero (by simpa using ho.1)
      subst hx
      obtain ⟨v', w', h2, h3, h4, _⟩ := run_append_own (P := P) w w.heap.size t ty e i z sz by_ HS.un hi hz hs hby HS.zs HS.pos (.slice none 0 0) 0 [] (World.ownsRow_nil _ _ _ _) a m c news hl hnews h1 hmx hb (Nat.le_refl _)
      refine ⟨v', w', h2, owR_of ⟨h3.1, ?_⟩, h4, .inr fun b hb => (h3.lt b hb).1, fun g j hg _ => by simp [Value.ownBlock] at hg⟩
      rcases h3.2 with h5 | ⟨g, cap, cur, h5, h6, h7⟩
      · exact .inl h5
      · exact .inr ⟨g, cap, cur, h5, Nat.zero_le _, h7⟩
    · by_cases hroom : n + m ≤ cap
      · subst hs
        have hlen : (xs ++ news).length = (n + m) * i.size := by rw [List.length_append, ho.1, hl, Nat.add_mul]
        have hfit : n * i.size + news.length ≤ cur.size := by
          rw [hl, ← Nat.add_mul]; exact Nat.le_trans (Nat.mul_le_mul_right _ hroom) hcs
        have hr := run_append_room (P := P) w t ty e i HS.un hi g n cap cur hg a m c news hl hnews h1 hroom hfit
        refine ⟨_, _, hr, ⟨hlen, .inr ⟨g, cap, _, rfl, Nat.zero_le _, setRow_heap w g cur _ e _ hg, hroom, hcm, ?_, ?_⟩⟩, ⟨rfl, rfl, rfl, by simp, fun k _ hk => setRow_other w g k _ (fun e => hk (by simp [Value.ownBlock, e]))⟩, .inl rfl, fun g' j hg' hj => ?_⟩
        · simp only [List.size_toArray, List.length_append, List.length_take, List.length_drop, Array.length_toList]
          omega
        · rw [htake, ← hlen]
          exact List.take_left
        · simp only [Value.ownBlock, Option.map_some, Option.some.injEq] at hg'
          subst hg'
          rw [Kd.cell_blk (setRow_heap w g cur _ e _ hg), Kd.cell_blk hg]
          have hjc : j < cur.size := by omega
          rw [List.getElem?_toArray, List.append_assoc, List.getElem?_append_left (by rw [List.length_take]; simp; omega), List.getElem?_take, if_pos hj]
          simp
      · subst hs
        subst hby
        have hr := run_append_grow (P := P) w t ty e i z HS.un hi hz ⟨g, 0, none⟩ n cap xs ho.1 (fun j u hu => by rw [Kd.add_plain, Kd.cell_blk hg]; rw [← htake, List.getElem?_take] at hu; split at hu <;> simp_all) a m c news hl hnews (by omega) (by omega) (growslice_fits (by omega) hb)
        have hge := grownCap_ge w (n + m) cap e
        have hlen : (xs ++ news).length = (n + m) * i.size := by rw [List.length_append, ho.1, hl, Nat.add_mul]
        refine ⟨_, _, hr, ⟨hlen, .inr ⟨w.heap.size, _, _, rfl, Nat.zero_le _, heap_alloc_new w.drew _, hge, grownCap_le_maxLen w (n + m) cap e hmx, ?_, ?_⟩⟩, ⟨rfl, rfl, rfl, by simp, fun k hk _ => heap_alloc_old w.drew _ k hk⟩, .inr fun b hb => by simp [Value.ownBlock] at hb; omega, fun g' j hg' _ => World.cell?_of_block (heap_alloc_old w.drew _ _ (by simp only [Value.ownBlock, Option.map_some, Option.some.injEq] at hg'; subst hg'; exact (Array.getElem?_eq_some_iff.1 hg).1))⟩
        · have e1 : grownCap w (n + m) cap e * i.size = (n + m) * i.size + (grownCap w (n + m) cap e - (n + m)) * i.size := by rw [← Nat.add_mul]; congr 1; omega
          have e2 := hlen
          rw [List.length_append] at e2
          simp only [Array.size_append, List.size_toArray, size_zeroCells, HS.zs]
          omega
        · rw [Array.toList_append, Array.toList_append, List.take_append_of_le_length (by simp [← hlen])]
          exact List.take_of_length_le (by simp [← hlen])

/-! ### steps -/
section
variable {P : Program} {n : Nat} {w0 w : World} {L : List Ck} {K : Value → World → Prop} {tg : Tg K}
variable {α : Type} {d : Kd α} {f : α → Value} {R : α → Prop}

/-- What is known of a readable slice, with its value laid open. -/
theorem sl_open {e : TypeId} {m : Nat} {v : Value} {l : List α} (h : (Kd.slice e d).rd w m [v] l) : ∃ A c, v = .slice A l.length c ∧ l.length ≤ c ∧ c ≤ maxLen ∧ Kd.sliceRd d w m A l := by
  obtain ⟨A, c, hv, h1, h2, h3⟩ := h
  simp only [List.cons.injEq, and_true] at hv
  exact ⟨A, c, hv, h1, h2, h3⟩
/-- An element's address, and what lies there. -/
theorem x_el (hp : IsPlain d f R) {t e by_ : Nat} {z : Value} (HS : SlT P t e 1 by_ z) {A : Option Addr} {m c : Nat} {l : List α} {k : IntKind} {i : Int} (hl : Kd.sliceRd d w m A l) (h0 : 0 ≤ i) (h1 : i < (l.length : Int))
    (h : ∀ ad, ad.block < m → w.cell? ad = some (f (l[i.toNat]'(by omega))) → R (l[i.toNat]'(by omega)) → K (.pointer (some ad)) w) : VS P K tg (Instr.indexAt t (.slice A l.length c) (.int k i)) w := by
  obtain ⟨hR, hc⟩ := hp.slRd.1 hl
  obtain ⟨h2, h3, h4⟩ := hc i.toNat (by omega)
  refine x_index HS h2 h0 h1 (h _ ?_ ?_ (hR _ (List.getElem_mem _)))
  · rw [Kd.add_block]; exact h3
  · rw [Nat.mul_one]; exact h4

theorem x_mk (H : Sep n w0 w L) (hp : IsPlain d f R) {t e by_ : Nat} {x : α} (HS : SlT P t e 1 by_ (f x)) (hx : R x) {k k' : IntKind} {m : Nat} (hb : by_ * m ≤ 281474976710656) (hn : m ≤ 9223372036854775807)
    (h : ∀ g w', Sep n w0 w' (Ck.own (Kd.slice e d) [g] [.slice (some ⟨g, 0, none⟩) m m] (List.replicate m x) :: L) → K (.slice (some ⟨g, 0, none⟩) m m) w') (hc : (f x).cells = #[f x] := by rfl) :
    VS P K tg (Instr.makeSlice t (.int k (m : Int)) (.int k' (m : Int))) w := by
  refine x_make HS hb hn fun w' ho hbl hlt => h _ _ (H.add hbl (hp.slOw.2 ⟨fun y hy => by rw [List.eq_of_mem_replicate hy]; exact hx, ?_, rfl⟩) (by simp [Ck.own]) (fun b hb => by simp [Ck.own] at hb; omega))
  rw [hc, Nat.mul_one, toList_madeCells_one] at ho
  simpa using ho
/-- A slice of no elements. -/
theorem x_emp (H : Sep n w0 w L) (hp : IsPlain d f R) {t e sz by_ : Nat} {z : Value} (HS : SlT P t e sz by_ z) (h : ∀ g w', Sep n w0 w' (Ck.own (Kd.slice e d) [g] [.slice (some ⟨g, 0, none⟩) 0 0] [] :: L) → K (.slice (some ⟨g, 0, none⟩) 0 0) w') (h1 : sz = 1 := by rfl) : VS P K tg (Instr.buildSlice t 0 #[]) w := by
  obtain ⟨i, hi, hs, _, hz⟩ := HS.inf
  unfold VS
  refine vS_run (v := .slice (some ⟨w.heap.size, 0, none⟩) 0 0) (w' := w.alloc (.cells #[] e)) ?_ (h _ _ (H.add (Below.alloc (Below.refl _ _) (Nat.le_refl _) _) (hp.slOw.2 ⟨by simp, ?_, rfl⟩) (by simp [Ck.own]) (fun b hb => by simp [Ck.own] at hb; subst hb; simp)))
  · have : (Array.range 0) = #[] := rfl
    simp [Instr.buildSlice, run_underlying' HS.un, run_sizeOf' hi hs, Instr.fill, newRow, this]
  · exact owR_of (World.ownsRow_lit (base := 0) w #[] 0 (Nat.zero_le _) (Nat.zero_le _) rfl)
def enumV : Nat → List Value → List (Nat × Value)
  | _, [] => []
  | i, v :: vs => (i, v) :: enumV (i + 1) vs
theorem cells_one {v : Value} (h : v.oneCell' = true) : v.cells = #[v] := by cases v <;> first | rfl | simp [Value.oneCell'] at h
theorem fill_enum : ∀ (vs : List Value) (i : Nat) (cells : Array Value), (∀ v ∈ vs, v.oneCell' = true) → i + vs.length = cells.size → Instr.fill (fun i => some (i, 1)) cells (enumV i vs) = some ((cells.toList.take i ++ vs).toArray)
  | [], i, cells, _, hl => by
    have : cells.toList.take i = cells.toList := List.take_of_length_le (by simp at hl; simp; omega)
    simp [enumV, Instr.fill, this]
  | v :: vs, i, cells, h1, hl => by
    have hv := h1 v (List.mem_cons_self ..)
    simp only [List.length_cons] at hl
    have h2 : ¬ (i + 1 > cells.size) := by omega
    have h3 := fill_enum vs (i + 1) (cells.setIfInBounds i v) (fun u hu => h1 u (List.mem_cons_of_mem _ hu)) (by simp; omega)
    simp only [enumV, Instr.fill, cells_one hv]
    have e1 : (#[v].zipIdx.foldl (fun cs x => cs.setIfInBounds (i + x.2) x.1) cells) = cells.setIfInBounds i v := rfl
    have e2 : (#[v] : Array Value).size = 1 := rfl
    rw [e2]
    simp only [bne_self_eq_false, Bool.false_or, decide_eq_true_eq, ne_eq, not_true_eq_false, decide_false]
    rw [if_neg h2]
    have e3 : (cells.setIfInBounds i v).toList.take (i + 1) = cells.toList.take i ++ [v] := by
      rw [Array.toList_setIfInBounds, List.take_add_one, List.getElem?_set_self (by simp; omega)]
      simp [List.take_set_of_le]
    rw [e3, List.append_assoc] at h3
    exact h3
/-- A slice of listed elements. -/
theorem x_lst (H : Sep n w0 w L) (hp : IsPlain d f R) {t e by_ : Nat} {z : Value} (HS : SlT P t e 1 by_ z) {m : Nat} {ps : Array (Nat × Value)} (l : List α) (hR : ∀ x ∈ l, R x)
    (h : ∀ g w', Sep n w0 w' (Ck.own (Kd.slice e d) [g] [.slice (some ⟨g, 0, none⟩) m m] l :: L) → K (.slice (some ⟨g, 0, none⟩) m m) w') (hm : l.length = m := by rfl)
    (hps : ps.toList = enumV 0 (l.map f) := by rfl) (hpos : m ≠ 0 := by decide) (hml : m ≤ 16777216 := by decide) : VS P K tg (Instr.buildSlice t m ps) w := by
  obtain ⟨i, hi, hs, _, hz⟩ := HS.inf
  subst hm
  have hmx : l.length ≤ maxLen := by simp only [maxLen]; omega
  have hf := fill_enum (l.map f) 0 ((Array.range l.length).map (z.cells[· % z.cells.size]!)) (fun u hu => by obtain ⟨y, _, rfl⟩ := List.mem_map.1 hu; exact hp.one y) (by simp)
  rw [← hps] at hf
  simp only [List.take_zero, List.nil_append] at hf
  unfold VS
  refine vS_run (v := .slice (some ⟨w.heap.size, 0, none⟩) l.length l.length) (w' := w.alloc (.cells (l.map f).toArray e)) ?_ (h _ _ (H.add (Below.alloc (Below.refl _ _) (Nat.le_refl _) _) (hp.slOw.2 ⟨hR, ?_, rfl⟩) (by simp [Ck.own]) (fun b hb => by simp [Ck.own] at hb; subst hb; simp)))
  · have hg : ¬ (16777216 < l.length) := by omega
    simp [Instr.buildSlice, run_underlying' HS.un, run_sizeOf' hi hs, hg, hpos, run_zeroValue' hi hz, hf, newRow]
  · have := owR_of <| World.ownsRow_lit (base := 0) (e := e) (size := 1) w (l.map f).toArray l.length (Nat.zero_le _) hmx (by simp)
    simpa using this
/-- An append: what is put behind is readable. -/
theorem x_app (H : Sep n w0 w L) (hp : IsPlain d f R) {t ty e by_ : Nat} {z : Value} (HS : SlT P t e 1 by_ z) {fp : List Nat} {v x : Value} {l l' : List α} {F : Ck → List Ck} (hx : (Kd.slice e d).rd w w.heap.size [x] l') (hb : (l.length + l'.length) * by_ ≤ 140737488355328) (hn : l.length + l'.length ≤ 9223372036854775807)
    (h : ∀ fp' v' w', Sep n w0 w' (F (Ck.own (Kd.slice e d) fp' [v'] (l ++ l'))) → K v' w') (hm : Hole (Ck.own (Kd.slice e d) fp [v] l) L F := by repeat (first | exact Hole.here | apply Hole.there)) :
    Builtin' P K tg .append #[t, t] ty [v, x] w := by
  obtain ⟨i, hi, hs, hby, hz⟩ := HS.inf
  obtain ⟨hR, ho, hfp⟩ := hp.slOw.1 (show (Kd.slice e d).ow w fp [v] l from H.ok _ hm.mem)
  obtain ⟨A, c, rfl, hc1, hc2, hx⟩ := sl_open hx
  obtain ⟨hR', hx⟩ := hp.slRd.1 hx
  show vS P (Builtin.append_ #[t, t] ty #[v, .slice A l'.length c]) w K
  have key := app_raw HS (ty := ty) ho (A := A) (m := l'.length) (c := c) (news := l'.map f) (by simp) (fun hA => by
      cases l' with
      | nil => rfl
      | cons y ys => have := (hx 0 (by simp)).1; rw [hA] at this; cases this)
    (fun j u hj => by
      obtain ⟨h3, h4⟩ := List.getElem?_eq_some_iff.1 hj
      have := (hx j (by simpa using h3)).2.2
      rw [this, ← h4]; simp)
    (fun u hu => by obtain ⟨y, _, rfl⟩ := List.mem_map.1 hu; exact hp.one y) hn hb
  obtain ⟨v', w', hr, ho', hg, hv', hk'⟩ := key
  refine vS_run hr (h v'.ownBlock.toList v' w' (H.put hm (c' := Ck.own (Kd.slice e d) v'.ownBlock.toList [v'] (l ++ l')) (by rw [Ck.own_fp, hfp]; exact grown_chg hg) (hp.slOw.2 ⟨?_, ?_, rfl⟩) (ownB_nodup _) ?_))
  · intro y hy
    rcases List.mem_append.1 hy with hy | hy
    · exact hR y hy
    · exact hR' y hy
  · rw [List.length_append, List.map_append]; exact ho'
  · intro b hb
    rw [Ck.own_fp] at hb
    refine ⟨?_, ownB_lt ho' b hb⟩
    rcases hv' with h1 | h1
    · left; rw [Ck.own_fp, hfp, ← h1]; exact hb
    · right; exact h1 b (by simpa using hb)

/-- The same, and what is kept. -/
theorem x_appC (H : Sep n w0 w L) (hp : IsPlain d f R) {t ty e by_ : Nat} {z : Value} (HS : SlT P t e 1 by_ z) {fp : List Nat} {v x : Value} {l l' : List α} {F : Ck → List Ck} (hx : (Kd.slice e d).rd w w.heap.size [x] l') (hb : (l.length + l'.length) * by_ ≤ 140737488355328) (hn : l.length + l'.length ≤ 9223372036854775807)
    (h : ∀ fp' v' w', Sep n w0 w' (F (Ck.own (Kd.slice e d) fp' [v'] (l ++ l'))) → Chg v.ownBlock.toList w w' → (∀ g j, v.ownBlock = some g → j < l.length → w'.cell? ⟨g, j, none⟩ = w.cell? ⟨g, j, none⟩) → K v' w') (hm : Hole (Ck.own (Kd.slice e d) fp [v] l) L F := by repeat (first | exact Hole.here | apply Hole.there)) :
    Builtin' P K tg .append #[t, t] ty [v, x] w := by
  obtain ⟨i, hi, hs, hby, hz⟩ := HS.inf
  obtain ⟨hR, ho, hfp⟩ := hp.slOw.1 (show (Kd.slice e d).ow w fp [v] l from H.ok _ hm.mem)
  obtain ⟨A, c, rfl, hc1, hc2, hx⟩ := sl_open hx
  obtain ⟨hR', hx⟩ := hp.slRd.1 hx
  show vS P (Builtin.append_ #[t, t] ty #[v, .slice A l'.length c]) w K
  have key := app_raw HS (ty := ty) ho (A := A) (m := l'.length) (c := c) (news := l'.map f) (by simp) (fun hA => by
      cases l' with
      | nil => rfl
      | cons y ys => have := (hx 0 (by simp)).1; rw [hA] at this; cases this)
    (fun j u hj => by
      obtain ⟨h3, h4⟩ := List.getElem?_eq_some_iff.1 hj
      have := (hx j (by simpa using h3)).2.2
      rw [this, ← h4]; simp)
    (fun u hu => by obtain ⟨y, _, rfl⟩ := List.mem_map.1 hu; exact hp.one y) hn hb
  obtain ⟨v', w', hr, ho', hg, hv', hk'⟩ := key
  refine vS_run hr (h v'.ownBlock.toList v' w' (H.put hm (c' := Ck.own (Kd.slice e d) v'.ownBlock.toList [v'] (l ++ l')) (by rw [Ck.own_fp, hfp]; exact grown_chg hg) (hp.slOw.2 ⟨?_, ?_, rfl⟩) (ownB_nodup _) ?_) (grown_chg hg) fun g j hg' hj => hk' g j hg' (by omega))
  · intro y hy
    rcases List.mem_append.1 hy with hy | hy
    · exact hR y hy
    · exact hR' y hy
  · rw [List.length_append, List.map_append]; exact ho'
  · intro b hb
    rw [Ck.own_fp] at hb
    refine ⟨?_, ownB_lt ho' b hb⟩
    rcases hv' with h1 | h1
    · left; rw [Ck.own_fp, hfp, ← h1]; exact hb
    · right; exact h1 b (by simpa using hb)

theorem ownsRow_len {w : World} {e : TypeId} {sz m c n : Nat} {A : Option Addr} {xs : List Value} (h : w.owR e sz (.slice A m c) n xs) : m = n := by
  rcases h.2 with ⟨h1, h2⟩ | ⟨g, cap, cur, h1, _⟩
  · cases h1; exact h2.symm
  · cases h1; rfl
/-- A store into an owned row. -/
theorem x_set (H : Sep n w0 w L) (hp : IsPlain d f R) {e : TypeId} {z : Value} (HS : ScT P e z) {fp : List Nat} {g c j m : Nat} {l : List α} {x : α} {F : Ck → List Ck} {tg : Tg K} (hj : j < m) (hx : R x)
    (h : ∀ w', Sep n w0 w' (F (Ck.own (Kd.slice e d) fp [.slice (some ⟨g, 0, none⟩) m c] (l.set j x))) → K undef w') (hm : Hole (Ck.own (Kd.slice e d) fp [.slice (some ⟨g, 0, none⟩) m c] l) L F := by repeat (first | exact Hole.here | apply Hole.there)) :
    VU P K tg (Instr.storeAt e (.pointer (some ⟨g, j, none⟩)) (f x)) w := by
  obtain ⟨hR, ho, hfp⟩ := hp.slOw.1 (show (Kd.slice e d).ow w fp [.slice (some ⟨g, 0, none⟩) m c] l from H.ok _ hm.mem)
  obtain rfl := ownsRow_len ho
  have hfp' : fp = [g] := by rw [hfp]; rfl
  subst hfp'
  have hg : g < w.heap.size := owR_lt ho g rfl
  refine x_put HS ho hj (hp.one x) fun w' ho' hother hbl => h w' (H.put hm (c' := Ck.own (Kd.slice e d) [g] [.slice (some ⟨g, 0, none⟩) l.length c] (l.set j x)) ⟨hbl.os, hbl.tape, hbl.output, hbl.size, fun k _ hk => hother k (fun e => hk (by simp [Ck.own, e]))⟩ (hp.slOw.2 ⟨?_, ?_, rfl⟩) (by simp [Ck.own]) (fun b hb => ?_))
  · intro y hy
    rcases List.mem_or_eq_of_mem_set hy with hy | hy
    · exact hR y hy
    · rw [hy]; exact hx
  · rw [List.length_set, List.map_set]; exact ho'
  · refine ⟨.inl hb, ?_⟩
    simp only [Ck.own, List.mem_singleton] at hb
    have := hbl.size
    omega
end

end Go.Proofs.YtcmckbgiiclomaaGreatDoor.V
