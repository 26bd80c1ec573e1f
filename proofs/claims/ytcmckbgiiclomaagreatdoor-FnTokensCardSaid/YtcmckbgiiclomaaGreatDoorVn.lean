/- Elements of slices of any kind: their address, and an owned one stored. -/
import Derived.Test.YtcmckbgiiclomaaGreatDoorVm
namespace Go.Proofs.YtcmckbgiiclomaaGreatDoor.V
open Go Go.RowKit
set_option linter.unusedVariables false

section
variable {P : Program} {n : Nat} {w0 w : World} {L : List Ck} {K : Value → World → Prop} {tg : Tg K} {α : Type} {d : Kd α}

/-- An element's address, and what is read there. -/
theorem x_elg {t e sz by_ : Nat} {z : Value} (HS : SlT P t e sz by_ z) (hd : d.sz = sz) {A : Option Addr} {m c : Nat} {l : List α} {k : IntKind} {i : Int} (hl : Kd.sliceRd d w m A l) (h0 : 0 ≤ i) (h1 : i < (l.length : Int))
    (h : ∀ ad es, ad.block < m → d.rd w m es (l[i.toNat]'(by omega)) → (∀ j, j < sz → w.cell? (ad.add j) = es[j]?) → K (.pointer (some ad)) w) : VS P K tg (Instr.indexAt t (.slice A l.length c) (.int k i)) w := by
  obtain ⟨h2, h3, es, h4, h5⟩ := hl i.toNat (by omega)
  refine x_index HS h2 h0 h1 (h _ es ?_ h4 fun j hj => ?_)
  · rw [Kd.add_block]; exact h3
  · rw [Kd.add_add, ← hd]; exact h5 j (by omega)
/-- The element is a value of one cell. -/
theorem x_ld1 {e : TypeId} {z : Value} (HS : ScT P e z) {ad : Addr} {es : List Value} {v : Value} (hc : ∀ j, j < 1 → w.cell? (ad.add j) = es[j]?) (he : es = [v]) (h : K v w) : VS P K tg (Instr.loadAt e (.pointer (some ad))) w := by
  have := hc 0 (by omega)
  rw [he, add_zero'] at this
  exact x_load HS this h
/-- The element is a struct. -/
theorem x_lds {t : TypeId} {sz : Nat} {z : Array Value} (HS : StT P t sz z) {ad : Addr} {es : List Value} (hc : ∀ j, j < sz → w.cell? (ad.add j) = es[j]?) (hl : es.length = sz) (h : K (.agg es.toArray) w) : VS P K tg (Instr.loadAt t (.pointer (some ad))) w :=
  x_loadAgg HS es hl (fun j v hj => by rw [hc j (by have := (List.getElem?_eq_some_iff.1 hj).1; omega)]; exact hj) h

theorem flat_set {sz : Nat} : ∀ (rows : List (List Value)) (j : Nat) (es : List Value), (∀ r ∈ rows, r.length = sz) → j < rows.length → (rows.set j es).flatten = rows.flatten.take (j * sz) ++ es ++ rows.flatten.drop (j * sz + sz)
  | [], j, es, _, hj => by simp at hj
  | r :: rs, 0, es, hr, _ => by
    have h1 := hr r (List.mem_cons_self ..)
    have h2 : List.drop sz r = [] := List.drop_eq_nil_of_le (by omega)
    simp [h1]
  | r :: rs, j + 1, es, hr, hj => by
    have h1 := hr r (List.mem_cons_self ..)
    have ih := flat_set rs j es (fun q hq => hr q (List.mem_cons_of_mem _ hq)) (by simpa using hj)
    have e1 : (j + 1) * sz = r.length + j * sz := by rw [Nat.add_mul, h1]; omega
    simp only [List.set_cons_succ, List.flatten_cons, ih]
    rw [e1, List.take_length_add_append, Nat.add_assoc, List.drop_length_add_append]
    simp [List.append_assoc]
theorem ow_nodup_parts {e : TypeId} {fp : List Nat} {v : Value} {l : List α} {rows : List (List Value)} {fs : List (List Nat)} (h : Kd.RowOw e d w fp v l rows fs) : fs.flatten.Nodup ∧ (∀ b, v.ownBlock = some b → b ∉ fs.flatten) := by
  have h1 := h.nd
  rw [h.hfp] at h1
  obtain ⟨_, h2, h3⟩ := List.nodup_append.1 h1
  exact ⟨h2, fun b hb hm => h3 b (by simp [hb]) b hm rfl⟩
theorem nodup_set_flat : ∀ (fs : List (List Nat)) (j : Nat) (fe : List Nat), fs.flatten.Nodup → fe.Nodup → (∀ b ∈ fe, b ∉ fs.flatten) → (fs.set j fe).flatten.Nodup
  | [], j, fe, h, _, _ => by simp
  | f :: fs, 0, fe, h, h1, h2 => by
    simp only [List.set_cons_zero, List.flatten_cons]
    simp only [List.flatten_cons] at h h2
    obtain ⟨h3, h4, h5⟩ := List.nodup_append.1 h
    exact List.nodup_append.2 ⟨h1, h4, fun a ha b hb e => h2 a ha (List.mem_append_right _ (e ▸ hb))⟩
  | f :: fs, j + 1, fe, h, h1, h2 => by
    simp only [List.set_cons_succ, List.flatten_cons]
    simp only [List.flatten_cons] at h h2
    obtain ⟨h3, h4, h5⟩ := List.nodup_append.1 h
    have ih := nodup_set_flat fs j fe h4 h1 (fun b hb hm => h2 b hb (List.mem_append_right _ hm))
    refine List.nodup_append.2 ⟨h3, ih, fun a ha b hb e => ?_⟩
    subst e
    obtain ⟨q, hq, haq⟩ := List.mem_flatten.1 hb
    rcases List.mem_or_eq_of_mem_set hq with hq | hq
    · exact h5 a ha a (List.mem_flatten_of_mem hq haq) rfl
    · subst hq; exact h2 a haq (List.mem_append_left _ ha)
theorem mem_set_flat {fs : List (List Nat)} {j : Nat} {fe : List Nat} {b : Nat} (h : b ∈ (fs.set j fe).flatten) : b ∈ fs.flatten ∨ b ∈ fe := by
  obtain ⟨q, hq, hb⟩ := List.mem_flatten.1 h
  rcases List.mem_or_eq_of_mem_set hq with hq | hq
  · exact .inl (List.mem_flatten_of_mem hq hb)
  · subst hq; exact .inr hb

/-- An owned element stored into an owned slice: it is the slice's from then on. -/
theorem x_setS {e : TypeId} {es : List Value} {x : α} {fe fp : List Nat} {g m c j : Nat} {l : List α} {M : List Ck} (H : Sep n w0 w (Ck.own d fe es x :: Ck.own (Kd.slice e d) fp [.slice (some ⟨g, 0, none⟩) m c] l :: M)) (hj : j < m) :
    ∃ cur, w.heap[g]? = some (.cells cur e (0, 0)) ∧ j * d.sz + es.length ≤ cur.size ∧ es.length = d.sz ∧
      ∃ fp', Sep n w0 (w.setRow g (cur.toList.take (j * d.sz) ++ es ++ cur.toList.drop (j * d.sz + es.length)).toArray) (Ck.own (Kd.slice e d) fp' [.slice (some ⟨g, 0, none⟩) m c] (l.set j x) :: M) := by
  have he : d.ow w fe es x := H.ok _ (.head _)
  obtain ⟨v, rows, fs, hv, hr⟩ := (show (Kd.slice e d).ow w fp [.slice (some ⟨g, 0, none⟩) m c] l from H.ok _ (.tail _ (.head _)))
  simp only [List.cons.injEq, and_true] at hv
  subst hv
  obtain rfl := ownsRow_len hr.row
  have hes := d.own_len he
  have hnd := H.nd
  simp only [fps, Ck.own_fp] at hnd
  obtain ⟨n1, n2, n3⟩ := List.nodup_append.1 hnd
  obtain ⟨n4, n5, n6⟩ := List.nodup_append.1 n2
  obtain ⟨p1, p2⟩ := ow_nodup_parts hr
  have hgfp : g ∈ fp := by rw [hr.hfp]; exact List.mem_append_left _ (by simp [Value.ownBlock])
  rcases hr.row.2 with ⟨h1, _⟩ | ⟨g', cap, cur, h1, _, hh, hc, hm, hs, ht⟩
  · cases h1
  cases h1
  have hb : (j + 1) * d.sz ≤ l.length * d.sz := Nat.mul_le_mul_right _ hj
  have hb2 : l.length * d.sz ≤ c * d.sz := Nat.mul_le_mul_right _ hc
  rw [Nat.add_mul, Nat.one_mul] at hb
  refine ⟨cur, hh, by omega, hes, g :: (fs.set j fe).flatten, ?_⟩
  have hdis : ∀ b ∈ fe, b ∉ fp := fun b hb hm => n3 b hb b (List.mem_append_left _ hm) rfl
  have hfsfp : ∀ b ∈ fs.flatten, b ∈ fp := fun b hb => by rw [hr.hfp]; exact List.mem_append_right _ hb
  have hother : ∀ b, b ≠ g → (w.setRow g (cur.toList.take (j * d.sz) ++ es ++ cur.toList.drop (j * d.sz + es.length)).toArray).heap[b]? = w.heap[b]? := fun b hb => setRow_other w g b _ hb
  have hrow : (Kd.slice e d).ow (w.setRow g (cur.toList.take (j * d.sz) ++ es ++ cur.toList.drop (j * d.sz + es.length)).toArray) (g :: (fs.set j fe).flatten) [.slice (some ⟨g, 0, none⟩) l.length c] (l.set j x) := by
    refine ⟨_, rows.set j es, fs.set j fe, rfl, ⟨?_, by simp [hr.lr], by simp [hr.lf], fun i hi => ?_, by simp [Value.ownBlock], ?_⟩⟩
    · rw [List.length_set]
      refine ⟨?_, .inr ⟨g, c, _, rfl, Nat.zero_le _, setRow_heap w g cur _ e _ hh, hc, hm, ?_, ?_⟩⟩
      · rw [flat_set rows j es hr.lens (by rw [hr.lr]; exact hj), List.length_append, List.length_append, List.length_take, List.length_drop, hr.row.1, hes]
        omega
      · simp only [List.size_toArray, List.length_append, List.length_take, List.length_drop, Array.length_toList]
        omega
      · rw [flat_set rows j es hr.lens (by rw [hr.lr]; exact hj), ← ht, List.take_take, Nat.min_eq_left (by omega), hes]
        apply List.ext_getElem?
        intro i
        simp only [List.getElem?_take, List.getElem?_append, List.length_append, List.length_take, List.getElem?_drop, Array.length_toList]
        split <;> split <;> (try split) <;> (try split) <;> (try rfl) <;> (try omega) <;> (try (congr 1; omega)) <;> simp <;> omega
    · by_cases hij : j = i
      · subst hij
        simp only [List.getElem_set_self]
        exact d.own_mono he (fun b hb => hother b (fun e => hdis b hb (e ▸ hgfp)))
      · simp only [List.getElem_set_ne hij]
        refine d.own_mono (hr.el i (by simpa using hi)) (fun b hb => hother b (fun e => ?_))
        subst e
        exact p2 b rfl (fl_mem.2 ⟨i, by have := hr.lf; simp at hi; omega, hb⟩)
    · refine List.nodup_cons.2 ⟨fun hm => ?_, nodup_set_flat fs j fe p1 n1 fun b hb hm => hdis b hb (hfsfp b hm)⟩
      rcases mem_set_flat hm with hm | hm
      · exact p2 g rfl hm
      · exact hdis g hm hgfp
  have hsub : ∀ b ∈ g :: (fs.set j fe).flatten, b ∈ fe ++ (fp ++ fps M) ∧ (b ∈ fe ∨ b ∈ fp) := by
    intro b hb
    rcases List.mem_cons.1 hb with rfl | hb
    · exact ⟨List.mem_append_right _ (List.mem_append_left _ hgfp), .inr hgfp⟩
    · rcases mem_set_flat hb with hb | hb
      · exact ⟨List.mem_append_right _ (List.mem_append_left _ (hfsfp b hb)), .inr (hfsfp b hb)⟩
      · exact ⟨List.mem_append_left _ hb, .inl hb⟩
  have hgn : n ≤ g := (H.lo g (List.mem_append_right _ (List.mem_append_left _ hgfp))).1
  refine ⟨H.bel.trans ⟨rfl, rfl, rfl, by simp [World.setRow], fun k hk => hother k (by omega)⟩, by simpa [World.setRow] using H.ns, ?_, ?_, ?_⟩
  · simp only [fps, Ck.own_fp]
    refine List.nodup_append.2 ⟨(Kd.slice e d).own_nodup hrow, n5, fun a ha b hb e => ?_⟩
    subst e
    rcases (hsub a ha).2 with h | h
    · exact n3 a h a (List.mem_append_right _ hb) rfl
    · exact n6 a h a hb rfl
  · intro b hb
    simp only [fps, Ck.own_fp] at hb
    have hsz : (w.setRow g (cur.toList.take (j * d.sz) ++ es ++ cur.toList.drop (j * d.sz + es.length)).toArray).heap.size = w.heap.size := by simp [World.setRow]
    rw [hsz]
    rcases List.mem_append.1 hb with hb | hb
    · exact H.lo b (hsub b hb).1
    · exact H.lo b (List.mem_append_right _ (List.mem_append_right _ hb))
  · intro ck hck
    rcases List.mem_cons.1 hck with rfl | hck
    · exact hrow
    · exact ck.loc (fun b hb => hother b (fun e => n6 g hgfp b (mem_fps hb hck) e.symm)) (H.ok _ (.tail _ (.tail _ hck)))
theorem setCell_row {w : World} {g o : Nat} {cur : Array Value} {e : TypeId} {v : Value} (h : w.heap[g]? = some (.cells cur e (0, 0))) (ho : o < cur.size) : w.setCell ⟨g, o, none⟩ v = w.setRow g (cur.toList.take o ++ [v] ++ cur.toList.drop (o + 1)).toArray := by
  rw [setCell_eq_setRow w g o cur e (0, 0) v h]
  congr 1
  apply Array.ext'
  rw [Array.toList_setIfInBounds]
  simp only [List.append_assoc]
  rw [List.set_eq_take_append_cons_drop, if_pos (by simpa using ho)]
  rfl
/-- Stored: a value of one cell. -/
theorem x_stS1 {e : TypeId} {z v : Value} {x : α} {fe fp : List Nat} {g m c j : Nat} {l : List α} {M : List Ck} {tg : Tg K} (HS : ScT P e z) (H : Sep n w0 w (Ck.own d fe [v] x :: Ck.own (Kd.slice e d) fp [.slice (some ⟨g, 0, none⟩) m c] l :: M)) (hd : d.sz = 1) (hj : j < m) (h1 : v.oneCell' = true)
    (h : ∀ fp' w', Sep n w0 w' (Ck.own (Kd.slice e d) fp' [.slice (some ⟨g, 0, none⟩) m c] (l.set j x) :: M) → K undef w') : VU P K tg (Instr.storeAt e (.pointer (some ⟨g, j, none⟩)) v) w := by
  obtain ⟨cur, hh, hb, _, fp', S⟩ := x_setS H hj
  rw [hd, Nat.mul_one] at hb S
  simp only [List.length_cons, List.length_nil] at hb S
  refine x_store HS (old := cur[j]) (by rw [Kd.cell_blk hh, Array.getElem?_eq_getElem (by omega)]) (frozen_of_row w g j _ e hh) h1 (h fp' _ ?_)
  rw [setCell_row hh (by omega)]
  exact S
/-- Stored: a struct. -/
theorem x_stSs {e : TypeId} {sz : Nat} {z : Array Value} {es : List Value} {x : α} {fe fp : List Nat} {g m c j : Nat} {l : List α} {M : List Ck} {tg : Tg K} (HS : StT P e sz z) (H : Sep n w0 w (Ck.own d fe es x :: Ck.own (Kd.slice e d) fp [.slice (some ⟨g, 0, none⟩) m c] l :: M)) (hd : d.sz = sz) (hj : j < m) (h1 : ∀ v ∈ es, v.oneCell' = true)
    (h : ∀ fp' w', Sep n w0 w' (Ck.own (Kd.slice e d) fp' [.slice (some ⟨g, 0, none⟩) m c] (l.set j x) :: M) → K undef w') : VU P K tg (Instr.storeAt e (.pointer (some ⟨g, j * sz, none⟩)) (.agg es.toArray)) w := by
  obtain ⟨cur, hh, hb, hes, fp', S⟩ := x_setS H hj
  obtain ⟨fs, hu⟩ := HS.un
  obtain ⟨inf, hi, hs, _⟩ := HS.inf
  rw [hd] at hb hes S
  have hst := run_storeCells_at P g (j * sz) e es 0 cur w hh (by simpa using hb) h1
  refine vU_run (u := ()) ?_ (h fp' _ S)
  simp only [Nat.add_zero] at hst
  simp [Instr.storeAt, Instr.sureAddr, storeVar, Value.cells, run_sizeOf' hi hs, hes]
  rw [hst, hes, List.append_assoc]

/-- A result that lies in a variable. -/
theorem res_cell (H : Sep n w0 w L) {g : Nat} {cs : List Value} {t e : TypeId} {sz : Nat} {z : Array Value} (HS : StT P e sz z) (hm : Ck.box g cs t ∈ L := by repeat (first | exact List.mem_cons_self | apply List.mem_cons_of_mem)) (hl : cs.length = sz := by rfl) : (loadVar e ⟨g, 0, none⟩).run P w = .ok (.agg cs.toArray) w := by
  obtain ⟨fs, hu⟩ := HS.un
  obtain ⟨inf, hi, hs, _⟩ := HS.inf
  have hc := run_loadCells_list (P := P) w ⟨g, 0, none⟩ cs (fun j v hj => by rw [Kd.add_at, Nat.zero_add, H.cell hm]; exact hj)
  rw [hl] at hc
  have ha : (isAgg e).run P w = .ok true w := by simp [isAgg, run_underlying' hu]
  simp [loadVar, ha, run_sizeOf' hi hs, hc]
theorem sl_one {e : TypeId} {m : Nat} {cs : List Value} {l : List α} (h : (Kd.slice e d).rd w m cs l) : ∃ v, cs = [v] := by obtain ⟨A, c, hv, _⟩ := h; exact ⟨_, hv⟩
theorem sl_len {e : TypeId} {m : Nat} {cs : List Value} {l : List α} (h : (Kd.slice e d).rd w m cs l) : l.length ≤ 9223372036854775807 := by obtain ⟨A, c, _, h1, h2, _⟩ := h; simp only [maxLen] at h2; omega
theorem sl_zero {e : TypeId} (w : World) : (Kd.slice e d).ow w [] [.slice none 0 0] [] := ⟨_, [], [], rfl, ⟨owR_nil, rfl, rfl, fun i hi => absurd hi (by simp), rfl, List.nodup_nil⟩⟩
theorem pair_zero {β : Type} {d' : Kd β} {a b : List Value} {x : α} {y : β} {w : World} (h : d.ow w [] a x) (h' : d'.ow w [] b y) : (Kd.pair d d').ow w [] (a ++ b) (x, y) := ⟨⟨a, b, [], [], rfl, rfl, h, h'⟩, List.nodup_nil⟩
theorem plain_zero {f : α → Value} {R : α → Prop} (hp : IsPlain d f R) {x : α} (w : World) (hx : R x) : d.ow w [] [f x] x := hp.ow.2 ⟨⟨rfl, hx⟩, rfl⟩
end

section
variable {P : Program} {n m : Nat} {w : World} {K : Value → Prop} {G : List (Nat × Nat)} {tg : Tg (n, G, w, K)} {α : Type} {d : Kd α}
theorem q_elg {t e sz by_ : Nat} {z : Value} (HS : SlT P t e sz by_ z) (hd : d.sz = sz) {A : Option Addr} {c : Nat} {l : List α} {k : IntKind} {i : Int} (hl : Kd.sliceRd d w m A l) (h0 : 0 ≤ i) (h1 : i < (l.length : Int))
    (h : ∀ ad es, ad.block < m → d.rd w m es (l[i.toNat]'(by omega)) → (∀ j, j < sz → w.cell? (ad.add j) = es[j]?) → K (.pointer (some ad))) : QS P n G w K tg (Instr.indexAt t (.slice A l.length c) (.int k i)) := by
  obtain ⟨h2, h3, es, h4, h5⟩ := hl i.toNat (by omega)
  refine qx_index HS h2 h0 h1 (h _ es ?_ h4 fun j hj => ?_)
  · rw [Kd.add_block]; exact h3
  · rw [Kd.add_add, ← hd]; exact h5 j (by omega)
theorem q_ld1 {e : TypeId} {z : Value} {tg : Tg (n, ([] : List (Nat × Nat)), w, K)} (HS : ScT P e z) {ad : Addr} {es : List Value} {v : Value} (hc : ∀ j, j < 1 → w.cell? (ad.add j) = es[j]?) (he : es = [v]) (hb : ad.block < n) (h : K v) : QS P n [] w K tg (Instr.loadAt e (.pointer (some ad))) := by
  have := hc 0 (by omega)
  rw [he, add_zero'] at this
  exact qx_load HS this hb (by simp) h
theorem q_lds {t : TypeId} {sz : Nat} {z : Array Value} {tg : Tg (n, ([] : List (Nat × Nat)), w, K)} (HS : StT P t sz z) {ad : Addr} {es : List Value} (hc : ∀ j, j < sz → w.cell? (ad.add j) = es[j]?) (hl : es.length = sz) (hb : ad.block < n) (h : K (.agg es.toArray)) : QS P n [] w K tg (Instr.loadAt t (.pointer (some ad))) :=
  qx_loadAgg HS es hl (fun j v hj => by rw [hc j (by have := (List.getElem?_eq_some_iff.1 hj).1; omega)]; exact hj) hb (by simp) h
end
theorem kept_of {n : Nat} {w w' : World} (hb : Below w.heap.size w w') (hn : n ≤ w.heap.size) : Kept n [] w w' := ⟨fun h => Nat.le_trans h hb.size, fun b h _ => hb.block b (by omega), fun _ _ h => by cases h⟩

/-! ### calls of functions as values -/
/-- The function value v called. -/
def CallV (P : Program) (K : Value → World → Prop) (_ : Tg K) (v : Value) (args : List Value) (w : World) : Prop :=
  aop P ⟨none, .call ⟨.value (.const v), (args.map Operand.const).toArray, #[]⟩, 0, "", #[], none⟩ (fun _ => undef) w K
section
variable {P : Program} {s : Sl} {w : World} {K : Value → World → Prop} {d : Option Tmp} {ty : TypeId} {pos : String} {af : Array Edge} {g : Option (Nat × Bool)}
theorem o_callv {t : Tmp} {xs : List Operand} {ts : Array TypeId} {tg : Tg ((⟨d, .call ⟨.value (.tmp t), xs.toArray, ts⟩, ty, pos, af, g⟩ : Oper), K)} :
    Aop P ⟨d, .call ⟨.value (.tmp t), xs.toArray, ts⟩, ty, pos, af, g⟩ K tg s w = CallV P K .mk (s t) (xs.map (ev s)) w := by
  have e : (Array.map (ev fun _ => undef) (List.map Operand.const (List.map (ev s) xs)).toArray) = Array.map (ev s) xs.toArray := by
    simp [Function.comp_def, ev]
  unfold Aop CallV aop
  simp only [execOp, resolve, e]
  rfl
theorem x_callv {f : FuncId} {fs cs : Array Value} {args : List Value} {tg : Tg K} {R : Value → World → Prop} (hf : entersB P f = true) (c : ACalls P f (fs ++ args.toArray ++ cs) w R) (h : ∀ v w', R v w' → K v w') : CallV P K tg (.func (.func f) fs cs) args w := by
  unfold CallV aop
  have : execOp (ev fun _ => undef) ⟨none, .call ⟨.value (.const (.func (.func f) fs cs)), (args.map Operand.const).toArray, #[]⟩, 0, "", #[], none⟩ = callFunc f (fs ++ args.toArray ++ cs) := by
    have e : (Array.map (ev fun _ => undef) (List.map Operand.const args).toArray) = args.toArray := by simp [Function.comp_def, ev]
    simp only [execOp, resolve, e, ev, Deferred.ofValue, pure_bind, invoke]
  rw [this, run_callFunc hf]
  exact ACalls.mono c h
end

/-! ### a field of an element -/
section
variable {P : Program} {n : Nat} {w : World} {K : Value → World → Prop} {KQ : Value → Prop} {tg : Tg K} {tq : Tg (n, ([] : List (Nat × Nat)), w, KQ)}
theorem x_lf0 {e sz : Nat} {z : Value} (HS : ScT P e z) {ad : Addr} {es : List Value} {v : Value} (hc : ∀ j, j < sz → w.cell? (ad.add j) = es[j]?) (hs : 0 < sz) (hv : es[0]? = some v) (h : K v w) : VS P K tg (Instr.loadAt e (.pointer (some ad))) w := by
  have := hc 0 hs
  rw [add_zero'] at this
  exact x_load HS (this.trans hv) h
theorem x_lfj {e sz j : Nat} {z : Value} (HS : ScT P e z) {ad : Addr} {es : List Value} {v : Value} (hc : ∀ j, j < sz → w.cell? (ad.add j) = es[j]?) (hs : j < sz) (hv : es[j]? = some v) (h : K v w) : VS P K tg (Instr.loadAt e (.pointer (some (ad.add j)))) w := x_load HS ((hc j hs).trans hv) h
theorem q_lf0 {e sz : Nat} {z : Value} (HS : ScT P e z) {ad : Addr} {es : List Value} {v : Value} (hc : ∀ j, j < sz → w.cell? (ad.add j) = es[j]?) (hs : 0 < sz) (hb : ad.block < n) (hv : es[0]? = some v) (h : KQ v) : QS P n [] w KQ tq (Instr.loadAt e (.pointer (some ad))) := by
  have := hc 0 hs
  rw [add_zero'] at this
  exact qx_load HS (this.trans hv) hb (by simp) h
theorem q_lfj {e sz j : Nat} {z : Value} (HS : ScT P e z) {ad : Addr} {es : List Value} {v : Value} (hc : ∀ j, j < sz → w.cell? (ad.add j) = es[j]?) (hs : j < sz) (hb : ad.block < n) (hv : es[j]? = some v) (h : KQ v) : QS P n [] w KQ tq (Instr.loadAt e (.pointer (some (ad.add j)))) := qx_load HS ((hc j hs).trans hv) (by rw [Kd.add_block]; exact hb) (by simp) h
end
theorem boolOf_undef : boolOf undef = none := rfl
theorem none_bool {b : Bool} : ((none : Option Bool) = some b) = False := by simp
end Go.Proofs.YtcmckbgiiclomaaGreatDoor.V
