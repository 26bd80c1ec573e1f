/- Texts laid by programs, part 3. -/
import Derived.Test.YtcmckbgiiclomabGreatDoorU02
import Derived.Laws.Strings2
import Derived.Laws.Strings3
import Derived.Laws.Externs
import Derived.Laws.Tables
import Derived.Lib.MakeNoZero
import Derived.Laws.CopyRow
import Derived.Laws.IdiomCopy
namespace Go.Proofs.YtcmckbgiiclomabGreatDoor.V
open Go Go.RowKit
set_option linter.unusedSimpArgs false
set_option linter.unusedVariables false
set_option pp.deepTerms false
set_option pp.deepTerms.threshold 3
section
variable {P : Program} {n : Nat} {w0 w : World} {L : List Ck} {K : Value → World → Prop} {tg : Tg K} {α : Type} {d : Kd α}
theorem x_elg {t e sz by_ : Nat} {z : Value} (HS : SlT P t e sz by_ z) (hd : d.sz = sz) {A : Option Addr} {m c : Nat} {l : List α} {k : IntKind} {i : Int} (hl : Kd.sliceRd d w m A l) (h0 : 0 ≤ i) (h1 : i < (l.length : Int))
    (h : ∀ ad es, ad.block < m → d.rd w m es (l[i.toNat]'(by omega)) → (∀ j, j < sz → w.cell? (ad.add j) = es[j]?) → K (.pointer (some ad)) w) : VS P K tg (Instr.indexAt t (.slice A l.length c) (.int k i)) w := by
  obtain ⟨h2, h3, es, h4, h5⟩ := hl i.toNat (by omega); refine x_index HS h2 h0 h1 (h _ es ?_ h4 fun j hj => ?_)
  · rw [Kd.add_block]; exact h3
  · rw [Kd.add_add, ← hd]; exact h5 j (by omega)
theorem x_ld1 {e : TypeId} {z : Value} (HS : ScT P e z) {ad : Addr} {es : List Value} {v : Value} (hc : ∀ j, j < 1 → w.cell? (ad.add j) = es[j]?) (he : es = [v]) (h : K v w) : VS P K tg (Instr.loadAt e (.pointer (some ad))) w := by
  have := hc 0 (by omega); rw [he, add_zero'] at this; exact x_load HS this h
theorem x_lds {t : TypeId} {sz : Nat} {z : Array Value} (HS : StT P t sz z) {ad : Addr} {es : List Value} (hc : ∀ j, j < sz → w.cell? (ad.add j) = es[j]?) (hl : es.length = sz) (h : K (.agg es.toArray) w) : VS P K tg (Instr.loadAt t (.pointer (some ad))) w :=
  x_loadAgg HS es hl (fun j v hj => by rw [hc j (by have := (List.getElem?_eq_some_iff.1 hj).1; omega)]; exact hj) h
theorem flat_set {sz : Nat} : ∀ (rows : List (List Value)) (j : Nat) (es : List Value), (∀ r ∈ rows, r.length = sz) → j < rows.length → (rows.set j es).flatten = rows.flatten.take (j * sz) ++ es ++ rows.flatten.drop (j * sz + sz)
  | [], j, es, _, hj => by simp at hj
  | r :: rs, 0, es, hr, _ => by
    have h1 := hr r (List.mem_cons_self ..); have h2 : List.drop sz r = [] := List.drop_eq_nil_of_le (by omega)
    simp [h1]
  | r :: rs, j + 1, es, hr, hj => by
    have h1 := hr r (List.mem_cons_self ..); have ih := flat_set rs j es (fun q hq => hr q (List.mem_cons_of_mem _ hq)) (by simpa using hj); have e1 : (j + 1) * sz = r.length + j * sz := by rw [Nat.add_mul, h1]; omega
    simp only [List.set_cons_succ, List.flatten_cons, ih]; rw [e1, List.take_length_add_append, Nat.add_assoc, List.drop_length_add_append]
    simp [List.append_assoc]
theorem ow_nodup_parts {e : TypeId} {fp : List Nat} {v : Value} {l : List α} {rows : List (List Value)} {fs : List (List Nat)} (h : Kd.RowOw e d w fp v l rows fs) : fs.flatten.Nodup ∧ (∀ b, v.ownBlock = some b → b ∉ fs.flatten) := by
  have h1 := h.nd; rw [h.hfp] at h1; obtain ⟨_, h2, h3⟩ := List.nodup_append.1 h1; exact ⟨h2, fun b hb hm => h3 b (by simp [hb]) b hm rfl⟩
theorem res_cell (H : Sep n w0 w L) {g : Nat} {cs : List Value} {t e : TypeId} {sz : Nat} {z : Array Value} (HS : StT P e sz z) (hm : Ck.box g cs t ∈ L := by repeat (first | exact List.mem_cons_self | apply List.mem_cons_of_mem)) (hl : cs.length = sz := by rfl) : (loadVar e ⟨g, 0, none⟩).run P w = .ok (.agg cs.toArray) w := by
  obtain ⟨fs, hu⟩ := HS.un; obtain ⟨inf, hi, hs, _⟩ := HS.inf; have hc := run_loadCells_list (P := P) w ⟨g, 0, none⟩ cs (fun j v hj => by rw [Kd.add_at, Nat.zero_add, H.cell hm]; exact hj); rw [hl] at hc; have ha : (isAgg e).run P w = .ok true w := by simp [isAgg, run_underlying' hu]
  simp [loadVar, ha, run_sizeOf' hi hs, hc]
theorem sl_one {e : TypeId} {m : Nat} {cs : List Value} {l : List α} (h : (Kd.slice e d).rd w m cs l) : ∃ v, cs = [v] := by obtain ⟨A, c, hv, _⟩ := h; exact ⟨_, hv⟩
theorem sl_len {e : TypeId} {m : Nat} {cs : List Value} {l : List α} (h : (Kd.slice e d).rd w m cs l) : l.length ≤ 9223372036854775807 := by obtain ⟨A, c, _, h1, h2, _⟩ := h; simp only [maxLen] at h2; omega
theorem sl_zero {e : TypeId} (w : World) : (Kd.slice e d).ow w [] [.slice none 0 0] [] := ⟨_, [], [], rfl, ⟨owR_nil, rfl, rfl, fun i hi => absurd hi (by simp), rfl, List.nodup_nil⟩⟩
theorem pair_zero {β : Type} {d' : Kd β} {a b : List Value} {x : α} {y : β} {w : World} (h : d.ow w [] a x) (h' : d'.ow w [] b y) : (Kd.pair d d').ow w [] (a ++ b) (x, y) := ⟨⟨a, b, [], [], rfl, rfl, h, h'⟩, List.nodup_nil⟩
theorem plain_zero {f : α → Value} {R : α → Prop} (hp : IsPlain d f R) {x : α} (w : World) (hx : R x) : d.ow w [] [f x] x := hp.ow.2 ⟨⟨rfl, hx⟩, rfl⟩
end
section
variable {P : Program} {n m : Nat} {w : World} {K : Value → Prop} {G : List (Nat × Nat)} {tg : Tg (n, G, w, K)} {α : Type} {d : Kd α}
theorem q_elg {t e sz by_ : Nat} {z : Value} (HS : SlT P t e sz by_ z) (hd : d.sz = sz) {A : Option Addr} {c : Nat} {l : List α} {k : IntKind} {i : Int} (hl : Kd.sliceRd d w m A l) (h0 : 0 ≤ i) (h1 : i < (l.length : Int))
    (h : ∀ ad es, ad.block < m → d.rd w m es (l[i.toNat]'(by omega)) → (∀ j, j < sz → w.cell? (ad.add j) = es[j]?) → K (.pointer (some ad))) : QS P n G w K tg (Instr.indexAt t (.slice A l.length c) (.int k i)) := by
  obtain ⟨h2, h3, es, h4, h5⟩ := hl i.toNat (by omega); refine qx_index HS h2 h0 h1 (h _ es ?_ h4 fun j hj => ?_)
  · rw [Kd.add_block]; exact h3
  · rw [Kd.add_add, ← hd]; exact h5 j (by omega)
theorem q_ld1 {e : TypeId} {z : Value} {tg : Tg (n, ([] : List (Nat × Nat)), w, K)} (HS : ScT P e z) {ad : Addr} {es : List Value} {v : Value} (hc : ∀ j, j < 1 → w.cell? (ad.add j) = es[j]?) (he : es = [v]) (hb : ad.block < n) (h : K v) : QS P n [] w K tg (Instr.loadAt e (.pointer (some ad))) := by
  have := hc 0 (by omega); rw [he, add_zero'] at this; exact qx_load HS this hb (by simp) h
end
theorem kept_of {n : Nat} {w w' : World} (hb : Below w.heap.size w w') (hn : n ≤ w.heap.size) : Kept n [] w w' := ⟨fun h => Nat.le_trans h hb.size, fun b h _ => hb.block b (by omega), fun _ _ h => by cases h⟩
def CallV (P : Program) (K : Value → World → Prop) (_ : Tg K) (v : Value) (args : List Value) (w : World) : Prop :=
  aop P ⟨none, .call ⟨.value (.const v), (args.map Operand.const).toArray, #[]⟩, 0, "", #[], none⟩ (fun _ => undef) w K
section
variable {P : Program} {s : Sl} {w : World} {K : Value → World → Prop} {d : Option Tmp} {ty : TypeId} {pos : String} {af : Array Edge} {g : Option (Nat × Bool)}
theorem o_callv {t : Tmp} {xs : List Operand} {ts : Array TypeId} {tg : Tg ((⟨d, .call ⟨.value (.tmp t), xs.toArray, ts⟩, ty, pos, af, g⟩ : Oper), K)} :
    Aop P ⟨d, .call ⟨.value (.tmp t), xs.toArray, ts⟩, ty, pos, af, g⟩ K tg s w = CallV P K .mk (s t) (xs.map (ev s)) w := by
  have e : (Array.map (ev fun _ => undef) (List.map Operand.const (List.map (ev s) xs)).toArray) = Array.map (ev s) xs.toArray := by
    simp [Function.comp_def, ev]
  unfold Aop CallV aop; simp only [execOp, resolve, e]
  rfl
end
section
variable {P : Program} {n : Nat} {w : World} {K : Value → World → Prop} {KQ : Value → Prop} {tg : Tg K} {tq : Tg (n, ([] : List (Nat × Nat)), w, KQ)}
theorem x_lf0 {e sz : Nat} {z : Value} (HS : ScT P e z) {ad : Addr} {es : List Value} {v : Value} (hc : ∀ j, j < sz → w.cell? (ad.add j) = es[j]?) (hs : 0 < sz) (hv : es[0]? = some v) (h : K v w) : VS P K tg (Instr.loadAt e (.pointer (some ad))) w := by
  have := hc 0 hs; rw [add_zero'] at this; exact x_load HS (this.trans hv) h
theorem x_lfj {e sz j : Nat} {z : Value} (HS : ScT P e z) {ad : Addr} {es : List Value} {v : Value} (hc : ∀ j, j < sz → w.cell? (ad.add j) = es[j]?) (hs : j < sz) (hv : es[j]? = some v) (h : K v w) : VS P K tg (Instr.loadAt e (.pointer (some (ad.add j)))) w := x_load HS ((hc j hs).trans hv) h
theorem q_lf0 {e sz : Nat} {z : Value} (HS : ScT P e z) {ad : Addr} {es : List Value} {v : Value} (hc : ∀ j, j < sz → w.cell? (ad.add j) = es[j]?) (hs : 0 < sz) (hb : ad.block < n) (hv : es[0]? = some v) (h : KQ v) : QS P n [] w KQ tq (Instr.loadAt e (.pointer (some ad))) := by
  have := hc 0 hs; rw [add_zero'] at this; exact qx_load HS (this.trans hv) hb (by simp) h
theorem q_lfj {e sz j : Nat} {z : Value} (HS : ScT P e z) {ad : Addr} {es : List Value} {v : Value} (hc : ∀ j, j < sz → w.cell? (ad.add j) = es[j]?) (hs : j < sz) (hb : ad.block < n) (hv : es[j]? = some v) (h : KQ v) : QS P n [] w KQ tq (Instr.loadAt e (.pointer (some (ad.add j)))) := qx_load HS ((hc j hs).trans hv) (by rw [Kd.add_block]; exact hb) (by simp) h
end
theorem boolOf_undef : boolOf undef = none := rfl
theorem none_bool {b : Bool} : ((none : Option Bool) = some b) = False := by simp
section
variable {P : Program} {w : World} {α : Type} {d : Kd α}
theorem elem_of {t e : TypeId} (h : P.underlying t = some (.slice e)) : P.elem t = e := by simp [Program.elem, h]
theorem sub_rd {e : TypeId} {m : Nat} {A : Option Addr} {l : List α} {c lo hi : Nat} (h : Kd.sliceRd d w m A l) (h1 : lo ≤ hi) (h2 : hi ≤ l.length) (h3 : l.length ≤ c) (h4 : c ≤ maxLen) :
    (Kd.slice e d).rd w m [sliced A lo hi c d.sz] ((l.drop lo).take (hi - lo)) := by
  have hlen : ((l.drop lo).take (hi - lo)).length = hi - lo := by simp; omega
  refine ⟨if c = lo then A else A.map (·.add (lo * d.sz)), c - lo, by rw [hlen]; rfl, by omega, by omega, fun i hi' => ?_⟩; rw [hlen] at hi'; obtain ⟨h5, h6, es, h7, h8⟩ := h (lo + i) (by omega); obtain ⟨ad, rfl⟩ := Option.isSome_iff_exists.1 h5; rw [if_neg (by omega)]; refine ⟨rfl, ?_, es, ?_, fun j hj => ?_⟩
  · show (ad.add (lo * d.sz)).block < m
    rw [Kd.add_block]; exact h6
  · simp only [List.getElem_take, List.getElem_drop]; exact h7
  · show w.cell? ((ad.add (lo * d.sz)).add (i * d.sz + j)) = es[j]?
    rw [Kd.add_add, ← h8 j hj]
    congr 2
    rw [Nat.add_mul]; omega
theorem run_sub {t e sz by_ : Nat} {z : Value} (HS : SlT P t e sz by_ z) {A : Option Addr} {n c : Nat} {k k' : IntKind} {lo hi : Nat} :
    (lo ≤ hi → hi ≤ c → (Instr.sliceAt t (.slice A n c) (some (.int k (lo : Int))) (some (.int k' (hi : Int))) none).run P w = .ok (sliced A lo hi c sz) w) ∧
    (hi ≤ c → (Instr.sliceAt t (.slice A n c) none (some (.int k' (hi : Int))) none).run P w = .ok (sliced A 0 hi c sz) w) ∧
    (lo ≤ n → (Instr.sliceAt t (.slice A n c) (some (.int k (lo : Int))) none none).run P w = .ok (sliced A lo n c sz) w) := by
  obtain ⟨i, hi', hs, _⟩ := HS.inf; have he := elem_of HS.un; have hu : P.underlying t = some (.slice (P.elem t)) := by rw [he]; exact HS.un
  have hsz : (sizeOf (P.elem t)).run P w = .ok sz w := by rw [he]; exact run_sizeOf' hi' hs
  refine ⟨fun h1 h2 => ?_, fun h2 => ?_, fun h2 => ?_⟩
  · rw [run_sliceAt_slice w t _ _ _ _ hu, run_slice_lh w t A n c hu k k' lo hi (by omega) (by omega) (by omega), hsz]; rfl
  · rw [run_sliceAt_slice w t _ _ _ _ hu, run_slice_h w t A n c hu k' hi (by omega) (by omega), hsz]; rfl
  · rw [run_sliceAt_slice w t _ _ _ _ hu, run_slice_l w t A n c hu k lo (by omega) (by omega), hsz]; rfl
variable {K : Value → World → Prop} {tg : Tg K}
theorem x_to {t e sz by_ : Nat} {z : Value} {wr : World} (HS : SlT P t e sz by_ z) (hd : d.sz = sz) {m : Nat} {v : Value} {l : List α} {k : IntKind} {hi : Nat} (hr : (Kd.slice e d).rd wr m [v] l) (h1 : hi ≤ l.length)
    (h : ∀ v', (Kd.slice e d).rd wr m [v'] (l.take hi) → K v' w) : VS P K tg (Instr.sliceAt t v none (some (.int k (hi : Int))) none) w := by
  obtain ⟨A, c, rfl, h3, h4, hl⟩ := sl_open hr; refine vS_run ((run_sub HS (k := .i64) (lo := 0)).2.1 (by omega)) (h _ ?_); have := sub_rd (e := e) hl (Nat.zero_le hi) h1 h3 h4; rw [hd] at this
  simpa using this
theorem x_from {t e sz by_ : Nat} {z : Value} {wr : World} (HS : SlT P t e sz by_ z) (hd : d.sz = sz) {m : Nat} {v : Value} {l : List α} {k : IntKind} {lo : Nat} (hr : (Kd.slice e d).rd wr m [v] l) (h1 : lo ≤ l.length)
    (h : ∀ v', (Kd.slice e d).rd wr m [v'] (l.drop lo) → K v' w) : VS P K tg (Instr.sliceAt t v (some (.int k (lo : Int))) none none) w := by
  obtain ⟨A, c, rfl, h3, h4, hl⟩ := sl_open hr; refine vS_run ((run_sub HS (k' := .i64) (hi := 0)).2.2 (by omega)) (h _ ?_); have := sub_rd (e := e) hl h1 (Nat.le_refl _) h3 h4; rw [hd, List.take_of_length_le (by simp)] at this; exact this
theorem x_sub {t e sz by_ : Nat} {z : Value} {wr : World} (HS : SlT P t e sz by_ z) (hd : d.sz = sz) {m : Nat} {v : Value} {l : List α} {k k' : IntKind} {lo hi : Nat} (hr : (Kd.slice e d).rd wr m [v] l) (h0 : lo ≤ hi) (h1 : hi ≤ l.length)
    (h : ∀ v', (Kd.slice e d).rd wr m [v'] ((l.drop lo).take (hi - lo)) → K v' w) : VS P K tg (Instr.sliceAt t v (some (.int k (lo : Int))) (some (.int k' (hi : Int))) none) w := by
  obtain ⟨A, c, rfl, h3, h4, hl⟩ := sl_open hr; refine vS_run ((run_sub HS).1 h0 (by omega)) (h _ ?_); have := sub_rd (e := e) hl h0 h1 h3 h4; rw [hd] at this; exact this
end
section
variable {P : Program} {n m : Nat} {w0 w : World} {L : List Ck} {K : Value → World → Prop} {KQ : Value → Prop} {G : List (Nat × Nat)} {tg : Tg K} {tq : Tg (m, G, w, KQ)} {α : Type} {d : Kd α}
theorem x_ele (H : Sep n w0 w L) {t e sz by_ : Nat} {z : Value} (HS : SlT P t e sz by_ z) (hd : d.sz = sz) {A : Option Addr} {c : Nat} {l : List α} {k : IntKind} (i : Nat) {ii : Int} (hi : i < l.length) (hl : Kd.sliceRd d w0 n A l) (hii : ii = (i : Int))
    (h : ∀ ad es, ad.block < n → d.rd w0 n es l[i] → (∀ j, j < sz → w.cell? (ad.add j) = es[j]?) → K (.pointer (some ad)) w) : VS P K tg (Instr.indexAt t (.slice A l.length c) (.int k ii)) w := by
  subst hii; obtain ⟨h2, h3, es, h4, h5⟩ := hl i hi; refine x_index HS h2 (by omega) (by omega) (h _ es ?_ h4 fun j hj => ?_)
  · rw [Kd.add_block]; exact h3
  · rw [Kd.add_add, ← hd, Int.toNat_natCast, H.bel.cell (by rw [Kd.add_block]; exact h3)]; exact h5 j (by omega)
theorem q_ele (H : Sep n w0 w L) {t e sz by_ : Nat} {z : Value} (HS : SlT P t e sz by_ z) (hd : d.sz = sz) {A : Option Addr} {c : Nat} {l : List α} {k : IntKind} (i : Nat) {ii : Int} (hi : i < l.length) (hl : Kd.sliceRd d w0 n A l) (hii : ii = (i : Int))
    (h : ∀ ad es, ad.block < n → d.rd w0 n es l[i] → (∀ j, j < sz → w.cell? (ad.add j) = es[j]?) → KQ (.pointer (some ad))) : QS P m G w KQ tq (Instr.indexAt t (.slice A l.length c) (.int k ii)) := by
  subst hii; obtain ⟨h2, h3, es, h4, h5⟩ := hl i hi; refine qx_index HS h2 (by omega) (by omega) (h _ es ?_ h4 fun j hj => ?_)
  · rw [Kd.add_block]; exact h3
  · rw [Kd.add_add, ← hd, Int.toNat_natCast, H.bel.cell (by rw [Kd.add_block]; exact h3)]; exact h5 j (by omega)
end
section
variable {n : Nat} {w0 w : World} {M : List Ck} {α : Type} {d : Kd α}
def restCk (d : Kd α) (rs : List (List Value × List Nat × α)) : Ck where
  fp := (rs.map (·.2.1)).flatten
  A := fun w => ∀ r ∈ rs, d.ow w r.2.1 r.1 r.2.2
  loc := fun h ha r hr => d.own_mono (ha r hr) fun b hb => h b (List.mem_flatten_of_mem (List.mem_map.2 ⟨r, hr, rfl⟩) hb)
theorem zip3 : ∀ (rows : List (List Value)) (fs : List (List Nat)) (l : List α), rows.length = l.length → fs.length = l.length → ∃ rs : List (List Value × List Nat × α), rs.map (·.1) = rows ∧ rs.map (·.2.1) = fs ∧ rs.map (·.2.2) = l
  | [], [], [], _, _ => ⟨[], rfl, rfl, rfl⟩
  | r :: rows, f :: fs, x :: l, h1, h2 => by
    obtain ⟨rs, e1, e2, e3⟩ := zip3 rows fs l (by simpa using h1) (by simpa using h2); exact ⟨(r, f, x) :: rs, by simp [e1], by simp [e2], by simp [e3]⟩
  | [], _ :: _, [], _, h2 => by simp at h2
  | _, [], _ :: _, _, h2 => by simp at h2
  | [], _, _ :: _, h1, _ => by simp at h1
  | _ :: _, _, [], h1, _ => by simp at h1
theorem split3 (rs : List (List Value × List Nat × α)) (i : Nat) (hi : i < rs.length) : ∃ a b, rs = a ++ rs[i] :: b ∧ a.length = i := by
  refine ⟨rs.take i, rs.drop (i + 1), ?_, by simp; omega⟩; rw [← List.drop_eq_getElem_cons hi, List.take_append_drop]
theorem RowOw.of {e : TypeId} {fp : List Nat} {v : Value} (rs : List (List Value × List Nat × α)) (hr : w.owR e d.sz v rs.length (rs.map (·.1)).flatten) (he : ∀ r ∈ rs, d.ow w r.2.1 r.1 r.2.2) (hf : fp = v.ownBlock.toList ++ (rs.map (·.2.1)).flatten) (nd : fp.Nodup) :
    (Kd.slice e d).ow w fp [v] (rs.map (·.2.2)) :=
  ⟨v, rs.map (·.1), rs.map (·.2.1), rfl, ⟨by simpa using hr, by simp, by simp, fun i hi => by simp only [List.getElem_map]; exact he _ (List.getElem_mem _), hf, nd⟩⟩
theorem own_val {e : TypeId} {fp : List Nat} {v : Value} {l : List α} (h : (Kd.slice e d).ow w fp [v] l) : ∃ A c, v = .slice A l.length c ∧ (0 < l.length → ∃ g, A = some ⟨g, 0, none⟩) := by
  obtain ⟨v', rows, fs, hv, hr⟩ := h; simp only [List.cons.injEq, and_true] at hv; subst hv
  rcases hr.row.2 with ⟨h1, h2⟩ | ⟨g, cap, cur, h1, _⟩
  · exact ⟨none, 0, by rw [h1, h2], fun h => by omega⟩
  · exact ⟨_, cap, h1, fun _ => ⟨g, rfl⟩⟩
theorem cur_same {cur es : List Value} {o sz : Nat} (h : ∀ j, j < sz → cur[o + j]? = es[j]?) (hl : es.length = sz) (hc : o + sz ≤ cur.length) : cur = cur.take o ++ es ++ cur.drop (o + sz) := by
  have e : (cur.drop o).take sz = es := by
    apply List.ext_getElem?
    intro j; rw [List.getElem?_take, List.getElem?_drop]
    by_cases hj : j < sz
    · rw [if_pos hj, h j hj]
    · rw [if_neg hj, List.getElem?_eq_none (by omega)]
  conv => lhs; rw [← List.take_append_drop o cur, ← List.take_append_drop sz (cur.drop o), e, List.drop_drop]
  rw [List.append_assoc]
theorem Sep.openEl {e : TypeId} {fp : List Nat} {v : Value} {l : List α} (H : Sep n w0 w (Ck.own (Kd.slice e d) fp [v] l :: M)) (i : Nat) (hi : i < l.length) :
    ∃ g c pre post fpi es R, v = .slice (some ⟨g, 0, none⟩) l.length c ∧ pre.length = i * d.sz ∧ Sep n w0 w (Ck.box g (pre ++ es ++ post) e :: Ck.own d fpi es l[i] :: R :: M) ∧ es.length = d.sz ∧
      ∀ {n' : Nat} {w0' w' : World} {es' : List Value} {fpi' : List Nat} {y : α} {M' : List Ck}, Sep n' w0' w' (Ck.box g (pre ++ es' ++ post) e :: Ck.own d fpi' es' y :: R :: M') →
        ∃ fp', Sep n' w0' w' (Ck.own (Kd.slice e d) fp' [v] (l.set i y) :: M') := by
  obtain ⟨v', rows, fs, hv, hr⟩ := (show (Kd.slice e d).ow w fp [v] l from H.ok _ (.head _)); simp only [List.cons.injEq, and_true] at hv; subst hv; obtain ⟨rs, e1, e2, e3⟩ := zip3 rows fs l hr.lr hr.lf; have hrl : rs.length = l.length := by rw [← e3]; simp
  obtain ⟨a, b, hab, hal⟩ := split3 rs i (by omega); generalize hx : rs[i] = x at hab; obtain ⟨es, fpi, y0⟩ := x
  have hel : ∀ r ∈ rs, d.ow w r.2.1 r.1 r.2.2 := fun r hrm => by
    obtain ⟨k, hk, rfl⟩ := List.getElem_of_mem hrm; have := hr.el k (by omega); have q1 : rows[k]'(by rw [hr.lr]; omega) = rs[k].1 := by subst e1; simp
    have q2 : fs[k]'(by rw [hr.lf]; omega) = rs[k].2.1 := by subst e2; simp
    have q3 : l[k]'(by omega) = rs[k].2.2 := by subst e3; simp
    rw [q1, q2, q3] at this; exact this
  have hy0 : l[i] = y0 := by
    have q3 : l[i]'(by omega) = (rs[i]'(by omega)).2.2 := by subst e3; simp
    rw [q3, hx]
  rcases hr.row.2 with ⟨h1, h2⟩ | ⟨g, cap, cur, h1, _, hh, hc, hm, hs, ht⟩
  · omega
  subst h1; have hes : es.length = d.sz := d.own_len (hel (es, fpi, y0) (by rw [hab]; simp)); have hlens : ∀ r ∈ rows, r.length = d.sz := hr.lens
  have hle : i * d.sz + d.sz ≤ l.length * d.sz := by
    have := Nat.mul_le_mul_right d.sz (show i + 1 ≤ l.length by omega); rw [Nat.add_mul, Nat.one_mul] at this; exact this
  have hle2 : l.length * d.sz ≤ cap * d.sz := Nat.mul_le_mul_right _ hc; have hrowi : rows[i]? = some es := by rw [← e1]; simp [hx, List.getElem?_eq_getElem (show i < rs.length by omega)]
  have hcur : cur.toList = cur.toList.take (i * d.sz) ++ es ++ cur.toList.drop (i * d.sz + d.sz) := by
    refine cur_same (fun j hj => ?_) hes (by simp; omega); have := Kd.flat_get rows hlens i j hj; rw [hrowi, Option.bind_some, ← ht, List.getElem?_take, if_pos (by omega)] at this; exact this
  refine ⟨g, cap, cur.toList.take (i * d.sz), cur.toList.drop (i * d.sz + d.sz), fpi, es, restCk d (a ++ b), rfl, by simp; omega, ?_, hes, ?_⟩
  · rw [hy0]
    refine H.swapTo ?_ fun c hcm => ?_
    · simp only [fps, Ck.own_fp, Ck.box, restCk, hr.hfp, ← e2, hab, Value.ownBlock, Option.map_some, Option.toList_some, List.map_append, List.map_cons, List.flatten_append, List.flatten_cons, List.append_assoc, List.cons_append, List.nil_append]
      refine List.Perm.cons _ ?_; exact List.perm_append_comm_assoc ..
    · rcases List.mem_cons.1 hcm with rfl | hcm
      · show w.heap[g]? = _
        rw [hh, ← hcur]
      · rcases List.mem_cons.1 hcm with rfl | hcm
        · exact hel (es, fpi, y0) (by rw [hab]; simp)
        · rcases List.mem_cons.1 hcm with rfl | hcm
          · exact fun r hrm => hel r (by rw [hab]; simp at hrm ⊢; rcases hrm with h | h <;> simp [h])
          · exact H.ok _ (.tail _ hcm)
  · intro n' w0' w' es' fpi' y M' H'
    have hes' : es'.length = d.sz := d.own_len (show d.ow w' fpi' es' y from H'.ok _ (.tail _ (.head _)))
    have hlist : l.set i y = (a ++ (es', fpi', y) :: b).map (·.2.2) := by
      rw [← e3, hab, List.map_append, List.map_append, List.map_cons, List.map_cons, List.set_append_right _ _ (by simp; omega)]
      simp [hal]
    have hrows : (rows.set i es') = (a ++ (es', fpi', y) :: b).map (·.1) := by
      rw [← e1, hab, List.map_append, List.map_append, List.map_cons, List.map_cons, List.set_append_right _ _ (by simp; omega)]
      simp [hal]
    have hlen2 : (a ++ (es', fpi', y) :: b).length = l.length := by rw [← hrl, hab]; simp
    refine ⟨g :: ((a ++ (es', fpi', y) :: b).map (·.2.1)).flatten, ?_⟩
    have hperm : (fps (Ck.box g (cur.toList.take (i * d.sz) ++ es' ++ cur.toList.drop (i * d.sz + d.sz)) e :: Ck.own d fpi' es' y :: restCk d (a ++ b) :: M')).Perm (fps (Ck.own (Kd.slice e d) (g :: ((a ++ (es', fpi', y) :: b).map (·.2.1)).flatten) [.slice (some ⟨g, 0, none⟩) l.length cap] (l.set i y) :: M')) := by
      simp only [fps, Ck.own_fp, Ck.box, restCk, List.map_append, List.map_cons, List.flatten_append, List.flatten_cons, List.append_assoc, List.cons_append, List.nil_append]; refine List.Perm.cons _ ?_; exact List.perm_append_comm_assoc ..
    refine H'.swapTo hperm fun c hcm => ?_
    rcases List.mem_cons.1 hcm with rfl | hcm
    · show (Kd.slice e d).ow w' _ _ _
      rw [hlist]; refine RowOw.of _ ?_ ?_ rfl ?_
      · rw [hlen2, ← hrows]
        refine ⟨?_, .inr ⟨g, cap, _, rfl, Nat.zero_le _, H'.ok _ (.head _), hc, hm, ?_, ?_⟩⟩
        · rw [flat_set rows i es' hlens (by rw [hr.lr]; omega), List.length_append, List.length_append, List.length_take, List.length_drop, hr.row.1, hes']
          omega
        · simp only [List.size_toArray, List.length_append, List.length_take, List.length_drop, Array.length_toList]
          omega
        · rw [flat_set rows i es' hlens (by rw [hr.lr]; omega), ← ht, List.take_take, Nat.min_eq_left (by omega)]
          apply List.ext_getElem?
          intro q; simp only [List.getElem?_take, List.getElem?_append, List.length_append, List.length_take, List.getElem?_drop, Array.length_toList]
          split <;> split <;> (try split) <;> (try split) <;> (try rfl) <;> (try omega) <;> (try (congr 1; omega)) <;> simp <;> omega
      · intro r hrm
        rcases List.mem_append.1 hrm with hrm | hrm
        · exact (show (restCk d (a ++ b)).A w' from H'.ok _ (.tail _ (.tail _ (.head _)))) r (List.mem_append_left _ hrm)
        · rcases List.mem_cons.1 hrm with rfl | hrm
          · exact H'.ok _ (.tail _ (.head _))
          · exact (show (restCk d (a ++ b)).A w' from H'.ok _ (.tail _ (.tail _ (.head _)))) r (List.mem_append_right _ hrm)
      · have := hperm.nodup_iff.1 H'.nd
        simp only [fps, Ck.own_fp] at this; exact (List.nodup_append.1 this).1
    · exact H'.ok _ (.tail _ (.tail _ (.tail _ hcm)))
theorem Sep.drop2 {c c' : Ck} (H : Sep n w0 w (c :: c' :: M)) : Sep n w0 w (c :: M) := by
  refine ⟨H.bel, H.ns, ?_, fun b hb => H.lo b ?_, fun d hd => ?_⟩
  · have := H.nd
    simp only [fps] at this ⊢; obtain ⟨h1, h2, h3⟩ := List.nodup_append.1 this; exact List.nodup_append.2 ⟨h1, (List.nodup_append.1 h2).2.1, fun a ha b hb => h3 a ha b (List.mem_append_right _ hb)⟩
  · simp only [fps] at hb ⊢
    rcases List.mem_append.1 hb with hb | hb
    · exact List.mem_append_left _ hb
    · exact List.mem_append_right _ (List.mem_append_right _ hb)
  · rcases List.mem_cons.1 hd with rfl | hd
    · exact H.ok _ (.head _)
    · exact H.ok _ (.tail _ (.tail _ hd))
theorem Sep.only {c : Ck} {L L' : List Ck} (H : Sep n w0 w L) (h : Out c L L' := by repeat (first | exact Out.here | apply Out.there)) : Sep n w0 w [c] := (H.out h).head
theorem Sep.nothing {cs : List Value} {x : α} {L : List Ck} (H : Sep n w0 w L) (h : d.ow w [] cs x) : Sep n w0 w (Ck.own d [] cs x :: L) :=
  H.swapTo (by simp only [fps, Ck.own_fp, List.nil_append]; exact List.Perm.refl _) fun c hc => by
    rcases List.mem_cons.1 hc with rfl | hc
    · exact h
    · exact H.ok _ hc
end
section
variable {P : Program} {n : Nat} {w0 w : World} {L : List Ck} {K : Value → World → Prop} {tg : Tg K}
theorem x_stE (H : Sep n w0 w L) {g o j : Nat} {pre es post : List Value} {t e : TypeId} {z v : Value} {f : Ck → List Ck} {tg : Tg K} (HS : ScT P e z) (h : ∀ w', Sep n w0 w' (f (Ck.box g (pre ++ es.set j v ++ post) t)) → K undef w')
    (hm : Hole (Ck.box g (pre ++ es ++ post) t) L f := by repeat (first | exact Hole.here | apply Hole.there)) (hp : o = pre.length + j := by omega) (hj : j < es.length := by first | decide | simp) (h1 : v.oneCell' = true := by rfl) :
    VU P K tg (Instr.storeAt e (.pointer (some ⟨g, o, none⟩)) v) w := by
  refine x_st H HS (fun w' H' => h w' ?_) hm (by subst hp; simp; omega) h1; subst hp
  have e : (pre ++ es ++ post).set (pre.length + j) v = pre ++ es.set j v ++ post := by
    rw [List.append_assoc, List.set_append_right _ _ (by omega), Nat.add_sub_cancel_left, List.set_append_left _ _ hj, List.append_assoc]
  rw [e] at H'; exact H'
end
section
variable {P : Program} {s : Sl} {w : World} {K : Value → World → Prop} {d : Option Tmp} {ty : TypeId} {pos : String} {af : Array Edge} {g : Option (Nat × Bool)}
end
section
variable {P : Program} {n : Nat} {w0 w : World} {L M : List Ck} {K : Value → World → Prop} {tg : Tg K} {α : Type} {d : Kd α}
theorem x_build {t : TypeId} {ps : Array (Nat × Value)} {places : Array (Nat × Nat)} {zero : Array Value} (hb : ∀ ps, P.built t ps = Instr.fill (places[·]?) zero ps) (cs : List Value) (h : K (.agg cs.toArray) w) (hf : Instr.fill (places[·]?) zero ps.toList = some cs.toArray := by rfl) :
    VS P K tg (Instr.build t ps) w := vS_run (run_build w t ps _ ((hb _).trans hf)) h
theorem x_appOC {t ty e sz by_ : Nat} {z : Value} (HS : SlT P t e sz by_ z) {fp fp2 : List Nat} {v v2 : Value} {l l2 : List α} (H : Sep n w0 w (Ck.own (Kd.slice e d) fp2 [v2] l2 :: Ck.own (Kd.slice e d) fp [v] l :: M)) (hd : d.sz = sz) (hb : (l.length + l2.length) * by_ ≤ 140737488355328) (hn : l.length + l2.length ≤ 9223372036854775807)
    (h : ∀ fp' v' w', Sep n w0 w' (Ck.own (Kd.slice e d) fp' [v'] (l ++ l2) :: M) → Chg fp w w' → K v' w') : Builtin' P K tg .append #[t, t] ty [v, v2] w := by
  obtain ⟨_, rows2, fs2, hv2, hr2⟩ := (show (Kd.slice e d).ow w fp2 [v2] l2 from H.ok _ (.head _)); obtain ⟨_, rows, fs, hv, hr⟩ := (show (Kd.slice e d).ow w fp [v] l from H.ok _ (.tail _ (.head _))); simp only [List.cons.injEq, and_true] at hv hv2; subst hv hv2; have hrow := hr.row; rw [hd] at hrow; have hnd := H.nd; simp only [fps, Ck.own_fp] at hnd; obtain ⟨n1, n2, n3⟩ := List.nodup_append.1 hnd; obtain ⟨n4, n5, n6⟩ := List.nodup_append.1 n2; obtain ⟨p1, p2⟩ := ow_nodup_parts hr; obtain ⟨q1, q2⟩ := ow_nodup_parts hr2; have hsub2 : ∀ b ∈ fs2.flatten, b ∈ fp2 := fun b hb => by rw [hr2.hfp]; exact List.mem_append_right _ hb
  have hsub : ∀ b ∈ fs.flatten, b ∈ fp := fun b hb => by rw [hr.hfp]; exact List.mem_append_right _ hb
  -- what is appended
  have hcells : ∃ A c, v2 = .slice A l2.length c ∧ (A = none → l2.length = 0) ∧ ∀ j u, rows2.flatten[j]? = some u → w.cell? ((adA A).add j) = some u := by
    rcases hr2.row.2 with ⟨h1, h2⟩ | ⟨g, cap, cur, h1, _, hh, hc, hm, hs, ht⟩
    · refine ⟨none, 0, by rw [h1, h2], fun _ => h2, fun j u hj => ?_⟩
      have := hr2.row.1; rw [h2, Nat.zero_mul] at this; rw [List.eq_nil_of_length_eq_zero this] at hj
      simp at hj
    · refine ⟨_, cap, h1, (fun h => by cases h), fun j u hj => ?_⟩
      rw [adA_some, Kd.add_plain, Kd.cell_blk hh]; rw [← ht, List.getElem?_take] at hj
      split at hj
      · simpa using hj
      · cases hj
  obtain ⟨A2, c2, rfl, hA2, hnews⟩ := hcells
  have h1 : ∀ u ∈ rows2.flatten, u.oneCell' = true := fun u hu => by
    obtain ⟨r, hrm, hu⟩ := List.mem_flatten.1 hu; obtain ⟨i, hi, rfl⟩ := List.getElem_of_mem hrm; exact d.one (d.own_rd (n := w.heap.size) (hr2.el i (by rw [← hr2.lr]; exact hi)) (fun b hb => (H.lo b (List.mem_append_left _ (hr2.sub i (by rw [hr2.lf, ← hr2.lr]; exact hi) b hb))).2)) u hu
  have hl2 := hr2.row.1; rw [hd] at hl2; obtain ⟨v', w', hrun, ho', hg, hv', _⟩ := app_raw HS (ty := ty) hrow (A := A2) (m := l2.length) (c := c2) (news := rows2.flatten) hl2 hA2 hnews h1 hn hb; have hchg : Chg v.ownBlock.toList w w' := grown_chg hg; have hvfp : ∀ b ∈ v.ownBlock.toList, b ∈ fp := fun b hb => by rw [hr.hfp]; exact List.mem_append_left _ hb
  have hkeep : ∀ b, b ∈ fs.flatten ∨ b ∈ fs2.flatten ∨ b ∈ fps M → w'.heap[b]? = w.heap[b]? := fun b hb => by
    refine hchg.block b ?_ ?_
    · rcases hb with hb | hb | hb
      · exact (H.lo b (List.mem_append_right _ (List.mem_append_left _ (hsub b hb)))).2
      · exact (H.lo b (List.mem_append_left _ (hsub2 b hb))).2
      · exact (H.lo b (List.mem_append_right _ (List.mem_append_right _ hb))).2
    · intro hm
      rcases hb with hb | hb | hb
      · exact p2 b (by simpa using hm) hb
      · exact n3 b (hsub2 b hb) b (List.mem_append_left _ (hvfp b hm)) rfl
      · exact n6 b (hvfp b hm) b hb rfl
  have hv'b : ∀ b ∈ v'.ownBlock.toList, (b ∈ v.ownBlock.toList ∨ w.heap.size ≤ b) ∧ b < w'.heap.size := fun b hb => by
    refine ⟨?_, ownB_lt ho' b hb⟩
    rcases hv' with h2 | h2
    · left; rw [← h2]; exact hb
    · right; exact h2 b (by simpa using hb)
  refine vS_run hrun (h (v'.ownBlock.toList ++ (fs ++ fs2).flatten) v' w' ?_ ⟨hchg.os, hchg.tape, hchg.output, hchg.size, fun k hk hn => hchg.block k hk fun hm => hn (hvfp k hm)⟩)
  have hnew : ∀ b ∈ v'.ownBlock.toList, ∀ c, c ∈ fs.flatten ∨ c ∈ fs2.flatten ∨ c ∈ fps M → b ≠ c := fun b hb c hc e => by
    subst e
    rcases (hv'b b hb).1 with h2 | h2
    · rcases hc with hc | hc | hc
      · exact p2 b (by simpa using h2) hc
      · exact n3 b (hsub2 b hc) b (List.mem_append_left _ (hvfp b h2)) rfl
      · exact n6 b (hvfp b h2) b hc rfl
    · have : b < w.heap.size := by
        rcases hc with hc | hc | hc
        · exact (H.lo b (List.mem_append_right _ (List.mem_append_left _ (hsub b hc)))).2
        · exact (H.lo b (List.mem_append_left _ (hsub2 b hc))).2
        · exact (H.lo b (List.mem_append_right _ (List.mem_append_right _ hc))).2
      omega
  have hnd' : (v'.ownBlock.toList ++ (fs ++ fs2).flatten).Nodup := by
    rw [List.flatten_append]; refine List.nodup_append.2 ⟨ownB_nodup _, List.nodup_append.2 ⟨p1, q1, fun a ha b hb e => ?_⟩, fun a ha b hb => ?_⟩
    · subst e; exact n3 a (hsub2 a hb) a (List.mem_append_left _ (hsub a ha)) rfl
    · rcases List.mem_append.1 hb with hb | hb
      · exact hnew a ha b (.inl hb)
      · exact hnew a ha b (.inr (.inl hb))
  have hge : ∀ b ∈ v.ownBlock.toList, n ≤ b := fun b hb => (H.lo b (List.mem_append_right _ (List.mem_append_left _ (hvfp b hb)))).1; refine ⟨H.bel.trans (hchg.below hge H.ns), Nat.le_trans H.ns hchg.size, ?_, ?_, ?_⟩
  · simp only [fps, Ck.own_fp]
    refine List.nodup_append.2 ⟨hnd', n5, fun a ha b hb => ?_⟩; rw [List.flatten_append] at ha
    rcases List.mem_append.1 ha with ha | ha
    · exact hnew a ha b (.inr (.inr hb))
    · rcases List.mem_append.1 ha with ha | ha
      · exact n6 a (hsub a ha) b hb
      · exact n3 a (hsub2 a ha) b (List.mem_append_right _ hb)
  · intro b hb
    simp only [fps, Ck.own_fp] at hb
    rcases List.mem_append.1 hb with hb | hb
    · rw [List.flatten_append] at hb
      rcases List.mem_append.1 hb with hb | hb
      · refine ⟨?_, (hv'b b hb).2⟩
        rcases (hv'b b hb).1 with h2 | h2
        · exact hge b h2
        · exact Nat.le_trans H.ns h2
      · have : n ≤ b ∧ b < w.heap.size := by
          rcases List.mem_append.1 hb with hb | hb
          · exact H.lo b (List.mem_append_right _ (List.mem_append_left _ (hsub b hb)))
          · exact H.lo b (List.mem_append_left _ (hsub2 b hb))
        exact ⟨this.1, Nat.lt_of_lt_of_le this.2 hchg.size⟩
    · have := H.lo b (List.mem_append_right _ (List.mem_append_right _ hb))
      exact ⟨this.1, Nat.lt_of_lt_of_le this.2 hchg.size⟩
  · intro c hc
    rcases List.mem_cons.1 hc with rfl | hc
    · refine ⟨v', rows ++ rows2, fs ++ fs2, rfl, ⟨?_, by simp [hr.lr, hr2.lr], by simp [hr.lf, hr2.lf], fun i hi => ?_, rfl, hnd'⟩⟩
      · rw [hd, List.length_append, List.flatten_append]; exact ho'
      · by_cases hi1 : i < l.length
        · have := hr.el i hi1
          have hlf := hr.lf; have hlr := hr.lr; simp only [List.getElem_append_left (show i < fs.length by omega), List.getElem_append_left (show i < rows.length by omega), List.getElem_append_left hi1]; exact d.own_mono this fun b hb => hkeep b (.inl (List.mem_flatten_of_mem (List.getElem_mem _) hb))
        · have hi2 : i - l.length < l2.length := by simp at hi; omega
          have := hr2.el (i - l.length) hi2; have hlf := hr.lf; have hlr := hr.lr; rw [List.getElem_append_right (show fs.length ≤ i by omega), List.getElem_append_right (show rows.length ≤ i by omega), List.getElem_append_right (show l.length ≤ i by omega)]; simp only [hlf, hlr]; exact d.own_mono this fun b hb => hkeep b (.inr (.inl (List.mem_flatten_of_mem (List.getElem_mem _) hb)))
    · exact c.loc (fun b hb => hkeep b (.inr (.inr (mem_fps hb hc)))) (H.ok _ (.tail _ (.tail _ hc)))
theorem x_appO {t ty e sz by_ : Nat} {z : Value} (HS : SlT P t e sz by_ z) {fp fp2 : List Nat} {v v2 : Value} {l l2 : List α} (H : Sep n w0 w (Ck.own (Kd.slice e d) fp2 [v2] l2 :: Ck.own (Kd.slice e d) fp [v] l :: M)) (hd : d.sz = sz) (hb : (l.length + l2.length) * by_ ≤ 140737488355328) (hn : l.length + l2.length ≤ 9223372036854775807)
    (h : ∀ fp' v' w', Sep n w0 w' (Ck.own (Kd.slice e d) fp' [v'] (l ++ l2) :: M) → K v' w') : Builtin' P K tg .append #[t, t] ty [v, v2] w :=
  x_appOC HS H hd hb hn fun fp' v' w' S _ => h fp' v' w' S
theorem put_list : ∀ (l : List Value) (k : Nat) (cells : Array Value), k + l.length ≤ cells.size → ((l.zipIdx k).foldl (fun cs x => cs.setIfInBounds x.2 x.1) cells).toList = cells.toList.take k ++ l ++ cells.toList.drop (k + l.length)
  | [], k, cells, h => by simp
  | v :: l, k, cells, h => by
    simp only [List.length_cons] at h; have ih := put_list l (k + 1) (cells.setIfInBounds k v) (by simp; omega); simp only [List.zipIdx_cons, List.foldl_cons]; rw [ih, Array.toList_setIfInBounds, List.take_add_one, List.getElem?_set_self (by simp; omega), List.drop_set_of_lt (by omega), List.take_set_of_le (by omega)]; simp only [Option.toList_some, List.append_assoc, List.cons_append, List.nil_append, List.length_cons]
    congr 3
    congr 1
    omega
theorem put_arr (es : List Value) (cells : Array Value) (h : es.length = cells.size) : es.toArray.zipIdx.foldl (fun cs x => cs.setIfInBounds x.2 x.1) cells = es.toArray := by
  have h1 := put_list es 0 cells (by omega); rw [← Array.foldl_toList, Array.toList_zipIdx]
  apply Array.ext'
  rw [h1]
  simp
  omega
theorem x_empO (H : Sep n w0 w L) {t e sz by_ : Nat} {z : Value} (HS : SlT P t e sz by_ z) (h : ∀ g w', Sep n w0 w' (Ck.own (Kd.slice e d) [g] [.slice (some ⟨g, 0, none⟩) 0 0] [] :: L) → K (.slice (some ⟨g, 0, none⟩) 0 0) w') : VS P K tg (Instr.buildSlice t 0 #[]) w := by
  obtain ⟨i, hi, hs, _, hz⟩ := HS.inf; unfold VS; refine vS_run (v := .slice (some ⟨w.heap.size, 0, none⟩) 0 0) (w' := w.alloc (.cells #[] e)) ?_ (h _ _ (H.add (Below.alloc (Below.refl _ _) (Nat.le_refl _) _) ⟨_, [], [], rfl, ⟨?_, rfl, rfl, fun i hi => absurd hi (by simp), by simp [Value.ownBlock], by simp⟩⟩ (by simp [Ck.own]) (fun b hb => by simp [Ck.own] at hb; subst hb; simp)))
  · have : (Array.range 0) = #[] := rfl
    simp [Instr.buildSlice, run_underlying' HS.un, run_sizeOf' hi hs, Instr.fill, newRow, this]
  · exact owR_of (World.ownsRow_lit (base := 0) w #[] 0 (Nat.zero_le _) (Nat.zero_le _) (by simp))
theorem x_lst1 {t e sz by_ : Nat} {z : Value} (HS : SlT P t e sz by_ z) {fe : List Nat} {es : List Value} {u : Value} {x : α} (H : Sep n w0 w (Ck.own d fe es x :: M)) (hu : u.cells = es.toArray) (hd : d.sz = sz)
    (h : ∀ fp v w', Sep n w0 w' (Ck.own (Kd.slice e d) fp [v] [x] :: M) → K v w') (hsz : sz ≤ 16777216 := by decide) : VS P K tg (Instr.buildSlice t 1 #[(0, u)]) w := by
  obtain ⟨i, hi, hs, _, hz⟩ := HS.inf; have he : d.ow w fe es x := H.ok _ (.head _); have hes : es.length = sz := by rw [← hd]; exact d.own_len he
  have hpos := HS.pos
  have hfill : Instr.fill (fun i => some (i * sz, sz)) ((Array.range (1 * sz)).map (z.cells[· % z.cells.size]!)) [(0, u)] = some es.toArray := by
    have h3 := put_arr es ((Array.range (1 * sz)).map (z.cells[· % z.cells.size]!)) (by simp [hes]); have h4 : (es.toArray.size ≠ sz || 0 * sz + es.toArray.size > ((Array.range (1 * sz)).map (z.cells[· % z.cells.size]!)).size) = false := by simp [hes]
    simp only [Instr.fill, hu]; rw [if_neg (by rw [h4]; decide)]; simp only [Nat.zero_mul, Nat.zero_add]; rw [h3]
  refine vS_run (v := .slice (some ⟨w.heap.size, 0, none⟩) 1 1) (w' := w.alloc (.cells es.toArray e)) ?_ (h (w.heap.size :: fe) _ _ ?_)
  · have hg : ¬ (16777216 < 1 * sz) := by omega
    have hz0 : ¬ sz = 0 := by omega
    simp only [Nat.one_mul] at hfill hg
    simp [Instr.buildSlice, run_underlying' HS.un, run_sizeOf' hi hs, hg, hz0, run_zeroValue' hi hz, hfill, newRow]
  · have hlt : ∀ b ∈ fe, n ≤ b ∧ b < w.heap.size := fun b hb => H.lo b (List.mem_append_left _ hb)
    have hB := Sep.fresh H es e; refine hB.swapTo (by simp only [fps, Ck.own_fp, Ck.box, List.cons_append, List.nil_append]; exact List.Perm.refl _) fun c hc => ?_
    rcases List.mem_cons.1 hc with rfl | hc
    · refine ⟨_, [es], [fe], rfl, ⟨?_, rfl, rfl, fun i hi => ?_, by simp [Value.ownBlock], ?_⟩⟩
      · have := owR_of <| World.ownsRow_lit (base := 0) (e := e) (size := sz) w es.toArray 1 (Nat.zero_le _) (by simp [maxLen]) (by simp [hes])
        rw [hd]; simpa using this
      · obtain rfl : i = 0 := by simp at hi; omega
        exact hB.ok _ (.tail _ (.head _))
      · have := hB.nd
        simp only [fps, Ck.own_fp, Ck.box, List.cons_append, List.nil_append] at this; refine List.nodup_cons.2 ⟨fun hm => ?_, d.own_nodup he⟩; have := hlt _ hm; omega
    · exact hB.ok _ (.tail _ (.tail _ hc))
end
section
variable {P : Program} {n m : Nat} {w0 w1 w w' : World} {L L1 L' : List Ck} {K : Value → Prop}
theorem kept_base (J : Sep m w1 w L) (J' : Sep m w1 w' L') : Kept m [] w w' := ⟨fun _ => J'.ns, fun b hb _ => (J'.bel.block b hb).trans (J.bel.block b hb).symm, fun _ _ h => by cases h⟩
theorem q_ldB {tg : Tg (w1.heap.size, ([] : List (Nat × Nat)), w, K)} (H : Sep n w0 w1 L1) (J : Sep w1.heap.size w1 w L) {g j : Nat} {cs : List Value} {t e : TypeId} {z v : Value} (HS : ScT P e z) (h : K v) (hm : Ck.box g cs t ∈ L1 := by repeat (first | exact List.mem_cons_self | apply List.mem_cons_of_mem)) (hv : cs[j]? = some v := by rfl) :
    QS P w1.heap.size [] w K tg (Instr.loadAt e (.pointer (some ⟨g, j, none⟩))) := qx_load HS ((J.bel.cell (p := ⟨g, j, none⟩) (H.lt hm)).trans ((H.cell hm j).trans hv)) (H.lt hm) (by simp) h
theorem q_ldaB {tg : Tg (w1.heap.size, ([] : List (Nat × Nat)), w, K)} (H : Sep n w0 w1 L1) (J : Sep w1.heap.size w1 w L) {g : Nat} {cs : List Value} {t e : TypeId} {sz : Nat} {z : Array Value} (HS : StT P e sz z) (h : K (.agg cs.toArray)) (hm : Ck.box g cs t ∈ L1 := by repeat (first | exact List.mem_cons_self | apply List.mem_cons_of_mem)) (hl : cs.length = sz := by rfl) :
    QS P w1.heap.size [] w K tg (Instr.loadAt e (.pointer (some ⟨g, 0, none⟩))) := qx_loadAgg HS cs hl (fun j v hj => by rw [Kd.add_at, Nat.zero_add, J.bel.cell (p := ⟨g, j, none⟩) (H.lt hm), H.cell hm]; exact hj) (H.lt hm) (by simp) h
theorem q_ldpB {tg : Tg (w1.heap.size, ([] : List (Nat × Nat)), w, K)} (H : Sep n w0 w1 L1) (J : Sep w1.heap.size w1 w L) {g j : Nat} {cs : List Value} {t e : TypeId} {sz : Nat} {z : Array Value} (vs : List Value) (HS : StT P e sz z) (h : K (.agg vs.toArray)) (hm : Ck.box g cs t ∈ L1 := by repeat (first | exact List.mem_cons_self | apply List.mem_cons_of_mem)) (hl : vs.length = sz := by rfl) (hv : (cs.drop j).take sz = vs := by rfl) :
    QS P w1.heap.size [] w K tg (Instr.loadAt e (.pointer (some ⟨g, j, none⟩))) := qx_loadAgg HS vs hl (fun i v hi => by
      rw [Kd.add_at, J.bel.cell (p := ⟨g, j + i, none⟩) (H.lt hm), H.cell hm, ← hi, ← hv, List.getElem?_take, List.getElem?_drop]; have : i < sz := by rw [← hl]; exact (List.getElem?_eq_some_iff.1 hi).1
      rw [if_pos this]) (H.lt hm) (by simp) h
theorem q_bld {G : List (Nat × Nat)} {tg : Tg (m, G, w, K)} {t : TypeId} {ps : Array (Nat × Value)} {places : Array (Nat × Nat)} {zero : Array Value} (hb : ∀ ps, P.built t ps = Instr.fill (places[·]?) zero ps) (cs : List Value) (h : K (.agg cs.toArray)) (hf : Instr.fill (places[·]?) zero ps.toList = some cs.toArray := by rfl) :
    QS P m G w K tg (Instr.build t ps) := QS_of (fun w _ => run_build w t ps _ ((hb _).trans hf)) h
theorem kept_baseG {G : List (Nat × Nat)} (J : Sep m w1 w L) (J' : Sep m w1 w' L') : Kept m G w w' := ⟨fun _ => J'.ns, fun b hb _ => (J'.bel.block b hb).trans (J.bel.block b hb).symm, fun g t _ hg j _ => (J'.bel.cell (p := ⟨g, j, none⟩) hg).trans (J.bel.cell (p := ⟨g, j, none⟩) hg).symm⟩
theorem kept_chg {G : List (Nat × Nat)} {w2 : World} {fp : List Nat} (h : Kept m G w w') (hc : Chg fp w' w2) (hfp : ∀ b ∈ fp, (b, 0) ∈ G) (hm : m ≤ w'.heap.size) (h0 : ∀ g t, (g, t) ∈ G → t = 0) : Kept m G w w2 :=
  ⟨fun _ => Nat.le_trans hm hc.size, fun b hb hG => (hc.block b (by omega) (fun hmem => hG 0 (hfp b hmem))).trans (h.2.1 b hb hG), fun g' t' hg hn j hj => by have := h0 g' t' hg; omega⟩
theorem kept_app {g t : Nat} {w2 : World} {fp : List Nat} (h : Kept m [(g, t)] w w') (hc : Chg fp w' w2) (hfp : ∀ b ∈ fp, b = g) (hm : m ≤ w'.heap.size) (hk : ∀ j, j < t → w2.cell? ⟨g, j, none⟩ = w'.cell? ⟨g, j, none⟩) : Kept m [(g, t)] w w2 :=
  ⟨fun _ => Nat.le_trans hm hc.size, fun b hb hG => (hc.block b (by omega) (fun hmem => hG t (by rw [hfp b hmem]; simp))).trans (h.2.1 b hb hG), fun g' t' hg hn j hj => by
    simp only [List.mem_singleton, Prod.mk.injEq] at hg; obtain ⟨rfl, rfl⟩ := hg
    exact (hk j hj).trans (h.2.2 g' t' (by simp) hn j hj)⟩
end
theorem w64_succ {a b : Nat} (h : a < b) (hb : b ≤ 9223372036854775807) : w64 ((a : Int) + 1) = ((a + 1 : Nat) : Int) := by unfold w64; omega
section
variable {P : Program} {n : Nat} {w0 w : World} {L : List Ck} {K : Value → World → Prop} {tg : Tg K} {α : Type} {d : Kd α}
end
section
variable {P : Program} {n m : Nat} {w0 w : World} {L : List Ck} {K : Value → World → Prop} {KQ : Value → Prop} {G : List (Nat × Nat)} {tg : Tg K} {tq : Tg (m, G, w, KQ)}
variable {α : Type} {d : Kd α} {f : α → Value} {R : α → Prop}
theorem x_elV (hp : IsPlain d f R) {t e by_ : Nat} {z : Value} (HS : SlT P t e 1 by_ z) {A : Option Addr} {q len c : Nat} {l : List α} {k : IntKind} {ii : Int} {x : α} (i : Nat) (hl : Kd.sliceRd d w q A l) (hv : l[i]? = some x) (hii : ii = (i : Int)) (hn : len = l.length)
    (h : ∀ ad, ad.block < q → w.cell? ad = some (f x) → R x → K (.pointer (some ad)) w) : VS P K tg (Instr.indexAt t (.slice A len c) (.int k ii)) w := by
  subst hii hn; obtain ⟨hi, hx⟩ := List.getElem?_eq_some_iff.1 hv; obtain ⟨hR, hc⟩ := hp.slRd.1 hl; obtain ⟨h2, h3, h4⟩ := hc i hi; refine x_index HS h2 (by omega) (by omega) (h _ ?_ ?_ (by rw [← hx]; exact hR _ (List.getElem_mem _)))
  · rw [Kd.add_block]; exact h3
  · rw [Nat.mul_one, Int.toNat_natCast, h4, hx]
theorem q_elV (hp : IsPlain d f R) {t e by_ : Nat} {z : Value} (HS : SlT P t e 1 by_ z) {A : Option Addr} {q len c : Nat} {l : List α} {k : IntKind} {ii : Int} {x : α} (i : Nat) (hl : Kd.sliceRd d w q A l) (hv : l[i]? = some x) (hii : ii = (i : Int)) (hn : len = l.length)
    (h : ∀ ad, ad.block < q → w.cell? ad = some (f x) → R x → KQ (.pointer (some ad))) : QS P m G w KQ tq (Instr.indexAt t (.slice A len c) (.int k ii)) := by
  subst hii hn; obtain ⟨hi, hx⟩ := List.getElem?_eq_some_iff.1 hv; obtain ⟨hR, hc⟩ := hp.slRd.1 hl; obtain ⟨h2, h3, h4⟩ := hc i hi; refine qx_index HS h2 (by omega) (by omega) (h _ ?_ ?_ (by rw [← hx]; exact hR _ (List.getElem_mem _)))
  · rw [Kd.add_block]; exact h3
  · rw [Nat.mul_one, Int.toNat_natCast, h4, hx]
end
section
variable {P : Program} {m : Nat} {w : World} {KQ : Value → Prop} {G : List (Nat × Nat)} {tq : Tg (m, G, w, KQ)} {α : Type} {d : Kd α}
theorem q_to {wr : World} {t e sz by_ : Nat} {z : Value} (HS : SlT P t e sz by_ z) (hd : d.sz = sz) {q : Nat} {v : Value} {l : List α} {k : IntKind} {hi : Nat} (hr : (Kd.slice e d).rd wr q [v] l) (h1 : hi ≤ l.length)
    (h : ∀ v', (Kd.slice e d).rd wr q [v'] (l.take hi) → KQ v') : QS P m G w KQ tq (Instr.sliceAt t v none (some (.int k (hi : Int))) none) := by
  obtain ⟨A, c, rfl, h3, h4, hl⟩ := sl_open hr; refine QS_of (fun w' _ => (run_sub HS (w := w') (k := .i64) (lo := 0)).2.1 (by omega)) (h _ ?_); have := sub_rd (e := e) hl (Nat.zero_le hi) h1 h3 h4; rw [hd] at this
  simpa using this
theorem q_from {wr : World} {t e sz by_ : Nat} {z : Value} (HS : SlT P t e sz by_ z) (hd : d.sz = sz) {q : Nat} {v : Value} {l : List α} {k : IntKind} {lo : Nat} (hr : (Kd.slice e d).rd wr q [v] l) (h1 : lo ≤ l.length)
    (h : ∀ v', (Kd.slice e d).rd wr q [v'] (l.drop lo) → KQ v') : QS P m G w KQ tq (Instr.sliceAt t v (some (.int k (lo : Int))) none none) := by
  obtain ⟨A, c, rfl, h3, h4, hl⟩ := sl_open hr; refine QS_of (fun w' _ => (run_sub HS (w := w') (k' := .i64) (hi := 0)).2.2 (by omega)) (h _ ?_); have := sub_rd (e := e) hl h1 (Nat.le_refl _) h3 h4; rw [hd, List.take_of_length_le (by simp)] at this; exact this
theorem q_sub {wr : World} {t e sz by_ : Nat} {z : Value} (HS : SlT P t e sz by_ z) (hd : d.sz = sz) {q : Nat} {v : Value} {l : List α} {k k' : IntKind} {lo hi : Nat} (hr : (Kd.slice e d).rd wr q [v] l) (h0 : lo ≤ hi) (h1 : hi ≤ l.length)
    (h : ∀ v', (Kd.slice e d).rd wr q [v'] ((l.drop lo).take (hi - lo)) → KQ v') : QS P m G w KQ tq (Instr.sliceAt t v (some (.int k (lo : Int))) (some (.int k' (hi : Int))) none) := by
  obtain ⟨A, c, rfl, h3, h4, hl⟩ := sl_open hr; refine QS_of (fun w' _ => (run_sub HS (w := w')).1 h0 (by omega)) (h _ ?_); have := sub_rd (e := e) hl h0 h1 h3 h4; rw [hd] at this; exact this
end
theorem getD_at {α : Type} {l : List α} {i : Nat} {z : α} (h : i < l.length) : l[i]? = some (l.getD i z) := by
  rw [List.getD_eq_getElem?_getD, List.getElem?_eq_getElem h, Option.getD_some]
def planPre (ops : Array Oper) : List (Nat × Bool) → Array Bool → Bool
  | [], _ => true
  | (i, true) :: rest, listed => Region.free .any ops listed i && (Region.ready .any ops listed).contains i && planPre ops rest (listed.setIfInBounds i true)
  | (i, false) :: rest, listed => (Region.ready .any ops listed == [i]) && planPre ops rest (listed.setIfInBounds i true)
def planTo : List (Nat × Bool) → Array Bool → Array Bool
  | [], listed => listed
  | (i, _) :: rest, listed => planTo rest (listed.setIfInBounds i true)
theorem pre_sound {P : Program} {ops : Array Oper} {S : World → Prop} {K : Sl → World → Prop} (hs : Region.noSelect ops = true) :
    ∀ (l : List (Nat × Bool)) (k : Nat) (listed : Array Bool) (s : Sl) (w : World), planPre ops l listed = true → S w → dpl P ops S (fun s w => S w → adr P ops K S k (planTo l listed) s w) l s w → adr P ops K S (l.length + k) listed s w
  | [], k, listed, s, w, hp, hS, h => by rw [List.length_nil, Nat.zero_add]; exact h hS
  | (i, true) :: rest, k, listed, s, w, hp, hS, h => by
    simp only [planPre, Bool.and_eq_true] at hp; rw [List.length_cons, Nat.succ_add]; simp only [dpl] at h
    cases ho : ops[i]? with
    | none => rw [ho] at h; exact h.elim
    | some o =>
      rw [ho] at h; simp only at h
      by_cases hw : Region.wanted o (yl ops s) = true
      · rw [if_pos hw] at h
        obtain ⟨v, hv, h⟩ := h; exact adr_take i ho hs hp.1.1 hp.1.2 hS (.inl ⟨hw, hv⟩) (pre_sound hs rest k _ _ _ hp.2 hS h)
      · rw [if_neg hw] at h
        exact adr_take i ho hs hp.1.1 hp.1.2 hS (.inr ⟨by simpa using hw, rfl⟩) (pre_sound hs rest k _ _ _ hp.2 hS h)
  | (i, false) :: rest, k, listed, s, w, hp, _, h => by
    simp only [planPre, Bool.and_eq_true, beq_iff_eq] at hp; rw [List.length_cons, Nat.succ_add]; refine adr_all [i] hp.1 (by simp) fun j hj => ?_; simp only [List.mem_singleton] at hj; subst hj; have h' : aopI P ops j s w fun s' w' => S w' ∧ dpl P ops S (fun s w => S w → adr P ops K S k (planTo rest (listed.setIfInBounds j true)) s w) rest s' w' := h; unfold aopI at h' ⊢
    cases ho : ops[j]? with
    | none => rw [ho] at h'; exact h'
    | some o =>
      rw [ho] at h'; simp only at h' ⊢
      split
      · rename_i hw
        rw [if_pos hw] at h'; exact aop_mono h' fun v w' hv => ⟨hv.1, pre_sound hs rest k _ _ _ hp.2 hv.1 hv.2⟩
      · rename_i hw
        rw [if_neg hw] at h'; exact ⟨h'.1, pre_sound hs rest k _ _ _ hp.2 h'.1 h'.2⟩
def Rest (P : Program) (ops : Array Oper) (n : Nat) (G : List (Nat × Nat)) (w0 : World) (K : Sl → World → Prop) (k : Nat) (listed : Array Bool) (_ : Tg (ops, n, G, w0, K, k, listed)) (s : Sl) (w : World) : Prop := Kept n G w0 w → adr P ops K (Kept n G w0) k listed s w
section
variable {P : Program} {l : List Oper} {n : Nat} {G : List (Nat × Nat)} {w0 : World} {K : Sl → World → Prop} {s : Sl} {w : World} {listed : Array Bool} {k : Nat}
theorem fork_draw {tg : Tg (l.toArray, K)} (n : Nat) (G : List (Nat × Nat)) (h : ∀ w1, w1.heap = w.heap → (∀ m, Below m w w1) → Rest P l.toArray n G w1 K l.toArray.size (Array.replicate l.toArray.size false) .mk s w1) : Adraw P l.toArray K tg s w :=
  adraw_of (Kept n G w.drew) (h w.drew rfl (fun m => (Below.refl m w).drew) (Kept.refl ..))
theorem rest_end {tg : Tg (l.toArray, n, G, w0, K, k, listed)} (pl : List (Nat × Bool)) (h : Dpl P l.toArray n G w0 K pl .mk s w)
    (hs : Region.noSelect l.toArray = true := by kernel_rfl) (hp : planOk l.toArray pl listed = true := by kernel_rfl) (hl : pl.length ≤ k := by decide) : Rest P l.toArray n G w0 K k listed tg s w := fun hS => dpl_sound hs pl _ _ _ _ hp hl hS h
theorem rest_pre {tg : Tg (l.toArray, n, G, w0, K, k, listed)} (pl : List (Nat × Bool)) (k' : Nat) (h : Dpl P l.toArray n G w0 (fun s w => Rest P l.toArray n G w0 K k' (planTo pl listed) .mk s w) pl .mk s w)
    (hs : Region.noSelect l.toArray = true := by kernel_rfl) (hp : planPre l.toArray pl listed = true := by kernel_rfl) (hl : pl.length + k' = k := by decide) : Rest P l.toArray n G w0 K k listed tg s w := by
  subst hl; exact fun hS => pre_sound hs pl k' listed s w hp hS h
theorem aopI_dpl {ops : Array Oper} {S : World → Prop} {K : Sl → World → Prop} {i : Nat} (h : dpl P ops S K [(i, false)] s w) : aopI P ops i s w fun s' w' => S w' ∧ K s' w' := h
theorem aopI_mono {ops : Array Oper} {K K' : Sl → World → Prop} {i : Nat} (h : aopI P ops i s w K) (hk : ∀ s w, K s w → K' s w) : aopI P ops i s w K' := by
  unfold aopI at h ⊢
  split
  · rename_i o ho
    rw [ho] at h; simp only at h
    split
    · rename_i hw
      rw [if_pos hw] at h; exact aop_mono h fun v w' hv => hk _ _ hv
    · rename_i hw
      rw [if_neg hw] at h; exact hk _ _ h
  · rename_i ho
    rw [ho] at h; exact h
theorem rest_fork {tg : Tg (l.toArray, n, G, w0, K, k, listed)} (i j : Nat) (k' : Nat)
    (hi : Dpl P l.toArray n G w0 (fun s w => Rest P l.toArray n G w0 K k' (listed.setIfInBounds i true) .mk s w) [(i, false)] .mk s w)
    (hj : Dpl P l.toArray n G w0 (fun s w => Rest P l.toArray n G w0 K k' (listed.setIfInBounds j true) .mk s w) [(j, false)] .mk s w)
    (hr : (Region.ready .any l.toArray listed == [i, j]) = true := by kernel_rfl) (hk : k = k' + 1 := by rfl) : Rest P l.toArray n G w0 K k listed tg s w := by
  subst hk; refine fun hS => adr_all [i, j] (beq_iff_eq.1 hr) (by simp) fun q hq => ?_; simp only [List.mem_cons, List.not_mem_nil, or_false] at hq
  rcases hq with rfl | rfl
  · exact aopI_mono (aopI_dpl hi) fun s' w' h => ⟨h.1, h.2 h.1⟩
  · exact aopI_mono (aopI_dpl hj) fun s' w' h => ⟨h.1, h.2 h.1⟩
theorem rest_fork3 {tg : Tg (l.toArray, n, G, w0, K, k, listed)} (i j p : Nat) (k' : Nat)
    (hi : Dpl P l.toArray n G w0 (fun s w => Rest P l.toArray n G w0 K k' (listed.setIfInBounds i true) .mk s w) [(i, false)] .mk s w)
    (hj : Dpl P l.toArray n G w0 (fun s w => Rest P l.toArray n G w0 K k' (listed.setIfInBounds j true) .mk s w) [(j, false)] .mk s w)
    (hq : Dpl P l.toArray n G w0 (fun s w => Rest P l.toArray n G w0 K k' (listed.setIfInBounds p true) .mk s w) [(p, false)] .mk s w)
    (hr : (Region.ready .any l.toArray listed == [i, j, p]) = true := by kernel_rfl) (hk : k = k' + 1 := by rfl) : Rest P l.toArray n G w0 K k listed tg s w := by
  subst hk; refine fun hS => adr_all [i, j, p] (beq_iff_eq.1 hr) (by simp) fun q hm => ?_; simp only [List.mem_cons, List.not_mem_nil, or_false] at hm
  rcases hm with rfl | rfl | rfl
  · exact aopI_mono (aopI_dpl hi) fun s' w' h => ⟨h.1, h.2 h.1⟩
  · exact aopI_mono (aopI_dpl hj) fun s' w' h => ⟨h.1, h.2 h.1⟩
  · exact aopI_mono (aopI_dpl hq) fun s' w' h => ⟨h.1, h.2 h.1⟩
end
section
variable {n : Nat} {w0 w : World} {L M M' M'' : List Ck} {c c' c'' : Ck}
theorem Sep.left (H : Sep n w0 w (L ++ M)) : Sep n w0 w L := by
  have e : fps (L ++ M) = fps L ++ fps M := fps_append L M; exact ⟨H.bel, H.ns, (List.nodup_append.1 (e ▸ H.nd)).1, fun b hb => H.lo b (by rw [e]; exact List.mem_append_left _ hb), fun c hc => H.ok c (List.mem_append_left _ hc)⟩
theorem Sep.two (H : Sep n w0 w L) (h : Out c L M := by repeat (first | exact Out.here | apply Out.there)) (h' : Out c' M M' := by repeat (first | exact Out.here | apply Out.there)) : Sep n w0 w [c, c'] :=
  ((H.out h).out (.there h')).out (.there .here) |>.left (L := [c, c'])
theorem Sep.three (H : Sep n w0 w L) (h : Out c L M := by repeat (first | exact Out.here | apply Out.there)) (h' : Out c' M M' := by repeat (first | exact Out.here | apply Out.there)) (h'' : Out c'' M' M'' := by repeat (first | exact Out.here | apply Out.there)) : Sep n w0 w [c, c', c''] :=
  ((((H.out h).out (.there h')).out (.there (.there h''))).out (.there .here)).out (.there (.there .here)) |>.left (L := [c, c', c''])
end
section
variable {P : Program} {n : Nat} {w0 w : World} {L : List Ck} {K : Value → World → Prop} {tg : Tg K} {α : Type} {d : Kd α} {f : α → Value} {R : α → Prop}
theorem owR_take {w : World} {e : TypeId} {sz : Nat} {A : Option Addr} {m c n hi : Nat} {xs : List Value} (h : w.owR e sz (.slice A m c) n xs) (hh : hi ≤ n) : w.owR e sz (.slice A hi c) hi (xs.take (hi * sz)) := by
  obtain ⟨h1, h2⟩ := h; have hm : hi * sz ≤ n * sz := Nat.mul_le_mul_right sz hh; refine ⟨by rw [List.length_take]; omega, ?_⟩
  rcases h2 with ⟨h3, h4⟩ | ⟨g, cap, cur, h3, h4, h5, h6, h7, h8, h9⟩
  · simp only [Value.slice.injEq] at h3
    obtain ⟨rfl, rfl, rfl⟩ := h3; exact .inl ⟨by rw [show hi = 0 by omega], by omega⟩
  · simp only [Value.slice.injEq] at h3
    obtain ⟨rfl, rfl, rfl⟩ := h3; refine .inr ⟨g, _, cur, rfl, h4, h5, by omega, h7, h8, ?_⟩; rw [← h9, List.take_take, Nat.min_eq_left hm]
theorem Sep.takeO (hp : IsPlain d f R) {e : TypeId} {fp : List Nat} {A : Option Addr} {m c hi : Nat} {l : List α} (H : Sep n w0 w (Ck.own (Kd.slice e d) fp [.slice A m c] l :: L)) (hh : hi ≤ l.length) : Sep n w0 w (Ck.own (Kd.slice e d) fp [.slice A hi c] (l.take hi) :: L) := by
  refine H.swapTo (List.Perm.refl _) fun q hq => ?_
  rcases List.mem_cons.1 hq with rfl | hq
  · obtain ⟨h1, h2, h3⟩ := hp.slOw.1 (show (Kd.slice e d).ow w fp [.slice A m c] l from H.ok _ (.head _))
    refine hp.slOw.2 ⟨fun x hx => h1 x (List.mem_of_mem_take hx), ?_, h3.trans (by cases A <;> rfl)⟩; have := owR_take h2 hh; rw [Nat.mul_one, ← List.map_take] at this; rw [List.length_take, Nat.min_eq_left hh]; exact this
  · exact H.ok _ (.tail _ hq)
theorem x_hiO {t e sz by_ : Nat} {z : Value} (HS : SlT P t e sz by_ z) {A : Option Addr} {m c hi : Nat} {k : IntKind} (hm : hi ≤ c) (h : K (.slice A hi c) w) : VS P K tg (Instr.sliceAt t (.slice A m c) none (some (.int k (hi : Int))) none) w := by
  refine vS_run ((run_sub HS (k := .i64) (lo := 0)).2.1 hm) ?_
  have e : sliced A 0 hi c sz = .slice A hi c := by
    unfold sliced; rw [Nat.zero_mul]
    cases A with
    | none => simp
    | some a => simp [Addr.add]
  rw [e]; exact h
theorem x_cvb {t e : TypeId} (hu : P.underlying t = some (.slice e)) (he : P.underlying e = some (.int .u8)) {fp : List Nat} {g m c : Nat} {l : List UInt8} (H : Sep n w0 w (Ck.own (bytes e) fp [.slice (some ⟨g, 0, none⟩) m c] l :: L))
    (h : ∀ w', Sep n w0 w' L → (bytes e).rd w' w'.heap.size [.slice (some ⟨g, 0, none⟩) m c] l → K (.slice (some ⟨g, 0, none⟩) m c) w') : VS P K tg (convert t t (.slice (some ⟨g, 0, none⟩) m c)) w := by
  have hrd := H.own (.head _); obtain ⟨_, hrow, hfp⟩ := pl_u8.slOw.1 (show (bytes e).ow w fp [.slice (some ⟨g, 0, none⟩) m c] l from H.ok _ (.head _))
  rcases hrow.2 with ⟨h1, _⟩ | ⟨g', cap, cur, h1, _, hh, hc, hm, hs, ht⟩
  · cases h1
  cases h1
  have hg : g < w.heap.size := (Array.getElem?_eq_some_iff.1 hh).1; have hsh : w.shape? g = some (e, cur.size) := by unfold World.shape?; rw [hh]
  obtain ⟨w', hw'⟩ : ∃ w', w' = w.freeze ⟨g, cur.size, none⟩ 1 := ⟨_, rfl⟩; have e0 : w' = { w with heap := w'.heap } := by rw [hw']; unfold World.freeze; rw [if_neg (by decide)]
  have e1 : ∀ k, k ≠ g → w'.heap[k]? = w.heap[k]? := fun k hk => by
    rw [hw']; unfold World.freeze; rw [if_neg (by decide)]; simp only [Array.getElem?_modify]; rw [if_neg (fun q => hk q.symm)]
  have e2 : w'.heap[g]? = some (.cells cur e (cur.size, cur.size + 1)) := by
    rw [hw']; unfold World.freeze; rw [if_neg (by decide)]; simp only [Array.getElem?_modify, hh]
    simp
  have e3 : w'.heap.size = w.heap.size := by
    rw [hw']; unfold World.freeze; rw [if_neg (by decide)]; simp only [Array.size_modify]
  have hrun : (convert t t (.slice (some ⟨g, 0, none⟩) l.length c)).run P w = .ok (.slice (some ⟨g, 0, none⟩) l.length c) w' := by
    rw [hw']
    simp [convert, run_underlying' hu, run_underlying' he, markStringish, hsh]
  have hcell : ∀ j, w'.cell? ⟨g, j, none⟩ = w.cell? ⟨g, j, none⟩ := fun j => by
    simp only [World.cell?, e2, hh]
  have H' := (H.put (c' := Ck.own Kd.u8 [] [encB 0] 0) .here ⟨by rw [e0], by rw [e0], by rw [e0], Nat.le_of_eq e3.symm, fun k _ hn => e1 k (fun q => hn (by rw [q]; show g ∈ fp; rw [hfp]; simp [Value.ownBlock]))⟩ ⟨⟨rfl, trivial⟩, rfl⟩ List.nodup_nil (fun b hb => by cases hb)).tail; refine vS_run hrun (h w' H' ?_); obtain ⟨A, c', hv, h2, h3, h4⟩ := hrd
  have hA : A = some ⟨g, 0, none⟩ := by
    simp only [List.cons.injEq, Value.slice.injEq, and_true] at hv; exact hv.1.symm
  subst hA; refine ⟨_, c', hv, h2, h3, pl_u8.slRd.2 ⟨fun _ _ => trivial, fun i hi => ?_⟩⟩; obtain ⟨h5, h6, h7⟩ := (pl_u8.slRd.1 h4).2 i hi; refine ⟨h5, by rw [e3]; exact h6, ?_⟩; rw [adA_some, Kd.add_plain] at h7 ⊢; rw [hcell]; exact h7
end
end Go.Proofs.YtcmckbgiiclomabGreatDoor.V
