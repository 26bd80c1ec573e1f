/- An element taken out of an owned slice in place; what lies behind it cleared. -/
import Derived.Test.YtcmckbgiiclomaaGreatDoorVz
namespace Go.Proofs.YtcmckbgiiclomaaGreatDoor.V
open Go Go.RowKit
set_option linter.unusedVariables false

theorem flat_len {k : Nat} : ∀ (rows : List (List Value)), (∀ r ∈ rows, r.length = k) → rows.flatten.length = rows.length * k
  | [], _ => by simp
  | r :: rs, h => by
    rw [List.flatten_cons, List.length_append, List.length_cons, h r (List.mem_cons_self ..), flat_len rs fun r hr => h r (List.mem_cons_of_mem _ hr), Nat.add_mul, Nat.one_mul]; omega
theorem flat_take {k : Nat} (rows : List (List Value)) (h : ∀ r ∈ rows, r.length = k) (i : Nat) (hi : i ≤ rows.length) : rows.flatten.take (i * k) = (rows.take i).flatten := by
  have e : rows.flatten = (rows.take i).flatten ++ (rows.drop i).flatten := by rw [← List.flatten_append, List.take_append_drop]
  have hl := flat_len (rows.take i) fun r hr => h r (List.mem_of_mem_take hr)
  rw [List.length_take, Nat.min_eq_left hi] at hl
  rw [e, List.take_append_of_le_length (by omega), List.take_of_length_le (by omega)]
theorem flat_drop {k : Nat} (rows : List (List Value)) (h : ∀ r ∈ rows, r.length = k) (i : Nat) (hi : i ≤ rows.length) : rows.flatten.drop (i * k) = (rows.drop i).flatten := by
  have e : rows.flatten = (rows.take i).flatten ++ (rows.drop i).flatten := by rw [← List.flatten_append, List.take_append_drop]
  have hl := flat_len (rows.take i) fun r hr => h r (List.mem_of_mem_take hr)
  rw [List.length_take, Nat.min_eq_left hi] at hl
  rw [e, ← hl, List.drop_left]

theorem sub_flat {α : Type} {l l' : List (List α)} (h : l.Sublist l') : l.flatten.Sublist l'.flatten := by
  induction h with
  | slnil => exact List.Sublist.refl _
  | cons a _ ih => rw [List.flatten_cons]; exact ih.trans (List.sublist_append_right ..)
  | cons_cons a _ ih => rw [List.flatten_cons, List.flatten_cons]; exact (List.Sublist.refl a).append ih
theorem erase_map {α β : Type} (f : α → β) (l : List α) (i : Nat) : (l.eraseIdx i).map f = (l.map f).eraseIdx i := by
  rw [List.eraseIdx_eq_take_drop_succ, List.eraseIdx_eq_take_drop_succ, List.map_append, List.map_take, List.map_drop]
section
variable {n : Nat} {w0 w : World} {L : List Ck} {α : Type} {d : Kd α}
structure RowAt (e : TypeId) (d : Kd α) (w : World) (fp : List Nat) (g m c : Nat) (l : List α) (rs : List (List Value × List Nat × α)) (cur : Array Value) : Prop where
  vals : rs.map (·.2.2) = l
  len : rs.length = m
  lenl : l.length = m
  el : ∀ r ∈ rs, d.ow w r.2.1 r.1 r.2.2
  hfp : fp = g :: (rs.map (·.2.1)).flatten
  nd : fp.Nodup
  heap : w.heap[g]? = some (.cells cur e (0, 0))
  mc : m ≤ c
  cm : c ≤ maxLen
  cs : c * d.sz ≤ cur.size
  row : cur.toList.take (m * d.sz) = (rs.map (·.1)).flatten
  lens : ∀ r ∈ rs.map (·.1), r.length = d.sz
theorem row_at {e : TypeId} {fp : List Nat} {g m c : Nat} {l : List α} (h : (Kd.slice e d).ow w fp [.slice (some ⟨g, 0, none⟩) m c] l) : ∃ rs cur, RowAt e d w fp g m c l rs cur := by
  obtain ⟨v', rows, fs, hv, hr⟩ := h
  simp only [List.cons.injEq, and_true] at hv
  subst hv
  obtain rfl := ownsRow_len hr.row
  obtain ⟨rs, e1, e2, e3⟩ := zip3 rows fs l hr.lr hr.lf
  have hrl : rs.length = l.length := by rw [← e3]; simp
  have hel : ∀ r ∈ rs, d.ow w r.2.1 r.1 r.2.2 := fun r hrm => by
    obtain ⟨k, hk, rfl⟩ := List.getElem_of_mem hrm
    have := hr.el k (by omega)
    have q1 : rows[k]'(by rw [hr.lr]; omega) = rs[k].1 := by subst e1; simp
    have q2 : fs[k]'(by rw [hr.lf]; omega) = rs[k].2.1 := by subst e2; simp
    have q3 : l[k]'(by omega) = rs[k].2.2 := by subst e3; simp
    rw [q1, q2, q3] at this; exact this
  rcases hr.row.2 with ⟨h1, h2⟩ | ⟨g', cap, cur, h1, _, hh, hc, hm, hs, ht⟩
  · cases h1
  cases h1
  exact ⟨rs, cur, e3, hrl, rfl, hel, by rw [hr.hfp, e2]; rfl, hr.nd, hh, hc, hm, hs, by rw [ht, e1], by rw [e1]; exact hr.lens⟩
/-- Another row in the same place, of elements that are there. -/
theorem RowAt.put {e : TypeId} {fp : List Nat} {g m c : Nat} {l : List α} {rs : List (List Value × List Nat × α)} {cur : Array Value} (h : RowAt e d w fp g m c l rs cur) (rs' : List (List Value × List Nat × α)) (cur' : List Value)
    (hs : rs'.Sublist rs) (hl : cur'.length = cur.size) (ht : cur'.take (rs'.length * d.sz) = (rs'.map (·.1)).flatten)
    (H : Sep n w0 w (Ck.own (Kd.slice e d) fp [.slice (some ⟨g, 0, none⟩) m c] l :: L)) :
    ∃ fp', Sep n w0 (w.setRow g cur'.toArray) (Ck.own (Kd.slice e d) fp' [.slice (some ⟨g, 0, none⟩) rs'.length c] (rs'.map (·.2.2)) :: L) := by
  have hfs : ((rs'.map (·.2.1)).flatten).Sublist ((rs.map (·.2.1)).flatten) := sub_flat (hs.map _)
  have hnd : (g :: (rs'.map (·.2.1)).flatten).Nodup := (h.hfp ▸ h.nd).sublist (List.Sublist.cons_cons g hfs)
  have hg : g < w.heap.size := (Array.getElem?_eq_some_iff.1 h.heap).1
  have hgn : ∀ r ∈ rs', ∀ b ∈ r.2.1, b ≠ g := fun r hr b hb e => by
    subst e
    exact (List.nodup_cons.1 hnd).1 (List.mem_flatten_of_mem (List.mem_map.2 ⟨r, hr, rfl⟩) hb)
  have hle : rs'.length ≤ m := by rw [← h.len]; exact hs.length_le
  refine ⟨g :: (rs'.map (·.2.1)).flatten, H.put (w' := w.setRow g cur'.toArray) (c' := Ck.own (Kd.slice e d) (g :: (rs'.map fun r : List Value × List Nat × α => r.2.1).flatten) [.slice (some ⟨g, 0, none⟩) rs'.length c] (rs'.map fun r : List Value × List Nat × α => r.2.2)) .here ⟨rfl, rfl, rfl, by simp [World.setRow], fun k _ hn => setRow_other w g k _ (fun q => hn (by rw [q]; show g ∈ fp; rw [h.hfp]; exact List.mem_cons_self ..))⟩ ?_ hnd fun b hb => ?_⟩
  · refine RowOw.of rs' ⟨?_, .inr ⟨g, c, cur'.toArray, rfl, Nat.zero_le _, setRow_heap w g cur _ e _ h.heap, by have := h.mc; omega, h.cm, by simpa [hl] using h.cs, by simpa using ht⟩⟩ (fun r hr => d.own_mono (h.el r (hs.subset hr)) fun b hb => setRow_other w g b _ (hgn r hr b hb)) rfl hnd
    have h1 := flat_len (rs'.map (·.1)) fun r hr => h.lens r ((hs.map _).subset hr)
    rw [List.length_map] at h1; exact h1
  · have hfp : fp = g :: (rs.map (·.2.1)).flatten := h.hfp
    have hb : b ∈ g :: (rs'.map (·.2.1)).flatten := hb
    have hm : b ∈ fp := by
      rw [hfp]
      rcases List.mem_cons.1 hb with rfl | hb
      · exact List.mem_cons_self ..
      · exact List.mem_cons_of_mem _ (hfs.subset hb)
    refine ⟨.inl hm, ?_⟩
    have := (H.lo b (mem_fps (c := Ck.own (Kd.slice e d) fp [.slice (some ⟨g, 0, none⟩) m c] l) hm (.head _))).2
    simpa [World.setRow] using this
end

section
variable {P : Program} {n : Nat} {w0 w : World} {L : List Ck} {K : Value → World → Prop} {tg : Tg K} {α : Type} {d : Kd α}
/-- append(s[:i], s[i+1:]...): the element is gone. -/
theorem x_delA {t ty e sz by_ : Nat} {z : Value} (HS : SlT P t e sz by_ z) (hd : d.sz = sz) {fp : List Nat} {g m c : Nat} {l : List α} (i : Nat) (H : Sep n w0 w (Ck.own (Kd.slice e d) fp [.slice (some ⟨g, 0, none⟩) m c] l :: L)) (hi : i < m)
    (h : ∀ fp' w', Sep n w0 w' (Ck.own (Kd.slice e d) fp' [.slice (some ⟨g, 0, none⟩) (m - 1) c] (l.eraseIdx i) :: L) → K (.slice (some ⟨g, 0, none⟩) (m - 1) c) w') :
    Builtin' P K tg .append #[t, t] ty [.slice (some ⟨g, 0, none⟩) i c, sliced (some ⟨g, 0, none⟩) (i + 1) m c sz] w := by
  obtain ⟨rs, cur, R⟩ := row_at (show (Kd.slice e d).ow w fp [.slice (some ⟨g, 0, none⟩) m c] l from H.ok _ (.head _))
  obtain ⟨inf, hi', hs, hby, hz⟩ := HS.inf
  have hrow := R.row
  have hcs := R.cs
  have hlens := R.lens
  have hmc := R.mc
  rw [hd] at hrow hcs hlens
  have hml : (rs.map (·.1)).length = m := by rw [List.length_map, R.len]
  have hm1 : m * sz ≤ c * sz := Nat.mul_le_mul_right _ hmc
  have hi1 : (i + 1) * sz ≤ m * sz := Nat.mul_le_mul_right _ hi
  have hnl : ((rs.map (·.1)).drop (i + 1)).flatten.length = (m - (i + 1)) * sz := by
    rw [flat_len _ fun r hr => hlens r (List.mem_of_mem_drop hr), List.length_drop, hml]
  have e2 : i * sz + (m - (i + 1)) * sz = (m - 1) * sz := by rw [← Nat.add_mul]; congr 1; omega
  have hm2 : (m - 1) * sz ≤ m * sz := Nat.mul_le_mul_right _ (by omega)
  have hsl : sliced (some ⟨g, 0, none⟩) (i + 1) m c sz = .slice (some (if c = i + 1 then ⟨g, 0, none⟩ else ⟨g, (i + 1) * sz, none⟩)) (m - (i + 1)) (c - (i + 1)) := by
    unfold sliced
    split
    · rfl
    · rw [Option.map_some, Kd.add_plain]
  have hnews : ∀ j u, ((rs.map (·.1)).drop (i + 1)).flatten[j]? = some u → w.cell? ((if c = i + 1 then (⟨g, 0, none⟩ : Addr) else ⟨g, (i + 1) * sz, none⟩).add j) = some u := fun j u hj => by
    have hjl : j < (m - (i + 1)) * sz := by
      rw [← hnl]; exact (List.getElem?_eq_some_iff.1 hj).1
    have hci : ¬ (c = i + 1) := fun q => by
      rw [show m - (i + 1) = 0 by omega] at hjl; omega
    rw [if_neg hci, Kd.add_at, Kd.cell_blk R.heap]
    rw [← flat_drop _ hlens (i + 1) (by omega), ← hrow, List.getElem?_drop, List.getElem?_take] at hj
    split at hj
    · simpa using hj
    · cases hj
  have hone : ∀ u ∈ ((rs.map (·.1)).drop (i + 1)).flatten, u.oneCell' = true := fun u hu => by
    obtain ⟨r, hr, hu⟩ := List.mem_flatten.1 hu
    obtain ⟨y, hy, rfl⟩ := List.mem_map.1 (List.mem_of_mem_drop hr)
    have hown := R.el y hy
    refine Kd.one d (w := w) (n := w.heap.size) (x := y.2.2) (Kd.own_rd d hown fun b hb => ?_) u hu
    exact (H.lo b (mem_fps (c := Ck.own (Kd.slice e d) fp [.slice (some ⟨g, 0, none⟩) m c] l) (by show b ∈ fp; rw [R.hfp]; exact List.mem_cons_of_mem _ (List.mem_flatten_of_mem (List.mem_map.2 ⟨y, hy, rfl⟩) hb)) (.head _))).2
  subst hs
  have hr := run_append_room (P := P) w t ty e inf HS.un hi' g i c cur R.heap _ (m - (i + 1)) (c - (i + 1)) _ hnl hnews hone (by omega) (by rw [hnl]; omega)
  unfold Builtin'
  rw [hsl]
  refine vS_run hr ?_
  rw [show i + (m - (i + 1)) = m - 1 by omega, hnl, e2]
  have hel : (rs.eraseIdx i).map (·.2.2) = l.eraseIdx i := by rw [← R.vals, erase_map]
  have hlen : (rs.eraseIdx i).length = m - 1 := by rw [List.length_eraseIdx, if_pos (by rw [R.len]; exact hi), R.len]
  obtain ⟨fp', S⟩ := R.put (rs.eraseIdx i) (cur.toList.take (i * inf.size) ++ ((rs.map (·.1)).drop (i + 1)).flatten ++ cur.toList.drop ((m - 1) * inf.size)) (List.eraseIdx_sublist ..)
    (by simp only [List.length_append, List.length_take, List.length_drop, Array.length_toList, hnl]; omega)
    (by
      have e3 : cur.toList.take (i * inf.size) = ((rs.map (·.1)).take i).flatten := by
        rw [← flat_take _ hlens i (by omega), ← hrow, List.take_take, Nat.min_eq_left (by omega)]
      rw [hlen, hd, e3]
      have e4 : (rs.eraseIdx i).map (·.1) = (rs.map (·.1)).take i ++ (rs.map (·.1)).drop (i + 1) := by
        rw [erase_map, List.eraseIdx_eq_take_drop_succ]
      rw [e4, List.flatten_append]
      have e5 : (((rs.map (·.1)).take i).flatten ++ ((rs.map (·.1)).drop (i + 1)).flatten).length = (m - 1) * inf.size := by
        rw [List.length_append, hnl, flat_len _ fun r hr => hlens r (List.mem_of_mem_take hr), List.length_take, hml, Nat.min_eq_left (by omega), e2]
      rw [List.take_append_of_le_length (by omega), List.take_of_length_le (by omega)]) H
  rw [hlen, hel] at S
  exact h fp' _ S
/-- What lies behind an owned slice's elements, cleared. -/
theorem x_clrB {t ty e sz by_ : Nat} {z : Value} (HS : SlT P t e sz by_ z) (hd : d.sz = sz) (hz1 : ∀ u ∈ z.cells.toList, u.oneCell' = true) {fp : List Nat} {g m c k c' : Nat} {l : List α} (H : Sep n w0 w (Ck.own (Kd.slice e d) fp [.slice (some ⟨g, 0, none⟩) m c] l :: L)) (hk : m + k ≤ c) (hk0 : 0 < k)
    (h : ∀ fp' w', Sep n w0 w' (Ck.own (Kd.slice e d) fp' [.slice (some ⟨g, 0, none⟩) m c] l :: L) → K (.tuple #[]) w') :
    Builtin' P K tg .clear #[t] ty [.slice (some ⟨g, m * sz, none⟩) k c'] w := by
  obtain ⟨rs, cur, R⟩ := row_at (show (Kd.slice e d).ow w fp [.slice (some ⟨g, 0, none⟩) m c] l from H.ok _ (.head _))
  obtain ⟨inf, hi', hs, hby, hz⟩ := HS.inf
  have hcs := R.cs
  rw [hd] at hcs
  have hzs := HS.zs
  have hkc : (m + k) * sz ≤ c * sz := Nat.mul_le_mul_right _ hk
  rw [Nat.add_mul] at hkc
  have hl : (Builtin.zeroCells z.cells k).toList.length = k * sz := by rw [Array.length_toList, size_zeroCells, hzs]
  have hst := run_storeCells_at P g (m * sz) e (Builtin.zeroCells z.cells k).toList 0 cur w R.heap (by rw [hl]; omega) (fun u hu => by
    simp only [Builtin.zeroCells, Array.toList_map, List.mem_map] at hu
    obtain ⟨j, hj, rfl⟩ := hu
    have hlt : j % z.cells.size < z.cells.size := Nat.mod_lt _ (by rw [hzs]; exact HS.pos)
    rw [getElem!_pos z.cells _ hlt]
    exact hz1 _ (by simp))
  simp only [Nat.add_zero] at hst
  unfold Builtin'
  refine vS_run (v := .tuple #[]) (w' := w.setRow g (cur.toList.take (m * sz) ++ (Builtin.zeroCells z.cells k).toList ++ cur.toList.drop (m * sz + (Builtin.zeroCells z.cells k).toList.length)).toArray) ?_ ?_
  · obtain ⟨k, rfl⟩ : ∃ q, k = q + 1 := ⟨k - 1, by omega⟩
    simp [Builtin.clear_, run_underlying' HS.un, zeroValue, typeInfo, hi', hz, hst]
  · obtain ⟨fp', S⟩ := R.put rs (cur.toList.take (m * sz) ++ (Builtin.zeroCells z.cells k).toList ++ cur.toList.drop (m * sz + (Builtin.zeroCells z.cells k).toList.length)) (List.Sublist.refl _)
      (by simp only [List.length_append, List.length_take, List.length_drop, Array.length_toList] at hl ⊢; omega)
      (by
        rw [R.len, hd, List.append_assoc, List.take_append_of_le_length (by rw [List.length_take, Array.length_toList]; omega), List.take_take, Nat.min_self, ← R.row, hd]) H
    rw [R.len, R.vals] at S
    exact h fp' _ S
end
end Go.Proofs.YtcmckbgiiclomaaGreatDoor.V
