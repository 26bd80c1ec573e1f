/- An owned slice sifted in place: some elements kept, moved to the front. -/
import Derived.Test.YtdljbekkckfmnaaGreatVu
import Derived.Test.YtdljbekkckfmnaaGreatVq
namespace Go.Proofs.YtdljbekkckfmnaaGreat.V
open Go Go.RowKit
set_option linter.unusedVariables false

/-- A sifting under way: of the rows rs those before the j-th were looked at, ks of these are kept and lie in front. -/
def Ck.sift {α : Type} (e : TypeId) (d : Kd α) (g c : Nat) (rs ks : List (List Value × List Nat × α)) (j : Nat) : Ck where
  fp := g :: (rs.map fun r : List Value × List Nat × α => r.2.1).flatten
  A := fun w => (g :: (rs.map fun r : List Value × List Nat × α => r.2.1).flatten).Nodup ∧ rs.length ≤ c ∧ c ≤ maxLen ∧ (∀ r ∈ rs, d.ow w r.2.1 r.1 r.2.2) ∧ ∃ cur : Array Value, w.heap[g]? = some (.cells cur e (0, 0)) ∧ c * d.sz ≤ cur.size ∧
    cur.toList.take (ks.length * d.sz) = (ks.map fun r : List Value × List Nat × α => r.1).flatten ∧ (cur.toList.drop (j * d.sz)).take ((rs.length - j) * d.sz) = ((rs.map fun r : List Value × List Nat × α => r.1).drop j).flatten
  loc := fun {w w'} h ⟨h0, h1, h2, h3, cur, h4, h5⟩ => ⟨h0, h1, h2, fun r hr => d.own_mono (h3 r hr) fun b hb => h b (List.mem_cons_of_mem _ (List.mem_flatten_of_mem (List.mem_map.2 ⟨r, hr, rfl⟩) hb)), cur, by rw [h g (List.mem_cons_self ..)]; exact h4, h5⟩
theorem sift_fp {α : Type} {e : TypeId} {d : Kd α} {g c : Nat} {rs ks : List (List Value × List Nat × α)} {j : Nat} : (Ck.sift e d g c rs ks j).fp = g :: (rs.map (·.2.1)).flatten := rfl

section
variable {n : Nat} {w0 w : World} {L : List Ck} {α : Type} {d : Kd α} {e : TypeId} {g c : Nat} {rs ks : List (List Value × List Nat × α)} {j : Nat}
theorem chg_refl (fp : List Nat) (w : World) : Chg fp w w := ⟨rfl, rfl, rfl, Nat.le_refl _, fun _ _ _ => rfl⟩
theorem Sep.siftStart {fp : List Nat} {m : Nat} {l : List α} (H : Sep n w0 w (Ck.own (Kd.slice e d) fp [.slice (some ⟨g, 0, none⟩) m c] l :: L)) (i k : Nat) (hi : i ≤ l.length) (hk : k ≤ l.length) :
    ∃ rs : List (List Value × List Nat × α), rs.map (·.2.2) = l ∧ m = l.length ∧ Sep n w0 w (Ck.sift e d g c rs (rs.take i) k :: L) := by
  obtain ⟨rs, cur, R⟩ := row_at (show (Kd.slice e d).ow w fp [.slice (some ⟨g, 0, none⟩) m c] l from H.ok _ (.head _))
  have hml : (rs.map (·.1)).length = m := by rw [List.length_map, R.len]
  have hnd : (g :: (rs.map (·.2.1)).flatten).Nodup := R.hfp ▸ R.nd
  have hrl := R.len
  have hll := R.lenl
  have hik : i * d.sz ≤ m * d.sz := Nat.mul_le_mul_right _ (by omega)
  have hkk : k * d.sz ≤ m * d.sz := Nat.mul_le_mul_right _ (by omega)
  refine ⟨rs, R.vals, R.lenl.symm, H.put (w' := w) (c' := Ck.sift e d g c rs (rs.take i) k) .here (chg_refl _ _) ⟨hnd, by rw [hrl]; exact R.mc, R.cm, R.el, cur, R.heap, R.cs, ?_, ?_⟩ hnd fun b hb => ?_⟩
  · rw [List.length_take, Nat.min_eq_left (by omega), List.map_take, ← flat_take _ R.lens i (by omega), ← R.row, List.take_take, Nat.min_eq_left hik]
  · rw [hrl, ← flat_drop _ R.lens k (by omega), ← R.row, List.drop_take, Nat.sub_mul]
  · have hm : b ∈ fp := by rw [R.hfp]; exact hb
    exact ⟨.inl hm, (H.lo b (mem_fps (c := Ck.own (Kd.slice e d) fp [.slice (some ⟨g, 0, none⟩) m c] l) hm (.head _))).2⟩
theorem Sep.siftA (H : Sep n w0 w (Ck.sift e d g c rs ks j :: L)) : (g :: (rs.map (·.2.1)).flatten).Nodup ∧ rs.length ≤ c ∧ c ≤ maxLen ∧ (∀ r ∈ rs, d.ow w r.2.1 r.1 r.2.2) ∧ ∃ cur : Array Value, w.heap[g]? = some (.cells cur e (0, 0)) ∧ c * d.sz ≤ cur.size ∧
    cur.toList.take (ks.length * d.sz) = (ks.map (·.1)).flatten ∧ (cur.toList.drop (j * d.sz)).take ((rs.length - j) * d.sz) = ((rs.map (·.1)).drop j).flatten := H.ok _ (.head _)
theorem sift_lens (h : ∀ r ∈ rs, d.ow w r.2.1 r.1 r.2.2) : ∀ r ∈ rs.map (·.1), r.length = d.sz := fun r hr => by
  obtain ⟨q, hq, rfl⟩ := List.mem_map.1 hr
  exact d.own_len (h q hq)
theorem Sep.siftEl (H : Sep n w0 w (Ck.sift e d g c rs ks j :: L)) {r : List Value × List Nat × α} (hr : r ∈ rs) : d.rd w w.heap.size r.1 r.2.2 :=
  d.own_rd (H.siftA.2.2.2.1 r hr) fun b hb => (H.lo b (mem_fps (c := Ck.sift e d g c rs ks j) (by rw [sift_fp]; exact List.mem_cons_of_mem _ (List.mem_flatten_of_mem (List.mem_map.2 ⟨r, hr, rfl⟩) hb)) (.head _))).2
/-- What lies at the j-th place. -/
theorem Sep.siftCell (H : Sep n w0 w (Ck.sift e d g c rs ks j :: L)) (hj : j < rs.length) (q : Nat) (hq : q < d.sz) : w.cell? ⟨g, j * d.sz + q, none⟩ = (rs[j].1)[q]? := by
  obtain ⟨_, _, _, hel, cur, hh, hcs, _, hd⟩ := H.siftA
  have hlens := sift_lens hel
  have h1 := Kd.flat_get ((rs.map (·.1)).drop j) (fun r hr => hlens r (List.mem_of_mem_drop hr)) 0 q hq
  have h2 : 1 * d.sz ≤ (rs.length - j) * d.sz := Nat.mul_le_mul_right _ (by omega)
  rw [← hd, Nat.zero_mul, Nat.zero_add, List.getElem?_take, if_pos (by omega), List.getElem?_drop] at h1
  rw [Kd.cell_blk hh]
  have h3 : cur[j * d.sz + q]? = cur.toList[j * d.sz + q]? := by simp
  rw [h3, h1, List.getElem?_drop, Nat.add_zero, List.getElem?_map, List.getElem?_eq_getElem hj]
  rfl
/-- The j-th is left out. -/
theorem Sep.siftSkip (H : Sep n w0 w (Ck.sift e d g c rs ks j :: L)) (hj : j < rs.length) : Sep n w0 w (Ck.sift e d g c rs ks (j + 1) :: L) := by
  obtain ⟨h0, h1, h2, hel, cur, hh, hcs, hk, hd⟩ := H.siftA
  refine H.put (w' := w) (c' := Ck.sift e d g c rs ks (j + 1)) .here (chg_refl _ _) ⟨h0, h1, h2, hel, cur, hh, hcs, hk, ?_⟩ h0 fun b hb => ⟨.inl hb, (H.lo b (mem_fps (c := Ck.sift e d g c rs ks j) hb (.head _))).2⟩
  have hlens := sift_lens hel
  have h3 := congrArg (List.drop d.sz) hd
  have h4 := flat_drop ((rs.map (·.1)).drop j) (fun r hr => hlens r (List.mem_of_mem_drop hr)) 1 (by rw [List.length_drop, List.length_map]; omega)
  rw [Nat.one_mul] at h4
  rw [h4, List.drop_drop, List.drop_take, List.drop_drop] at h3
  rw [Nat.add_mul, Nat.one_mul, Nat.sub_add_eq, Nat.sub_mul _ 1, Nat.one_mul]
  exact h3
/-- All were looked at. -/
theorem Sep.siftEnd (H : Sep n w0 w (Ck.sift e d g c rs ks j :: L)) (hs : ks.Sublist rs) : ∃ fp', Sep n w0 w (Ck.own (Kd.slice e d) fp' [.slice (some ⟨g, 0, none⟩) ks.length c] (ks.map (·.2.2)) :: L) := by
  obtain ⟨h0, h1, h2, hel, cur, hh, hcs, hk, _⟩ := H.siftA
  have hfs : ((ks.map (·.2.1)).flatten).Sublist ((rs.map (·.2.1)).flatten) := sub_flat (hs.map _)
  have hnd : (g :: (ks.map (·.2.1)).flatten).Nodup := h0.sublist (List.Sublist.cons_cons g hfs)
  have hlens := sift_lens hel
  refine ⟨g :: (ks.map (·.2.1)).flatten, H.put (w' := w) (c' := Ck.own (Kd.slice e d) (g :: (ks.map fun r : List Value × List Nat × α => r.2.1).flatten) [.slice (some ⟨g, 0, none⟩) ks.length c] (ks.map fun r : List Value × List Nat × α => r.2.2)) .here (chg_refl _ _) ?_ hnd fun b hb => ?_⟩
  · refine RowOw.of ks ⟨?_, .inr ⟨g, c, cur, rfl, Nat.zero_le _, hh, by have := hs.length_le; omega, h2, hcs, hk⟩⟩ (fun r hr => hel r (hs.subset hr)) rfl hnd
    have h3 := flat_len (ks.map (·.1)) fun r hr => hlens r ((hs.map _).subset hr)
    rw [List.length_map] at h3; exact h3
  · have hb : b ∈ g :: (ks.map (·.2.1)).flatten := hb
    have hm : b ∈ g :: (rs.map (·.2.1)).flatten := by
      rcases List.mem_cons.1 hb with rfl | hb
      · exact List.mem_cons_self ..
      · exact List.mem_cons_of_mem _ (hfs.subset hb)
    exact ⟨.inl hm, (H.lo b (mem_fps (c := Ck.sift e d g c rs ks j) hm (.head _))).2⟩
end

section
variable {P : Program} {n : Nat} {w0 w : World} {L : List Ck} {K : Value → World → Prop} {tg : Tg K} {α : Type} {d : Kd α} {e : TypeId} {g c : Nat} {rs ks : List (List Value × List Nat × α)} {j : Nat}
/-- The j-th, stored behind what is kept. -/
theorem x_siftPut {sz : Nat} {z : Array Value} {tg : Tg K} (HS : StT P e sz z) (hd : d.sz = sz) (H : Sep n w0 w (Ck.sift e d g c rs ks j :: L)) (hj : j < rs.length) (hk : ks.length ≤ j)
    (h : ∀ w', Sep n w0 w' (Ck.sift e d g c rs (ks ++ [rs[j]]) (j + 1) :: L) → K undef w') : VU P K tg (Instr.storeAt e (.pointer (some ⟨g, ks.length * sz, none⟩)) (.agg (rs[j].1).toArray)) w := by
  subst hd
  obtain ⟨h0, h1, h2, hel, cur, hh, hcs, hkk, hdd⟩ := H.siftA
  obtain ⟨fs, hu⟩ := HS.un
  obtain ⟨inf, hi, hs, _⟩ := HS.inf
  have hes : (rs[j].1).length = d.sz := d.own_len (hel _ (List.getElem_mem hj))
  have hone : ∀ v ∈ rs[j].1, v.oneCell' = true := Kd.one d (H.siftEl (List.getElem_mem hj))
  have hb : (j + 1) * d.sz ≤ c * d.sz := Nat.mul_le_mul_right _ (by omega)
  have hb2 : ks.length * d.sz ≤ j * d.sz := Nat.mul_le_mul_right _ hk
  rw [Nat.add_mul, Nat.one_mul] at hb
  have hst := run_storeCells_at P g (ks.length * d.sz) e (rs[j].1) 0 cur w hh (by simp only [Nat.add_zero]; omega) hone
  simp only [Nat.add_zero] at hst
  unfold VU
  refine vU_run (u := ()) (w' := w.setRow g (cur.toList.take (ks.length * d.sz) ++ rs[j].1 ++ cur.toList.drop (ks.length * d.sz + (rs[j].1).length)).toArray) ?_ (h _ ?_)
  · simp [Instr.storeAt, Instr.sureAddr, storeVar, Value.cells, run_sizeOf' hi hs, hes]
    rw [hst, hes, List.append_assoc]
  have hgn : ∀ r ∈ rs, ∀ b ∈ r.2.1, b ≠ g := fun r hr b hb e => by
    subst e
    exact (List.nodup_cons.1 h0).1 (List.mem_flatten_of_mem (List.mem_map.2 ⟨r, hr, rfl⟩) hb)
  have hskip : (cur.toList.drop ((j + 1) * d.sz)).take ((rs.length - (j + 1)) * d.sz) = ((rs.map (·.1)).drop (j + 1)).flatten := by
    obtain ⟨_, _, _, _, cur', hh', _, _, h5⟩ := (H.siftSkip hj).siftA
    rw [hh] at hh'
    cases hh'
    exact h5
  refine H.put (w' := w.setRow g _) (c' := Ck.sift e d g c rs (ks ++ [rs[j]]) (j + 1)) .here ⟨rfl, rfl, rfl, by simp [World.setRow], fun k _ hn => setRow_other w g k _ (fun q => hn (by rw [q, sift_fp]; exact List.mem_cons_self ..))⟩
    ⟨h0, h1, h2, fun r hr => d.own_mono (hel r hr) fun b hb => setRow_other w g b _ (hgn r hr b hb), _, setRow_heap w g cur _ e _ hh, ?_, ?_, ?_⟩ h0 fun b hb => ⟨.inl hb, ?_⟩
  · simp only [List.size_toArray, List.length_append, List.length_take, List.length_drop, Array.length_toList]
    omega
  · rw [List.length_append, List.length_cons, List.length_nil, Nat.add_mul, Nat.zero_add, Nat.one_mul, List.map_append, List.flatten_append, ← hkk]
    have e1 : (cur.toList.take (ks.length * d.sz) ++ rs[j].1).length = ks.length * d.sz + d.sz := by
      have e9 : cur.toList.length = cur.size := Array.length_toList
      rw [List.length_append, List.length_take, e9, hes]; omega
    have e2 : (cur.toList.take (ks.length * d.sz) ++ rs[j].1 ++ cur.toList.drop (ks.length * d.sz + (rs[j].1).length)).toArray.toList = cur.toList.take (ks.length * d.sz) ++ rs[j].1 ++ cur.toList.drop (ks.length * d.sz + (rs[j].1).length) := rfl
    rw [e2, List.take_append_of_le_length (by omega), List.take_of_length_le (by omega)]
    simp
  · have e2 : (cur.toList.take (ks.length * d.sz) ++ rs[j].1 ++ cur.toList.drop (ks.length * d.sz + (rs[j].1).length)).toArray.toList = cur.toList.take (ks.length * d.sz) ++ rs[j].1 ++ cur.toList.drop (ks.length * d.sz + (rs[j].1).length) := rfl
    have e1 : (cur.toList.take (ks.length * d.sz) ++ rs[j].1).length = ks.length * d.sz + d.sz := by
      have e9 : cur.toList.length = cur.size := Array.length_toList
      rw [List.length_append, List.length_take, e9, hes]; omega
    rw [e2, List.drop_append, e1, List.drop_of_length_le (by rw [e1, Nat.add_mul]; omega), List.nil_append, List.drop_drop, hes, ← hskip]
    congr 2
    rw [Nat.add_mul]; omega
  · have := (H.lo b (mem_fps (c := Ck.sift e d g c rs ks j) hb (.head _))).2
    simpa [World.setRow] using this
end
end Go.Proofs.YtdljbekkckfmnaaGreat.V
