/- Structs built, slices held against nil, appends of owned elements, lists of what is read. -/
import Derived.Test.YtcmckbgiiclomaaGreatDoorVr
import Derived.Laws.Tables
namespace Go.Proofs.YtcmckbgiiclomaaGreatDoor.V
open Go Go.RowKit
set_option linter.unusedVariables false

section
variable {P : Program} {n : Nat} {w0 w : World} {L M : List Ck} {K : Value → World → Prop} {tg : Tg K} {α : Type} {d : Kd α}

theorem x_build {t : TypeId} {ps : Array (Nat × Value)} {places : Array (Nat × Nat)} {zero : Array Value} (hb : ∀ ps, P.built t ps = Instr.fill (places[·]?) zero ps) (cs : List Value) (h : K (.agg cs.toArray) w) (hf : Instr.fill (places[·]?) zero ps.toList = some cs.toArray := by rfl) :
    VS P K tg (Instr.build t ps) w := vS_run (run_build w t ps _ ((hb _).trans hf)) h
theorem run_nil {t e : TypeId} {x y : Operand} (hu : P.underlying t = some (.slice e)) {A : Option Addr} {m c : Nat} :
    (do eqGuard .eql t x y (.slice A m c) (.slice none 0 0); binOp .eql t (.slice A m c) (.slice none 0 0) : Sem Value).run P w = .ok (.bool A.isNone) w ∧
    (do eqGuard .neq t x y (.slice A m c) (.slice none 0 0); binOp .neq t (.slice A m c) (.slice none 0 0) : Sem Value).run P w = .ok (.bool (!A.isNone)) w := by
  have hd : ∃ k, Op.maxDepth = k + 1 := ⟨_, rfl⟩
  obtain ⟨k, hk⟩ := hd
  refine ⟨?_, ?_⟩ <;> cases A <;> simp [eqGuard, binOp, Op.equal, hk, Op.equalIn, run_underlying' hu]
theorem x_nil {t e : TypeId} {x y : Operand} (hu : P.underlying t = some (.slice e)) {A : Option Addr} {m c : Nat} (h : K (.bool A.isNone) w) : Bin P K tg .eql t x y (.slice A m c) (.slice none 0 0) w := by unfold Bin; exact vS_run (run_nil hu).1 h
theorem x_nnil {t e : TypeId} {x y : Operand} (hu : P.underlying t = some (.slice e)) {A : Option Addr} {m c : Nat} (h : K (.bool (!A.isNone)) w) : Bin P K tg .neq t x y (.slice A m c) (.slice none 0 0) w := by unfold Bin; exact vS_run (run_nil hu).2 h
theorem sl_none {m : Nat} {l : List α} (h : Kd.sliceRd d w m none l) : l = [] := by
  cases l with
  | nil => rfl
  | cons x l => have := (h 0 (by simp)).1; cases this

/-- An append of owned elements: they are the list's from then on; what is kept. -/
theorem x_appOC {t ty e sz by_ : Nat} {z : Value} (HS : SlT P t e sz by_ z) {fp fp2 : List Nat} {v v2 : Value} {l l2 : List α} (H : Sep n w0 w (Ck.own (Kd.slice e d) fp2 [v2] l2 :: Ck.own (Kd.slice e d) fp [v] l :: M)) (hd : d.sz = sz) (hb : (l.length + l2.length) * by_ ≤ 140737488355328) (hn : l.length + l2.length ≤ 9223372036854775807)
    (h : ∀ fp' v' w', Sep n w0 w' (Ck.own (Kd.slice e d) fp' [v'] (l ++ l2) :: M) → Chg fp w w' → K v' w') : Builtin' P K tg .append #[t, t] ty [v, v2] w := by
  obtain ⟨_, rows2, fs2, hv2, hr2⟩ := (show (Kd.slice e d).ow w fp2 [v2] l2 from H.ok _ (.head _))
  obtain ⟨_, rows, fs, hv, hr⟩ := (show (Kd.slice e d).ow w fp [v] l from H.ok _ (.tail _ (.head _)))
  simp only [List.cons.injEq, and_true] at hv hv2
  subst hv hv2
  have hrow := hr.row
  rw [hd] at hrow
  have hnd := H.nd
  simp only [fps, Ck.own_fp] at hnd
  obtain ⟨n1, n2, n3⟩ := List.nodup_append.1 hnd
  obtain ⟨n4, n5, n6⟩ := List.nodup_append.1 n2
  obtain ⟨p1, p2⟩ := ow_nodup_parts hr
  obtain ⟨q1, q2⟩ := ow_nodup_parts hr2
  have hsub2 : ∀ b ∈ fs2.flatten, b ∈ fp2 := fun b hb => by rw [hr2.hfp]; exact List.mem_append_right _ hb
  have hsub : ∀ b ∈ fs.flatten, b ∈ fp := fun b hb => by rw [hr.hfp]; exact List.mem_append_right _ hb
  -- what is appended
  have hcells : ∃ A c, v2 = .slice A l2.length c ∧ (A = none → l2.length = 0) ∧ ∀ j u, rows2.flatten[j]? = some u → w.cell? ((adA A).add j) = some u := by
    rcases hr2.row.2 with ⟨h1, h2⟩ | ⟨g, cap, cur, h1, _, hh, hc, hm, hs, ht⟩
    · refine ⟨none, 0, by rw [h1, h2], fun _ => h2, fun j u hj => ?_⟩
      have := hr2.row.1
      rw [h2, Nat.zero_mul] at this
      rw [List.eq_nil_of_length_eq_zero this] at hj
      simp at hj
    · refine ⟨_, cap, h1, (fun h => by cases h), fun j u hj => ?_⟩
      rw [adA_some, Kd.add_plain, Kd.cell_blk hh]
      rw [← ht, List.getElem?_take] at hj
      split at hj
      · simpa using hj
      · cases hj
  obtain ⟨A2, c2, rfl, hA2, hnews⟩ := hcells
  have h1 : ∀ u ∈ rows2.flatten, u.oneCell' = true := fun u hu => by
    obtain ⟨r, hrm, hu⟩ := List.mem_flatten.1 hu
    obtain ⟨i, hi, rfl⟩ := List.getElem_of_mem hrm
    exact d.one (d.own_rd (n := w.heap.size) (hr2.el i (by rw [← hr2.lr]; exact hi)) (fun b hb => (H.lo b (List.mem_append_left _ (hr2.sub i (by rw [hr2.lf, ← hr2.lr]; exact hi) b hb))).2)) u hu
  have hl2 := hr2.row.1
  rw [hd] at hl2
  obtain ⟨v', w', hrun, ho', hg, hv', _⟩ := app_raw HS (ty := ty) hrow (A := A2) (m := l2.length) (c := c2) (news := rows2.flatten) hl2 hA2 hnews h1 hn hb
  have hchg : Chg v.ownBlock.toList w w' := grown_chg hg
  have hvfp : ∀ b ∈ v.ownBlock.toList, b ∈ fp := fun b hb => by rw [hr.hfp]; exact List.mem_append_left _ hb
  have hkeep : ∀ b, b ∈ fs.flatten ∨ b ∈ fs2.flatten ∨ b ∈ fps M → w'.heap[b]? = w.heap[b]? := fun b hb => by
    refine hchg.block b ?_ ?_
    · rcases hb with hb | hb | hb
      · exact (H.lo b (List.mem_append_right _ (List.mem_append_left _ (hsub b hb)))).2
      · exact (H.lo b (List.mem_append_left _ (hsub2 b hb))).2
      · exact (H.lo b (List.mem_append_right _ (List.mem_append_right _ hb))).2
    · intro hm
      rcases hb with hb | hb | hb
      · exact p2 b (by simpa using hm) hb
      · exact n3 b (hsub2 b hb) b (List.mem_append_left _ (hvfp b hm)) rfl
      · exact n6 b (hvfp b hm) b hb rfl
  have hv'b : ∀ b ∈ v'.ownBlock.toList, (b ∈ v.ownBlock.toList ∨ w.heap.size ≤ b) ∧ b < w'.heap.size := fun b hb => by
    refine ⟨?_, ownB_lt ho' b hb⟩
    rcases hv' with h2 | h2
    · left; rw [← h2]; exact hb
    · right; exact h2 b (by simpa using hb)
  refine vS_run hrun (h (v'.ownBlock.toList ++ (fs ++ fs2).flatten) v' w' ?_ ⟨hchg.os, hchg.tape, hchg.output, hchg.size, fun k hk hn => hchg.block k hk fun hm => hn (hvfp k hm)⟩)
  have hnew : ∀ b ∈ v'.ownBlock.toList, ∀ c, c ∈ fs.flatten ∨ c ∈ fs2.flatten ∨ c ∈ fps M → b ≠ c := fun b hb c hc e => by
    subst e
    rcases (hv'b b hb).1 with h2 | h2
    · rcases hc with hc | hc | hc
      · exact p2 b (by simpa using h2) hc
      · exact n3 b (hsub2 b hc) b (List.mem_append_left _ (hvfp b h2)) rfl
      · exact n6 b (hvfp b h2) b hc rfl
    · have : b < w.heap.size := by
        rcases hc with hc | hc | hc
        · exact (H.lo b (List.mem_append_right _ (List.mem_append_left _ (hsub b hc)))).2
        · exact (H.lo b (List.mem_append_left _ (hsub2 b hc))).2
        · exact (H.lo b (List.mem_append_right _ (List.mem_append_right _ hc))).2
      omega
  have hnd' : (v'.ownBlock.toList ++ (fs ++ fs2).flatten).Nodup := by
    rw [List.flatten_append]
    refine List.nodup_append.2 ⟨ownB_nodup _, List.nodup_append.2 ⟨p1, q1, fun a ha b hb e => ?_⟩, fun a ha b hb => ?_⟩
    · subst e; exact n3 a (hsub2 a hb) a (List.mem_append_left _ (hsub a ha)) rfl
    · rcases List.mem_append.1 hb with hb | hb
      · exact hnew a ha b (.inl hb)
      · exact hnew a ha b (.inr (.inl hb))
  have hge : ∀ b ∈ v.ownBlock.toList, n ≤ b := fun b hb => (H.lo b (List.mem_append_right _ (List.mem_append_left _ (hvfp b hb)))).1
  refine ⟨H.bel.trans (hchg.below hge H.ns), Nat.le_trans H.ns hchg.size, ?_, ?_, ?_⟩
  · simp only [fps, Ck.own_fp]
    refine List.nodup_append.2 ⟨hnd', n5, fun a ha b hb => ?_⟩
    rw [List.flatten_append] at ha
    rcases List.mem_append.1 ha with ha | ha
    · exact hnew a ha b (.inr (.inr hb))
    · rcases List.mem_append.1 ha with ha | ha
      · exact n6 a (hsub a ha) b hb
      · exact n3 a (hsub2 a ha) b (List.mem_append_right _ hb)
  · intro b hb
    simp only [fps, Ck.own_fp] at hb
    rcases List.mem_append.1 hb with hb | hb
    · rw [List.flatten_append] at hb
      rcases List.mem_append.1 hb with hb | hb
      · refine ⟨?_, (hv'b b hb).2⟩
        rcases (hv'b b hb).1 with h2 | h2
        · exact hge b h2
        · exact Nat.le_trans H.ns h2
      · have : n ≤ b ∧ b < w.heap.size := by
          rcases List.mem_append.1 hb with hb | hb
          · exact H.lo b (List.mem_append_right _ (List.mem_append_left _ (hsub b hb)))
          · exact H.lo b (List.mem_append_left _ (hsub2 b hb))
        exact ⟨this.1, Nat.lt_of_lt_of_le this.2 hchg.size⟩
    · have := H.lo b (List.mem_append_right _ (List.mem_append_right _ hb))
      exact ⟨this.1, Nat.lt_of_lt_of_le this.2 hchg.size⟩
  · intro c hc
    rcases List.mem_cons.1 hc with rfl | hc
    · refine ⟨v', rows ++ rows2, fs ++ fs2, rfl, ⟨?_, by simp [hr.lr, hr2.lr], by simp [hr.lf, hr2.lf], fun i hi => ?_, rfl, hnd'⟩⟩
      · rw [hd, List.length_append, List.flatten_append]; exact ho'
      · by_cases hi1 : i < l.length
        · have := hr.el i hi1
          have hlf := hr.lf; have hlr := hr.lr
          simp only [List.getElem_append_left (show i < fs.length by omega), List.getElem_append_left (show i < rows.length by omega), List.getElem_append_left hi1]
          exact d.own_mono this fun b hb => hkeep b (.inl (List.mem_flatten_of_mem (List.getElem_mem _) hb))
        · have hi2 : i - l.length < l2.length := by simp at hi; omega
          have := hr2.el (i - l.length) hi2
          have hlf := hr.lf; have hlr := hr.lr
          rw [List.getElem_append_right (show fs.length ≤ i by omega), List.getElem_append_right (show rows.length ≤ i by omega), List.getElem_append_right (show l.length ≤ i by omega)]
          simp only [hlf, hlr]
          exact d.own_mono this fun b hb => hkeep b (.inr (.inl (List.mem_flatten_of_mem (List.getElem_mem _) hb)))
    · exact c.loc (fun b hb => hkeep b (.inr (.inr (mem_fps hb hc)))) (H.ok _ (.tail _ (.tail _ hc)))

/-- The same. -/
theorem x_appO {t ty e sz by_ : Nat} {z : Value} (HS : SlT P t e sz by_ z) {fp fp2 : List Nat} {v v2 : Value} {l l2 : List α} (H : Sep n w0 w (Ck.own (Kd.slice e d) fp2 [v2] l2 :: Ck.own (Kd.slice e d) fp [v] l :: M)) (hd : d.sz = sz) (hb : (l.length + l2.length) * by_ ≤ 140737488355328) (hn : l.length + l2.length ≤ 9223372036854775807)
    (h : ∀ fp' v' w', Sep n w0 w' (Ck.own (Kd.slice e d) fp' [v'] (l ++ l2) :: M) → K v' w') : Builtin' P K tg .append #[t, t] ty [v, v2] w :=
  x_appOC HS H hd hb hn fun fp' v' w' S _ => h fp' v' w' S

theorem put_list : ∀ (l : List Value) (k : Nat) (cells : Array Value), k + l.length ≤ cells.size → ((l.zipIdx k).foldl (fun cs x => cs.setIfInBounds x.2 x.1) cells).toList = cells.toList.take k ++ l ++ cells.toList.drop (k + l.length)
  | [], k, cells, h => by simp
  | v :: l, k, cells, h => by
    simp only [List.length_cons] at h
    have ih := put_list l (k + 1) (cells.setIfInBounds k v) (by simp; omega)
    simp only [List.zipIdx_cons, List.foldl_cons]
    rw [ih, Array.toList_setIfInBounds, List.take_add_one, List.getElem?_set_self (by simp; omega), List.drop_set_of_lt (by omega), List.take_set_of_le (by omega)]
    simp only [Option.toList_some, List.append_assoc, List.cons_append, List.nil_append, List.length_cons]
    congr 3
    congr 1
    omega
theorem put_arr (es : List Value) (cells : Array Value) (h : es.length = cells.size) : es.toArray.zipIdx.foldl (fun cs x => cs.setIfInBounds x.2 x.1) cells = es.toArray := by
  have h1 := put_list es 0 cells (by omega)
  rw [← Array.foldl_toList, Array.toList_zipIdx]
  apply Array.ext'
  rw [h1]
  simp
  omega
/-- A list of no elements. -/
theorem x_empO (H : Sep n w0 w L) {t e sz by_ : Nat} {z : Value} (HS : SlT P t e sz by_ z) (h : ∀ g w', Sep n w0 w' (Ck.own (Kd.slice e d) [g] [.slice (some ⟨g, 0, none⟩) 0 0] [] :: L) → K (.slice (some ⟨g, 0, none⟩) 0 0) w') : VS P K tg (Instr.buildSlice t 0 #[]) w := by
  obtain ⟨i, hi, hs, _, hz⟩ := HS.inf
  unfold VS
  refine vS_run (v := .slice (some ⟨w.heap.size, 0, none⟩) 0 0) (w' := w.alloc (.cells #[] e)) ?_ (h _ _ (H.add (Below.alloc (Below.refl _ _) (Nat.le_refl _) _) ⟨_, [], [], rfl, ⟨?_, rfl, rfl, fun i hi => absurd hi (by simp), by simp [Value.ownBlock], by simp⟩⟩ (by simp [Ck.own]) (fun b hb => by simp [Ck.own] at hb; subst hb; simp)))
  · have : (Array.range 0) = #[] := rfl
    simp [Instr.buildSlice, run_underlying' HS.un, run_sizeOf' hi hs, Instr.fill, newRow, this]
  · exact owR_of (World.ownsRow_lit (base := 0) w #[] 0 (Nat.zero_le _) (Nat.zero_le _) (by simp))
/-- A list of one owned element. -/
theorem x_lst1 {t e sz by_ : Nat} {z : Value} (HS : SlT P t e sz by_ z) {fe : List Nat} {es : List Value} {u : Value} {x : α} (H : Sep n w0 w (Ck.own d fe es x :: M)) (hu : u.cells = es.toArray) (hd : d.sz = sz)
    (h : ∀ fp v w', Sep n w0 w' (Ck.own (Kd.slice e d) fp [v] [x] :: M) → K v w') (hsz : sz ≤ 16777216 := by decide) : VS P K tg (Instr.buildSlice t 1 #[(0, u)]) w := by
  obtain ⟨i, hi, hs, _, hz⟩ := HS.inf
  have he : d.ow w fe es x := H.ok _ (.head _)
  have hes : es.length = sz := by rw [← hd]; exact d.own_len he
  have hpos := HS.pos
  have hfill : Instr.fill (fun i => some (i * sz, sz)) ((Array.range (1 * sz)).map (z.cells[· % z.cells.size]!)) [(0, u)] = some es.toArray := by
    have h3 := put_arr es ((Array.range (1 * sz)).map (z.cells[· % z.cells.size]!)) (by simp [hes])
    have h4 : (es.toArray.size ≠ sz || 0 * sz + es.toArray.size > ((Array.range (1 * sz)).map (z.cells[· % z.cells.size]!)).size) = false := by simp [hes]
    simp only [Instr.fill, hu]
    rw [if_neg (by rw [h4]; decide)]
    simp only [Nat.zero_mul, Nat.zero_add]
    rw [h3]
  refine vS_run (v := .slice (some ⟨w.heap.size, 0, none⟩) 1 1) (w' := w.alloc (.cells es.toArray e)) ?_ (h (w.heap.size :: fe) _ _ ?_)
  · have hg : ¬ (16777216 < 1 * sz) := by omega
    have hz0 : ¬ sz = 0 := by omega
    simp only [Nat.one_mul] at hfill hg
    simp [Instr.buildSlice, run_underlying' HS.un, run_sizeOf' hi hs, hg, hz0, run_zeroValue' hi hz, hfill, newRow]
  · have hlt : ∀ b ∈ fe, n ≤ b ∧ b < w.heap.size := fun b hb => H.lo b (List.mem_append_left _ hb)
    have hB := Sep.fresh H es e
    refine hB.swapTo (by simp only [fps, Ck.own_fp, Ck.box, List.cons_append, List.nil_append]; exact List.Perm.refl _) fun c hc => ?_
    rcases List.mem_cons.1 hc with rfl | hc
    · refine ⟨_, [es], [fe], rfl, ⟨?_, rfl, rfl, fun i hi => ?_, by simp [Value.ownBlock], ?_⟩⟩
      · have := owR_of <| World.ownsRow_lit (base := 0) (e := e) (size := sz) w es.toArray 1 (Nat.zero_le _) (by simp [maxLen]) (by simp [hes])
        rw [hd]; simpa using this
      · obtain rfl : i = 0 := by simp at hi; omega
        exact hB.ok _ (.tail _ (.head _))
      · have := hB.nd
        simp only [fps, Ck.own_fp, Ck.box, List.cons_append, List.nil_append] at this
        refine List.nodup_cons.2 ⟨fun hm => ?_, d.own_nodup he⟩
        have := hlt _ hm; omega
    · exact hB.ok _ (.tail _ (.tail _ hc))
end

/-! ### regions that draw, from a base on -/
section
variable {P : Program} {n m : Nat} {w0 w1 w w' : World} {L L1 L' : List Ck} {K : Value → Prop}
theorem kept_base (J : Sep m w1 w L) (J' : Sep m w1 w' L') : Kept m [] w w' := ⟨fun _ => J'.ns, fun b hb _ => (J'.bel.block b hb).trans (J.bel.block b hb).symm, fun _ _ h => by cases h⟩
theorem q_ldB {tg : Tg (w1.heap.size, ([] : List (Nat × Nat)), w, K)} (H : Sep n w0 w1 L1) (J : Sep w1.heap.size w1 w L) {g j : Nat} {cs : List Value} {t e : TypeId} {z v : Value} (HS : ScT P e z) (h : K v) (hm : Ck.box g cs t ∈ L1 := by repeat (first | exact List.mem_cons_self | apply List.mem_cons_of_mem)) (hv : cs[j]? = some v := by rfl) :
    QS P w1.heap.size [] w K tg (Instr.loadAt e (.pointer (some ⟨g, j, none⟩))) := qx_load HS ((J.bel.cell (p := ⟨g, j, none⟩) (H.lt hm)).trans ((H.cell hm j).trans hv)) (H.lt hm) (by simp) h
theorem q_ldaB {tg : Tg (w1.heap.size, ([] : List (Nat × Nat)), w, K)} (H : Sep n w0 w1 L1) (J : Sep w1.heap.size w1 w L) {g : Nat} {cs : List Value} {t e : TypeId} {sz : Nat} {z : Array Value} (HS : StT P e sz z) (h : K (.agg cs.toArray)) (hm : Ck.box g cs t ∈ L1 := by repeat (first | exact List.mem_cons_self | apply List.mem_cons_of_mem)) (hl : cs.length = sz := by rfl) :
    QS P w1.heap.size [] w K tg (Instr.loadAt e (.pointer (some ⟨g, 0, none⟩))) := qx_loadAgg HS cs hl (fun j v hj => by rw [Kd.add_at, Nat.zero_add, J.bel.cell (p := ⟨g, j, none⟩) (H.lt hm), H.cell hm]; exact hj) (H.lt hm) (by simp) h
/-- A part of a struct that is one itself. -/
theorem q_ldpB {tg : Tg (w1.heap.size, ([] : List (Nat × Nat)), w, K)} (H : Sep n w0 w1 L1) (J : Sep w1.heap.size w1 w L) {g j : Nat} {cs : List Value} {t e : TypeId} {sz : Nat} {z : Array Value} (vs : List Value) (HS : StT P e sz z) (h : K (.agg vs.toArray)) (hm : Ck.box g cs t ∈ L1 := by repeat (first | exact List.mem_cons_self | apply List.mem_cons_of_mem)) (hl : vs.length = sz := by rfl) (hv : (cs.drop j).take sz = vs := by rfl) :
    QS P w1.heap.size [] w K tg (Instr.loadAt e (.pointer (some ⟨g, j, none⟩))) := qx_loadAgg HS vs hl (fun i v hi => by
      rw [Kd.add_at, J.bel.cell (p := ⟨g, j + i, none⟩) (H.lt hm), H.cell hm, ← hi, ← hv, List.getElem?_take, List.getElem?_drop]
      have : i < sz := by rw [← hl]; exact (List.getElem?_eq_some_iff.1 hi).1
      rw [if_pos this]) (H.lt hm) (by simp) h
theorem q_bld {G : List (Nat × Nat)} {tg : Tg (m, G, w, K)} {t : TypeId} {ps : Array (Nat × Value)} {places : Array (Nat × Nat)} {zero : Array Value} (hb : ∀ ps, P.built t ps = Instr.fill (places[·]?) zero ps) (cs : List Value) (h : K (.agg cs.toArray)) (hf : Instr.fill (places[·]?) zero ps.toList = some cs.toArray := by rfl) :
    QS P m G w K tg (Instr.build t ps) := QS_of (fun w _ => run_build w t ps _ ((hb _).trans hf)) h
/-- Kept, a row being left out but for its first cells. -/
theorem kept_baseG {G : List (Nat × Nat)} (J : Sep m w1 w L) (J' : Sep m w1 w' L') : Kept m G w w' := ⟨fun _ => J'.ns, fun b hb _ => (J'.bel.block b hb).trans (J.bel.block b hb).symm, fun g t _ hg j _ => (J'.bel.cell (p := ⟨g, j, none⟩) hg).trans (J.bel.cell (p := ⟨g, j, none⟩) hg).symm⟩
/-- What was kept, and a change within some blocks. -/
theorem kept_chg {G : List (Nat × Nat)} {w2 : World} {fp : List Nat} (h : Kept m G w w') (hc : Chg fp w' w2) (hfp : ∀ b ∈ fp, (b, 0) ∈ G) (hm : m ≤ w'.heap.size) (h0 : ∀ g t, (g, t) ∈ G → t = 0) : Kept m G w w2 :=
  ⟨fun _ => Nat.le_trans hm hc.size, fun b hb hG => (hc.block b (by omega) (fun hmem => hG 0 (hfp b hmem))).trans (h.2.1 b hb hG), fun g' t' hg hn j hj => by have := h0 g' t' hg; omega⟩
theorem kept_app {g t : Nat} {w2 : World} {fp : List Nat} (h : Kept m [(g, t)] w w') (hc : Chg fp w' w2) (hfp : ∀ b ∈ fp, b = g) (hm : m ≤ w'.heap.size) (hk : ∀ j, j < t → w2.cell? ⟨g, j, none⟩ = w'.cell? ⟨g, j, none⟩) : Kept m [(g, t)] w w2 :=
  ⟨fun _ => Nat.le_trans hm hc.size, fun b hb hG => (hc.block b (by omega) (fun hmem => hG t (by rw [hfp b hmem]; simp))).trans (h.2.1 b hb hG), fun g' t' hg hn j hj => by
    simp only [List.mem_singleton, Prod.mk.injEq] at hg
    obtain ⟨rfl, rfl⟩ := hg
    exact (hk j hj).trans (h.2.2 g' t' (by simp) hn j hj)⟩
end
end Go.Proofs.YtcmckbgiiclomaaGreatDoor.V
