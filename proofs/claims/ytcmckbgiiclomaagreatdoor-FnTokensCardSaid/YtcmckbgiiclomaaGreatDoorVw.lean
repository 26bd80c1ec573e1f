/- Bytes joined: a new row without zeros, its parts copied, made owned; lists of what is read. -/
import Derived.Test.YtcmckbgiiclomaaGreatDoorVt
import Derived.Lib.MakeNoZero
import Derived.Laws.CopyRow
import Derived.Laws.IdiomCopy
namespace Go.Proofs.YtcmckbgiiclomaaGreatDoor.V
open Go Go.RowKit
set_option linter.unusedVariables false
set_option linter.unusedSimpArgs false

theorem w64_add {a b c : Nat} (h : c = a + b) (hc : c ≤ 4611686018427387904) : w64 ((a : Int) + (b : Int)) = (c : Int) := by subst h; unfold w64; omega
theorem w64_succ {a b : Nat} (h : a < b) (hb : b ≤ 9223372036854775807) : w64 ((a : Int) + 1) = ((a + 1 : Nat) : Int) := by unfold w64; omega
theorem ite_off {a n m c : Nat} (h1 : m + a ≤ n) (h2 : n ≤ c) : (if n = m then 0 else m) + a ≤ c := by split <;> omega
theorem fl_take_le {α : Type} (l : List (List α)) (i : Nat) : (l.take i).flatten.length ≤ l.flatten.length := by
  conv => rhs; rw [← List.take_append_drop i l, List.flatten_append, List.length_append]
  omega
theorem fl_take_succ {α : Type} (l : List (List α)) (i : Nat) (h : i < l.length) : (l.take (i + 1)).flatten = (l.take i).flatten ++ l[i] := by
  rw [List.take_succ_eq_append_getElem h, List.flatten_append]; simp
theorem fl_one {α : Type} (l : List (List α)) (h : l.length = 1) : ∃ a, l = [a] := by
  match l, h with
  | [a], _ => exact ⟨a, rfl⟩
/-- What one more part copied comes to. -/
theorem join_cur {cur : List Value} {pre a : List UInt8} {n : Nat} (h : cur.take pre.length = pre.map encB) (hn : pre.length + a.length ≤ n) (hc : n ≤ cur.length) :
    (cur.take (if n = pre.length then 0 else pre.length) ++ a.map encB ++ cur.drop ((if n = pre.length then 0 else pre.length) + a.length)).length = cur.length ∧
    (cur.take (if n = pre.length then 0 else pre.length) ++ a.map encB ++ cur.drop ((if n = pre.length then 0 else pre.length) + a.length)).take (pre ++ a).length = (pre ++ a).map encB := by
  by_cases hz : n = pre.length
  · have ha : a = [] := List.eq_nil_of_length_eq_zero (by omega)
    subst ha
    rw [if_pos hz]
    simp only [List.map_nil, List.append_nil, List.length_nil, Nat.add_zero, List.take_zero, List.nil_append, List.drop_zero]
    exact ⟨trivial, h⟩
  · rw [if_neg hz]
    have q5 : (cur.take pre.length ++ a.map encB).length = (pre ++ a).length := by
      rw [List.length_append, List.length_take, List.length_map, List.length_append, Nat.min_eq_left (by omega)]
    constructor
    · rw [List.length_append, q5, List.length_drop, List.length_append]; omega
    · rw [List.take_append_of_le_length (Nat.le_of_eq q5.symm), List.take_of_length_le (Nat.le_of_eq q5), h, List.map_append]
structure JoinF (l : List (List UInt8)) (k : Nat) (hk : k + 1 < l.length) (c : Nat) : Prop where
  le : (l.take (k + 1)).flatten.length ≤ l.flatten.length
  more : (l.take (k + 1 + 1)).flatten.length = (l.take (k + 1)).flatten.length + l[k + 1].length
  sum : (l.take (k + 1)).flatten.length + l[k + 1].length ≤ l.flatten.length
  sub : l[k + 1].length ≤ l.flatten.length - (l.take (k + 1)).flatten.length
  off : (if l.flatten.length = (l.take (k + 1)).flatten.length then 0 else (l.take (k + 1)).flatten.length) + l[k + 1].length ≤ c
  off0 : (if l.flatten.length = (l.take (k + 1)).flatten.length then 0 else (l.take (k + 1)).flatten.length) + ([] : List UInt8).length ≤ c
  add : w64 (((l.take (k + 1)).flatten.length : Int) + (l[k + 1].length : Int)) = ((l.take (k + 1 + 1)).flatten.length : Int)
  add0 : w64 (((l.take (k + 1)).flatten.length : Int) + (([] : List UInt8).length : Int)) = ((l.take (k + 1)).flatten.length : Int)
  succ : w64 ((k : Int) + 1) = ((k + 1 : Nat) : Int)
  less : (l.drop 1).length - (k + 1) < (l.drop 1).length - k
theorem joinF {l : List (List UInt8)} {k c : Nat} (hk : k + 1 < l.length) (hl : l.flatten.length ≤ 1099511627776) (hlm : l.length ≤ 9223372036854775807) (hc : l.flatten.length ≤ c) : JoinF l k hk c := by
  have z1 := fl_take_succ l (k + 1) hk
  have z2 := fl_take_le l (k + 1 + 1)
  have z3 : (l.take (k + 1 + 1)).flatten.length = (l.take (k + 1)).flatten.length + l[k + 1].length := by rw [z1, List.length_append]
  have zle := fl_take_le l (k + 1)
  have zs : (l.take (k + 1)).flatten.length + l[k + 1].length ≤ l.flatten.length := by rw [← z3]; exact z2
  refine ⟨zle, z3, zs, Nat.le_sub_of_add_le' zs, ite_off zs hc, ite_off (by simpa using zle) hc, w64_add z3 (by omega), ?_, w64_succ (Nat.lt_of_succ_lt hk) hlm, by rw [List.length_drop]; omega⟩
  simp only [List.length_nil, Int.natCast_zero, Int.add_zero]
  exact w64_id (by omega) (by omega)

section
variable {P : Program} {n : Nat} {w0 w : World} {L : List Ck} {K : Value → World → Prop} {tg : Tg K} {α : Type} {d : Kd α}

theorem x_mkNZ (H : Sep n w0 w L) {t e : TypeId} (hu : P.underlying t = some (.slice e)) {ps : Array TypeId} {m : Nat} (hm : m ≤ 281474976710656)
    (h : ∀ g cs w', m ≤ cs.length → Sep n w0 w' (Ck.box g cs e :: L) → K (.slice (some ⟨g, 0, none⟩) m cs.length) w') : VS P K tg (Extern.BytealgMakeNoZero.makeNoZero ps #[t] #[.int .i64 (m : Int)]) w := by
  obtain ⟨cs, hr, h1, h2⟩ := Go.Lib.run_makeNoZero (P := P) w ps t e hu m hm
  have H1 := (H.go ((Below.refl _ w).drew)).go ((Below.refl _ w.drew).drew)
  have H2 := H1.fresh cs.toList e
  refine vS_run hr ?_
  have := h w.drew.drew.heap.size cs.toList (w.drew.drew.alloc (.cells cs.toList.toArray e)) (by simpa using h1) H2
  simpa using this
/-- v[:m:m] of a new row. -/
theorem x_hm {t e sz by_ : Nat} {z : Value} (HS : SlT P t e sz by_ z) {g m c : Nat} {k k' : IntKind} (hm : m ≤ c) (h : K (.slice (some ⟨g, 0, none⟩) m m) w) : VS P K tg (Instr.sliceAt t (.slice (some ⟨g, 0, none⟩) m c) none (some (.int k (m : Int))) (some (.int k' (m : Int)))) w := by
  obtain ⟨i, hi', hs, _⟩ := HS.inf
  have he := elem_of HS.un
  have hu : P.underlying t = some (.slice (P.elem t)) := by rw [he]; exact HS.un
  have hsz : (sizeOf (P.elem t)).run P w = .ok sz w := by rw [he]; exact run_sizeOf' hi' hs
  refine vS_run (v := .slice (some ⟨g, 0, none⟩) m m) ?_ h
  rw [run_sliceAt_slice w t _ _ _ _ hu, run_slice_hm w t (some ⟨g, 0, none⟩) m c hu k k' m m (by omega) (by omega) (by omega), hsz]
  simp [sliced, Addr.add]
/-- v[o:] of a row. -/
theorem x_offB {t e sz by_ : Nat} {z : Value} (HS : SlT P t e sz by_ z) (h1 : sz = 1) {g m o : Nat} {k : IntKind} (hm : o ≤ m) (h : K (.slice (some ⟨g, if m = o then 0 else o, none⟩) (m - o) (m - o)) w) : VS P K tg (Instr.sliceAt t (.slice (some ⟨g, 0, none⟩) m m) (some (.int k (o : Int))) none none) w := by
  obtain ⟨i, hi', hs, _⟩ := HS.inf
  have he := elem_of HS.un
  have hu : P.underlying t = some (.slice (P.elem t)) := by rw [he]; exact HS.un
  have hsz : (sizeOf (P.elem t)).run P w = .ok sz w := by rw [he]; exact run_sizeOf' hi' hs
  refine vS_run (v := .slice (some ⟨g, if m = o then 0 else o, none⟩) (m - o) (m - o)) ?_ h
  rw [run_sliceAt_slice w t _ _ _ _ hu, run_slice_l w t (some ⟨g, 0, none⟩) m m hu k o (by omega) (by omega), hsz]
  subst h1
  by_cases e : m = o
  · simp [sliced, e]
  · simp [sliced, e, Kd.add_plain]
/-- Bytes copied into a row that lies open. -/
theorem x_cpB (H : Sep n w0 w L) {t e by_ : Nat} {z : Value} (HS : SlT P t e 1 by_ z) {ty te : TypeId} {g o dl dc : Nat} {cur : List Value} {v : Value} {a : List UInt8} {F : Ck → List Ck} (hr : (bytes e).rd w w.heap.size [v] a) (hd : a.length ≤ dl) (ho : o + a.length ≤ cur.length)
    (h : ∀ w', Sep n w0 w' (F (Ck.box g (cur.take o ++ a.map encB ++ cur.drop (o + a.length)) te)) → K (.int .i64 (a.length : Int)) w') (hm : Hole (Ck.box g cur te) L F := by repeat (first | exact Hole.here | apply Hole.there)) :
    Builtin' P K tg .copy #[t, t] ty [.slice (some ⟨g, o, none⟩) dl dc, v] w := by
  obtain ⟨i, hi, hs, _⟩ := HS.inf
  have hsz : (P.info? e).map (·.size) = some 1 := by rw [hi]; simp [hs]
  obtain ⟨A, c, rfl, _, _, ha⟩ := sl_open hr
  obtain ⟨_, ha⟩ := pl_u8.slRd.1 ha
  have hb : w.heap[g]? = some (.cells cur.toArray te (0, 0)) := H.ok _ hm.mem
  show vS P (Builtin.copy_ #[t, t] ty #[.slice (some ⟨g, o, none⟩) dl dc, .slice A a.length c]) w K
  cases A with
  | none =>
    have hz : a = [] := by
      cases a with
      | nil => rfl
      | cons b a => have := (ha 0 (by simp)).1; cases this
    subst hz
    refine vS_run (run_copy_none (P := P) w t t ty e (some ⟨g, o, none⟩) none dl dc 0 c HS.un hsz (by simp)) ?_
    have h1 := h w ?_
    · simpa [goInt] using h1
    · have e1 : cur.take o ++ ([] : List UInt8).map encB ++ cur.drop (o + ([] : List UInt8).length) = cur := by simp
      rw [e1]
      obtain ⟨L1, L2, e2, e3⟩ := hm.split
      rw [e3, ← e2]; exact H
  | some ad =>
    refine vS_run (run_copy_row (P := P) w t t ty e g o dl dc ad a.length c cur.toArray te (a.map encB) HS.un hsz hb (by rw [List.length_map]; exact (Nat.min_eq_left hd).symm) (fun j u hj => ?_) (by simpa using ho) (fun u hu => by obtain ⟨y, _, rfl⟩ := List.mem_map.1 hu; rfl)) ?_
    · obtain ⟨h3, h4⟩ := List.getElem?_eq_some_iff.1 hj
      have := (ha j (by simpa using h3)).2.2
      rw [adA_some] at this
      rw [this, ← h4]; simp
    · have h1 := h _ (H.put hm (c' := Ck.box g (cur.take o ++ a.map encB ++ cur.drop (o + a.length)) te) (w' := w.setRow g ((cur.take o ++ a.map encB ++ cur.drop (o + a.length)).toArray)) ⟨rfl, rfl, rfl, by simp [World.setRow], fun k _ hk => setRow_other w g k _ (fun e => hk (by simp [Ck.box, e]))⟩ (setRow_heap w g _ _ te _ hb) (by simp [Ck.box]) (fun b hb' => ?_))
      · simpa [goInt] using h1
      · simp only [Ck.box, List.mem_singleton] at hb' ⊢
        refine ⟨.inl hb', ?_⟩
        have := H.lt hm.mem
        simp [World.setRow]; omega
/-- A row that lies open, full: owned bytes. -/
theorem Sep.full {g : Nat} {cur : List Value} {e : TypeId} {a : List UInt8} (H : Sep n w0 w (Ck.box g cur e :: L)) (hl : a.length ≤ cur.length) (hm : a.length ≤ 9223372036854775807) (ht : cur.take a.length = a.map encB) : Sep n w0 w (Ck.own (bytes e) [g] [.slice (some ⟨g, 0, none⟩) a.length a.length] a :: L) := by
  refine H.swapTo (by simp only [fps, Ck.own_fp, Ck.box]; exact List.Perm.refl _) fun c hc => ?_
  rcases List.mem_cons.1 hc with rfl | hc
  · refine pl_u8.slOw.2 ⟨fun _ _ => trivial, ⟨by simp, .inr ⟨g, a.length, cur.toArray, rfl, Nat.zero_le _, H.ok _ (.head _), Nat.le_refl _, by simpa [maxLen] using hm, by simpa using hl, ?_⟩⟩, rfl⟩
    simpa using ht
  · exact H.ok _ (.tail _ hc)

/-- Values that read as the elements of a list. -/
def rdAll (d : Kd α) (w : World) (m : Nat) : List Value → List α → Prop
  | [], [] => True
  | u :: us, x :: l => d.rd w m [u] x ∧ rdAll d w m us l
  | _, _ => False
theorem rdAll_len {m : Nat} : ∀ {us : List Value} {l : List α}, rdAll d w m us l → us.length = l.length
  | [], [], _ => rfl
  | _ :: us, _ :: l, h => congrArg (· + 1) (rdAll_len h.2)
  | [], _ :: _, h => h.elim
  | _ :: _, [], h => h.elim
theorem rdAll_get {m : Nat} : ∀ {us : List Value} {l : List α} (h : rdAll d w m us l) (i : Nat) (hi : i < l.length), d.rd w m [us[i]'(by rw [rdAll_len h]; exact hi)] l[i]
  | _ :: us, _ :: l, h, 0, _ => h.1
  | _ :: us, _ :: l, h, i + 1, hi => rdAll_get h.2 i (by simpa using hi)
  | [], [], _, i, hi => by simp at hi
  | [], _ :: _, h, _, _ => h.elim
  | _ :: _, [], h, _, _ => h.elim
theorem rdAll_one {m : Nat} : ∀ {us : List Value} {l : List α}, rdAll d w m us l → ∀ u ∈ us, u.oneCell' = true
  | _ :: us, _ :: l, h, u, hu => by
    rcases List.mem_cons.1 hu with rfl | hu
    · exact d.one h.1 u (by simp)
    · exact rdAll_one h.2 u hu
  | [], _, _, u, hu => by simp at hu
/-- A list of values of one cell that are read. -/
theorem x_lstR (H : Sep n w0 w L) {t e by_ : Nat} {z : Value} (HS : SlT P t e 1 by_ z) (hd : d.sz = 1) {m : Nat} {ps : Array (Nat × Value)} (us : List Value) (l : List α) (hr : rdAll d w w.heap.size us l)
    (h : ∀ g w', Sep n w0 w' (Ck.box g us e :: L) → (Kd.slice e d).rd w' w'.heap.size [.slice (some ⟨g, 0, none⟩) m m] l → K (.slice (some ⟨g, 0, none⟩) m m) w') (hm : us.length = m := by rfl)
    (hps : ps.toList = enumV 0 us := by rfl) (hpos : m ≠ 0 := by decide) (hml : m ≤ 16777216 := by decide) : VS P K tg (Instr.buildSlice t m ps) w := by
  obtain ⟨i, hi, hs, _, hz⟩ := HS.inf
  subst hm
  have hlen := rdAll_len hr
  have hf := fill_enum us 0 ((Array.range us.length).map (z.cells[· % z.cells.size]!)) (rdAll_one hr) (by simp)
  rw [← hps] at hf
  simp only [List.take_zero, List.nil_append] at hf
  unfold VS
  refine vS_run (v := .slice (some ⟨w.heap.size, 0, none⟩) us.length us.length) (w' := w.alloc (.cells us.toArray e)) ?_ (h _ _ (H.fresh us e) ?_)
  · have hg : ¬ (16777216 < us.length) := by omega
    simp [Instr.buildSlice, run_underlying' HS.un, run_sizeOf' hi hs, hg, hpos, run_zeroValue' hi hz, hf, newRow]
  · have hb : Below w.heap.size w (w.alloc (.cells us.toArray e)) := Below.alloc (Below.refl _ _) (Nat.le_refl _) _
    refine ⟨some ⟨w.heap.size, 0, none⟩, us.length, by rw [hlen], by omega, by simp only [maxLen]; omega, fun j hj => ⟨rfl, ?_, [us[j]'(by omega)], ?_, fun q hq => ?_⟩⟩
    · rw [adA_some]; simp
    · exact d.le (d.mono (rdAll_get hr j hj) hb) hb.size
    · obtain rfl : q = 0 := by rw [hd] at hq; omega
      rw [adA_some, hd, Nat.mul_one, Nat.add_zero, Kd.add_plain]
      have hnew : (w.alloc (.cells us.toArray e)).heap[w.heap.size]? = some (.cells us.toArray e (0, 0)) := heap_alloc_new w _
      rw [Kd.cell_blk hnew]
      simp [List.getElem?_eq_getElem (show j < us.length by omega)]
end
end Go.Proofs.YtcmckbgiiclomaaGreatDoor.V
