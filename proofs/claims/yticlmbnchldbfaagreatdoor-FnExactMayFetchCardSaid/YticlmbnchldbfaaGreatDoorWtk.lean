/- Texts split at points, numbers read: both sides. -/
import Derived.Test.YticlmbnchldbfaaGreatDoorWq
import Derived.Test.YticlmbnchldbfaaGreatDoorPt
import Derived.Test.YticlmbnchldbfaaGreatDoorVh
import Derived.Shelf.Strings.Split
import Derived.Shelf.Strconv.ErrVarAll
import Derived.Laws.Strings2
namespace Go.Proofs.YticlmbnchldbfaaGreatDoor.V
open Go Go.RowKit
set_option maxRecDepth 100000
set_option maxHeartbeats 4000000
set_option linter.unusedSimpArgs false
set_option linter.unusedVariables false
set_option pp.deepTerms false
set_option pp.deepTerms.threshold 3

/-! ### what the library's variables hold -/
theorem var_below {P : Program} {w w' : World} {name : String} {cs : Array Value} (h : w.var? P name = some cs) (hb : Below w.heap.size w w') : w'.var? P name = some cs := by
  unfold World.var? at *
  cases hg : P.globalNamed name with
  | none => simp [hg] at h
  | some g =>
    simp only [hg, Option.bind_some] at h ⊢
    have hlt : g < w.heap.size := by
      rcases Nat.lt_or_ge g w.heap.size with h' | h'
      · exact h'
      · rw [Array.getElem?_eq_none h'] at h; simp at h
    rw [hb.block g hlt]
    exact h
/-- A limit of the library's is some number. -/
def Lim (w : World) : Prop := ∃ m, w.cell? ⟨Tryz.laysSplit_ren.g 1, 0, none⟩ = some (.int .i64 m)
def Err (w : World) (name : String) : Prop := ∃ tp p, w.var? Tryz.prog name = some #[.iface tp p]
structure Libs (w : World) : Prop where
  tab : Tab w
  lim : Lim w
  syn : Err w "strconv.ErrSyntax"
  rng : Err w "strconv.ErrRange"
theorem Libs.below {w w' : World} (h : Libs w) (hb : Below w.heap.size w w') : Libs w' where
  tab := h.tab.below hb
  lim := by
    obtain ⟨m, hm⟩ := h.lim
    exact ⟨m, by rw [hb.cell (p := ⟨_, 0, none⟩) (World.block_lt_of_cell? _ _ hm)]; exact hm⟩
  syn := by
    obtain ⟨tp, p, h⟩ := h.syn
    exact ⟨tp, p, var_below h hb⟩
  rng := by
    obtain ⟨tp, p, h⟩ := h.rng
    exact ⟨tp, p, var_below h hb⟩

/-! ### lists of texts -/
abbrev strs : Kd (List (List UInt8)) := Kd.slice 9 Kd.str
theorem strs_cells {w : World} {g : Nat} {e : TypeId} {l : List (List UInt8)} (h : w.heap[g]? = some (.cells (l.map fun y => Value.string ⟨y.toArray⟩).toArray e (0, 0))) (hg : g < w.heap.size) (hl : ∀ y ∈ l, y.length ≤ 9223372036854775807) (hn : l.length ≤ maxLen) :
    strs.rd w w.heap.size [.slice (some ⟨g, 0, none⟩) l.length l.length] l :=
  ⟨some ⟨g, 0, none⟩, l.length, rfl, Nat.le_refl _, hn, fun i hi => ⟨rfl, hg, [.string ⟨l[i].toArray⟩], ⟨rfl, hl _ (List.getElem_mem hi)⟩, fun j hj => by
    have hj0 : j = 0 := by have : j < 1 := hj; omega
    subst hj0
    show w.cell? ((⟨g, 0, none⟩ : Addr).add (i * 1 + 0)) = _
    rw [Nat.mul_one, Nat.add_zero, Kd.add_plain]
    unfold World.cell?
    simp [h, hi]⟩⟩
theorem stringsSplit_ok (w : World) (s : List UInt8) (hs : s.length ≤ 1048576) (hl : Lim w) :
    ACalls Tryz.prog 38 #[.string ⟨s.toArray⟩, .string ⟨#[46]⟩] w fun r w' => (∃ v, r = v ∧ strs.rd w' w'.heap.size [v] (splitD s)) ∧ Below w.heap.size w w' := by
  obtain ⟨m, hm⟩ := hl
  have hsz : (⟨s.toArray⟩ : ByteArray).size = s.length := by simp [ByteArray.size]
  refine Calls.mono (Any.strings_Split { Tryz.laysSplit with } Tryz.laysSplit.i9 ⟨s.toArray⟩ ⟨#[46]⟩ m w (by omega) hm (by decide)) fun e w' h => ?_
  obtain ⟨rfl, rfl⟩ := h
  have e1 := splitB_points s
  have e2 : ((Lib.splitB ⟨#[46]⟩ 0 (Lib.countB ⟨s.toArray⟩ ⟨#[46]⟩) ⟨s.toArray⟩).map Value.string) = (splitD s).map fun y => Value.string ⟨y.toArray⟩ := by
    rw [← e1, List.map_map]
    refine List.map_congr_left fun y hy => ?_
    show Value.string y = Value.string ⟨y.data.toList.toArray⟩
    rw [Array.toArray_toList]
  have e3 : Lib.countB ⟨s.toArray⟩ ⟨#[46]⟩ + 1 = (splitD s).length := by
    have := Lib.splitB_all ⟨#[46]⟩ (by decide) 0 _ (⟨s.toArray⟩ : ByteArray) rfl
    rw [← this, ← e1, List.length_map]
  have hlen := splitD_len s
  refine ⟨_, rfl, ⟨_, rfl, ?_⟩, Below.alloc (Below.refl _ _) (Nat.le_refl _) _⟩
  rw [e2, e3]
  refine strs_cells (g := w.heap.size) (e := Tryz.laysSplit_ren.t 9) ?_ ?_ (fun y hy => ?_) (by simp only [maxLen]; omega)
  · show (w.heap.push _)[w.heap.size]? = _
    rw [Array.getElem?_push_size]
  · show w.heap.size < (w.heap.push _).size
    rw [Array.size_push]; omega
  · have := splitD_mem y hy; omega
section
variable {P : Program} {w : World} {K : Value → World → Prop} {tg : Tg K}
/-- A part of a text. -/
theorem x_sslice {t : TypeId} {l : List UInt8} {k k' : IntKind} (i j : Nat) {ii jj : Int} (ht : P.underlying t = some .string) (h0 : i ≤ j) (h1 : j ≤ l.length) (h : K (.string ⟨((l.take j).drop i).toArray⟩) w) (hi : ii = (i : Int)) (hj : jj = (j : Int)) :
    VS P K tg (Instr.sliceAt t (.string ⟨l.toArray⟩) (some (.int k ii)) (some (.int k' jj)) none) w := by
  subst hi hj
  have hsz : (⟨l.toArray⟩ : ByteArray).size = l.length := by simp [ByteArray.size]
  refine vS_run (v := .string ⟨((l.take j).drop i).toArray⟩) ?_ h
  rw [run_sliceAt_string (h := ht)]
  rw [run_slice_string w t ⟨l.toArray⟩ k k' (i : Int) (j : Int) ht (by omega) (by omega) (by omega)]
  rw [Int.toNat_natCast, Int.toNat_natCast, ByteArray.extract_mk, List.drop_take]
end
theorem take_drop_one {s : List UInt8} {i k : Nat} (hk : k < s.length) (hi : i ≤ k) : (s.take (k + 1)).drop i = (s.take k).drop i ++ [s[k]] := by
  rw [List.take_succ_eq_append_getElem hk, List.drop_append_of_le_length (by rw [List.length_take]; omega)]
theorem split_at {s : List UInt8} {k : Nat} (hk : k < s.length) : splitD (s.drop k) = if s[k] = 46 then [] :: splitD (s.drop (k + 1)) else glue [s[k]] (splitD (s.drop (k + 1))) := by
  rw [List.drop_eq_getElem_cons hk]; rfl
theorem sidx_lo {s : List UInt8} {k : Nat} (hk : k < s.length) : s.getD k 0 = s[k] := by rw [List.getD_eq_getElem?_getD, List.getElem?_eq_getElem hk, Option.getD_some]
theorem c46 {c : UInt8} : ((c.toNat : Int) = 46) = (c = 46) := propext ⟨fun h => by
  apply UInt8.toNat_inj.1
  have e : (46 : UInt8).toNat = 46 := rfl
  omega, fun h => by subst h; rfl⟩
theorem w64_s {k n : Nat} (h : k ≤ n) (hn : n ≤ 1048576) : w64 ((k : Int) + 1) = ((k + 1 : Nat) : Int) := by unfold w64; omega
theorem split_take {s : List UInt8} {k fr : Nat} {out : List (List UInt8)} (hgo : out ++ glue ((s.take k).drop fr) (splitD (s.drop k)) = splitD s) (hc : k = s.length ∨ ∃ h : k < s.length, s[k] = 46) :
    (k + 1 ≤ s.length → (out ++ [(s.take k).drop fr]) ++ glue ((s.take (k + 1)).drop (k + 1)) (splitD (s.drop (k + 1))) = splitD s) ∧ (k + 1 = s.length + 1 → out ++ [(s.take k).drop fr] = splitD s) := by
  refine ⟨fun h => ?_, fun h => ?_⟩
  · have hk3 : k < s.length := by omega
    have h46 : s[k] = 46 := by
      rcases hc with hc | ⟨_, hc⟩
      · omega
      · exact hc
    rw [split_at hk3, if_pos h46] at hgo
    have e0 : (s.take (k + 1)).drop (k + 1) = [] := List.drop_eq_nil_of_le (by rw [List.length_take]; omega)
    rw [e0, glue_nil (splitD_ne _), List.append_assoc, ← hgo]
    simp [glue]
  · have hk3 : k = s.length := by omega
    subst hk3
    rw [List.drop_length] at hgo
    rw [← hgo]; simp [splitD, glue]
theorem split_pass {s : List UInt8} {k fr : Nat} {out : List (List UInt8)} (hf : fr ≤ k) (hk : k < s.length) (hgo : out ++ glue ((s.take k).drop fr) (splitD (s.drop k)) = splitD s) (hc : ¬ s[k] = 46) :
    out ++ glue ((s.take (k + 1)).drop fr) (splitD (s.drop (k + 1))) = splitD s := by
  rw [split_at hk, if_neg hc, glue_glue, ← take_drop_one hk hf] at hgo
  exact hgo
theorem sidx46 {s : List UInt8} {k : Nat} (hk : k < s.length) : (((s.getD k 0).toNat : Int) = 46) = (s[k] = 46) := by rw [sidx_lo hk]; exact c46
theorem specSplit_ok (w : World) (s : List UInt8) (hs : s.length ≤ 1048576) :
    ACalls Tryz.prog 40 #[.string ⟨s.toArray⟩, .int .u8 46] w fun r w' => (∃ v, r = v ∧ strs.rd w' w'.heap.size [v] (splitD s)) ∧ Below w.heap.size w w' := by
  have H := Sep.start w
  refine body_of follows Tryz.func40 rfl rfl _ rfl (by kernel_rfl) (vs ?_)
  refine x_emp H pl_str sl69 fun g w1 H => vs ?_
  refine loop_at (σ := Nat × Nat × List (List UInt8) × Value × List Nat) (fun y => [(0, .string ⟨s.toArray⟩), (1, .int .u8 46), (5, y.2.2.2.1), (6, .int .i64 (y.2.1 : Int)), (7, .int .i64 (y.1 : Int))])
    (fun y w' => (y.1 ≤ s.length + 1 ∧ y.2.1 ≤ y.1 ∧ y.2.2.1.length ≤ y.1) ∧ (y.1 ≤ s.length → y.2.2.1 ++ glue ((s.take y.1).drop y.2.1) (splitD (s.drop y.1)) = splitD s) ∧ (y.1 = s.length + 1 → y.2.2.1 = splitD s) ∧ Sep w.heap.size w w' [Ck.own strs y.2.2.2.2 [y.2.2.2.1] y.2.2.1]) (fun y => s.length + 1 - y.1)
    (0, 0, [], _, _) (vs trivial) ⟨⟨Nat.zero_le _, Nat.le_refl _, Nat.le_refl _⟩, fun _ => by
      dsimp only
      simp only [List.take_zero, List.drop_zero, glue_nil (splitD_ne s), List.nil_append], fun h => by dsimp only at h; omega, H⟩ ?_
  rintro ⟨k, fr, out, v, fp⟩ s2 w2 ⟨⟨hk, hf, ho⟩, hgo, hend, H⟩
  dsimp only at hk hf ho hgo hend H
  refine vs (ways ?_ ?_)
  · refine vh fun hlt => ?_
    have hkn : k ≤ s.length := by omega
    have hgo := hgo hkn
    have hlen1 : ((s.take k).drop fr).length ≤ 1048576 := by rw [List.length_drop, List.length_take]; omega
    by_cases he : (k : Int) = (s.length : Int)
    · have T := split_take hgo (.inl (by omega))
      have ee : ((k : Int) = (s.length : Int)) = True := eq_true he
      refine ve ee ?_
      refine x_sslice fr k Tryz.underlying9 hf hkn ?_ rfl rfl
      refine ve ee ?_
      refine x_lst H pl_str sl69 [(s.take k).drop fr] (by simp only [List.mem_singleton, forall_eq]; omega) fun g3 w3 H => ve ee ?_
      refine x_app H pl_str sl69 (H.own (.head _)) ?_ ?_ fun fp5 v5 w5 H => ve ee ?_
      · simp only [List.length_cons, List.length_nil]; omega
      · simp only [List.length_cons, List.length_nil]; omega
      refine ⟨(k + 1, k + 1, out ++ [(s.take k).drop fr], v5, fp5), ⟨rfl, i64_eq (w64_s hkn hs), i64_eq (w64_s hkn hs)⟩, ⟨⟨by dsimp only; omega, Nat.le_refl _, by dsimp only; rw [List.length_append]; simp only [List.length_cons, List.length_nil]; omega⟩, T.1, T.2, H.tail⟩, by dsimp only; omega⟩
    · have hk3 : k < s.length := by omega
      have ee : ((k : Int) = (s.length : Int)) = False := eq_false he
      refine ve ee ?_
      refine x_sidx Tryz.underlying9 (Int.natCast_nonneg _) (by omega) ?_
      rw [Int.toNat_natCast]
      by_cases h46 : s[k] = 46
      · have T := split_take hgo (.inr ⟨hk3, h46⟩)
        have e4 : (((s.getD k 0).toNat : Int) = 46) = True := by rw [sidx46 hk3]; exact eq_true h46
        refine ve (And.intro ee e4) ?_
        refine x_sslice fr k Tryz.underlying9 hf hkn ?_ rfl rfl
        refine ve ee ?_
        refine x_lst H pl_str sl69 [(s.take k).drop fr] (by simp only [List.mem_singleton, forall_eq]; omega) fun g3 w3 H => ve ee ?_
        refine x_app H pl_str sl69 (H.own (.head _)) ?_ ?_ fun fp5 v5 w5 H => ve ee ?_
        · simp only [List.length_cons, List.length_nil]; omega
        · simp only [List.length_cons, List.length_nil]; omega
        refine ⟨(k + 1, k + 1, out ++ [(s.take k).drop fr], v5, fp5), ⟨rfl, i64_eq (w64_s hkn hs), i64_eq (w64_s hkn hs)⟩, ⟨⟨by dsimp only; omega, Nat.le_refl _, by dsimp only; rw [List.length_append]; simp only [List.length_cons, List.length_nil]; omega⟩, T.1, T.2, H.tail⟩, by dsimp only; omega⟩
      · have e4 : (((s.getD k 0).toNat : Int) = 46) = False := by rw [sidx46 hk3]; exact eq_false h46
        refine ve (And.intro ee e4) ?_
        refine ⟨(k + 1, fr, out, v, fp), ⟨rfl, rfl, i64_eq (w64_s hkn hs)⟩, ⟨⟨by dsimp only; omega, by dsimp only; omega, by dsimp only; omega⟩, fun _ => split_pass hf hk3 hgo h46, fun h => by dsimp only at h; omega, H⟩, by dsimp only; omega⟩
  · refine vh fun hlt => ?_
    have e : out = splitD s := hend (by omega)
    rw [← e]
    first | exact ⟨H.own (.head _), H.bel⟩ | exact ⟨⟨_, rfl, H.own (.head _)⟩, H.bel⟩

/-! ### numbers -/
theorem atoi_ok (w : World) (s : List UInt8) (hs : s.length ≤ 1048576) (ht : Libs w) :
    ACalls Tryz.prog 67 #[.string ⟨s.toArray⟩] w fun r w' => ((∃ v, Lib.atoiAll s = .ok v ∧ r = .tuple #[.int .i64 v, .nilIface]) ∨ ((∀ v, ¬ Lib.atoiAll s = .ok v) ∧ ∃ v t p, r = .tuple #[.int .i64 v, .iface t p])) ∧ Below w.heap.size w w' := by
  have hsz : (⟨s.toArray⟩ : ByteArray).size = s.length := by simp [ByteArray.size]
  have hd : (⟨s.toArray⟩ : ByteArray).data.toList = s := rfl
  rcases h : Lib.atoiAll s with v | _ | _
  · skip
    refine Calls.mono (Any.strconv_Atoi_ok Tryz.laysAtoi ⟨s.toArray⟩ (by omega) v (by rw [hd]; exact h) w) fun e w' hh => ?_
    obtain ⟨rfl, hw⟩ := hh
    refine ⟨_, rfl, .inl ⟨v, rfl, rfl⟩, ?_⟩
    rcases hw with rfl | ⟨t, rfl⟩
    · exact Below.refl _ _
    · exact Lib.bytesWorld_below _ _ _
  · skip
    obtain ⟨tp, p, hv⟩ := ht.syn
    refine Calls.mono (Any.strconv_Atoi_syntax_var Tryz.laysAtoi ⟨s.toArray⟩ (by omega) (by rw [hd]; exact h) tp p w hv) fun e w' hh => ?_
    obtain ⟨N, rfl, _, _, hb⟩ := hh
    exact ⟨_, rfl, .inr ⟨(fun v hv => by cases hv), _, _, _, rfl⟩, hb⟩
  · skip
    obtain ⟨tp, p, hv⟩ := ht.rng
    refine Calls.mono (Any.strconv_Atoi_range_var Tryz.laysAtoi ⟨s.toArray⟩ (by omega) (by rw [hd]; exact h) tp p w hv) fun e w' hh => ?_
    obtain ⟨N, rfl, _, _, hb⟩ := hh
    exact ⟨_, rfl, .inr ⟨(fun v hv => by cases hv), _, _, _, rfl⟩, hb⟩
end Go.Proofs.YticlmbnchldbfaaGreatDoor.V
