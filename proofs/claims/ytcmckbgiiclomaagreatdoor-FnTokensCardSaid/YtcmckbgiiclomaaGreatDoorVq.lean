/- A slice of a slice, of a string. -/
import Derived.Test.YtcmckbgiiclomaaGreatDoorVn
import Derived.Laws.Strings2
import Derived.Laws.Strings3
namespace Go.Proofs.YtcmckbgiiclomaaGreatDoor.V
open Go Go.RowKit
set_option linter.unusedVariables false

section
variable {P : Program} {w : World} {α : Type} {d : Kd α}
theorem elem_of {t e : TypeId} (h : P.underlying t = some (.slice e)) : P.elem t = e := by simp [Program.elem, h]
theorem sub_rd {e : TypeId} {m : Nat} {A : Option Addr} {l : List α} {c lo hi : Nat} (h : Kd.sliceRd d w m A l) (h1 : lo ≤ hi) (h2 : hi ≤ l.length) (h3 : l.length ≤ c) (h4 : c ≤ maxLen) :
    (Kd.slice e d).rd w m [sliced A lo hi c d.sz] ((l.drop lo).take (hi - lo)) := by
  have hlen : ((l.drop lo).take (hi - lo)).length = hi - lo := by simp; omega
  refine ⟨if c = lo then A else A.map (·.add (lo * d.sz)), c - lo, by rw [hlen]; rfl, by omega, by omega, fun i hi' => ?_⟩
  rw [hlen] at hi'
  obtain ⟨h5, h6, es, h7, h8⟩ := h (lo + i) (by omega)
  obtain ⟨ad, rfl⟩ := Option.isSome_iff_exists.1 h5
  rw [if_neg (by omega)]
  refine ⟨rfl, ?_, es, ?_, fun j hj => ?_⟩
  · show (ad.add (lo * d.sz)).block < m
    rw [Kd.add_block]; exact h6
  · simp only [List.getElem_take, List.getElem_drop]; exact h7
  · show w.cell? ((ad.add (lo * d.sz)).add (i * d.sz + j)) = es[j]?
    rw [Kd.add_add, ← h8 j hj]
    congr 2
    rw [Nat.add_mul]; omega
theorem run_sub {t e sz by_ : Nat} {z : Value} (HS : SlT P t e sz by_ z) {A : Option Addr} {n c : Nat} {k k' : IntKind} {lo hi : Nat} :
    (lo ≤ hi → hi ≤ c → (Instr.sliceAt t (.slice A n c) (some (.int k (lo : Int))) (some (.int k' (hi : Int))) none).run P w = .ok (sliced A lo hi c sz) w) ∧
    (hi ≤ c → (Instr.sliceAt t (.slice A n c) none (some (.int k' (hi : Int))) none).run P w = .ok (sliced A 0 hi c sz) w) ∧
    (lo ≤ n → (Instr.sliceAt t (.slice A n c) (some (.int k (lo : Int))) none none).run P w = .ok (sliced A lo n c sz) w) := by
  obtain ⟨i, hi', hs, _⟩ := HS.inf
  have he := elem_of HS.un
  have hu : P.underlying t = some (.slice (P.elem t)) := by rw [he]; exact HS.un
  have hsz : (sizeOf (P.elem t)).run P w = .ok sz w := by rw [he]; exact run_sizeOf' hi' hs
  refine ⟨fun h1 h2 => ?_, fun h2 => ?_, fun h2 => ?_⟩
  · rw [run_sliceAt_slice w t _ _ _ _ hu, run_slice_lh w t A n c hu k k' lo hi (by omega) (by omega) (by omega), hsz]; rfl
  · rw [run_sliceAt_slice w t _ _ _ _ hu, run_slice_h w t A n c hu k' hi (by omega) (by omega), hsz]; rfl
  · rw [run_sliceAt_slice w t _ _ _ _ hu, run_slice_l w t A n c hu k lo (by omega) (by omega), hsz]; rfl
variable {K : Value → World → Prop} {tg : Tg K}
/-- l[:hi], read. -/
theorem x_to {t e sz by_ : Nat} {z : Value} {wr : World} (HS : SlT P t e sz by_ z) (hd : d.sz = sz) {m : Nat} {v : Value} {l : List α} {k : IntKind} {hi : Nat} (hr : (Kd.slice e d).rd wr m [v] l) (h1 : hi ≤ l.length)
    (h : ∀ v', (Kd.slice e d).rd wr m [v'] (l.take hi) → K v' w) : VS P K tg (Instr.sliceAt t v none (some (.int k (hi : Int))) none) w := by
  obtain ⟨A, c, rfl, h3, h4, hl⟩ := sl_open hr
  refine vS_run ((run_sub HS (k := .i64) (lo := 0)).2.1 (by omega)) (h _ ?_)
  have := sub_rd (e := e) hl (Nat.zero_le hi) h1 h3 h4
  rw [hd] at this
  simpa using this
/-- l[lo:], read. -/
theorem x_from {t e sz by_ : Nat} {z : Value} {wr : World} (HS : SlT P t e sz by_ z) (hd : d.sz = sz) {m : Nat} {v : Value} {l : List α} {k : IntKind} {lo : Nat} (hr : (Kd.slice e d).rd wr m [v] l) (h1 : lo ≤ l.length)
    (h : ∀ v', (Kd.slice e d).rd wr m [v'] (l.drop lo) → K v' w) : VS P K tg (Instr.sliceAt t v (some (.int k (lo : Int))) none none) w := by
  obtain ⟨A, c, rfl, h3, h4, hl⟩ := sl_open hr
  refine vS_run ((run_sub HS (k' := .i64) (hi := 0)).2.2 (by omega)) (h _ ?_)
  have := sub_rd (e := e) hl h1 (Nat.le_refl _) h3 h4
  rw [hd, List.take_of_length_le (by simp)] at this
  exact this
/-- l[lo:hi], read. -/
theorem x_sub {t e sz by_ : Nat} {z : Value} {wr : World} (HS : SlT P t e sz by_ z) (hd : d.sz = sz) {m : Nat} {v : Value} {l : List α} {k k' : IntKind} {lo hi : Nat} (hr : (Kd.slice e d).rd wr m [v] l) (h0 : lo ≤ hi) (h1 : hi ≤ l.length)
    (h : ∀ v', (Kd.slice e d).rd wr m [v'] ((l.drop lo).take (hi - lo)) → K v' w) : VS P K tg (Instr.sliceAt t v (some (.int k (lo : Int))) (some (.int k' (hi : Int))) none) w := by
  obtain ⟨A, c, rfl, h3, h4, hl⟩ := sl_open hr
  refine vS_run ((run_sub HS).1 h0 (by omega)) (h _ ?_)
  have := sub_rd (e := e) hl h0 h1 h3 h4
  rw [hd] at this
  exact this
end

/-! ### an element of what was known when the walk began -/
section
variable {P : Program} {n m : Nat} {w0 w : World} {L : List Ck} {K : Value → World → Prop} {KQ : Value → Prop} {G : List (Nat × Nat)} {tg : Tg K} {tq : Tg (m, G, w, KQ)} {α : Type} {d : Kd α}
theorem x_ele (H : Sep n w0 w L) {t e sz by_ : Nat} {z : Value} (HS : SlT P t e sz by_ z) (hd : d.sz = sz) {A : Option Addr} {c : Nat} {l : List α} {k : IntKind} (i : Nat) {ii : Int} (hi : i < l.length) (hl : Kd.sliceRd d w0 n A l) (hii : ii = (i : Int))
    (h : ∀ ad es, ad.block < n → d.rd w0 n es l[i] → (∀ j, j < sz → w.cell? (ad.add j) = es[j]?) → K (.pointer (some ad)) w) : VS P K tg (Instr.indexAt t (.slice A l.length c) (.int k ii)) w := by
  subst hii
  obtain ⟨h2, h3, es, h4, h5⟩ := hl i hi
  refine x_index HS h2 (by omega) (by omega) (h _ es ?_ h4 fun j hj => ?_)
  · rw [Kd.add_block]; exact h3
  · rw [Kd.add_add, ← hd, Int.toNat_natCast, H.bel.cell (by rw [Kd.add_block]; exact h3)]; exact h5 j (by omega)
theorem q_ele (H : Sep n w0 w L) {t e sz by_ : Nat} {z : Value} (HS : SlT P t e sz by_ z) (hd : d.sz = sz) {A : Option Addr} {c : Nat} {l : List α} {k : IntKind} (i : Nat) {ii : Int} (hi : i < l.length) (hl : Kd.sliceRd d w0 n A l) (hii : ii = (i : Int))
    (h : ∀ ad es, ad.block < n → d.rd w0 n es l[i] → (∀ j, j < sz → w.cell? (ad.add j) = es[j]?) → KQ (.pointer (some ad))) : QS P m G w KQ tq (Instr.indexAt t (.slice A l.length c) (.int k ii)) := by
  subst hii
  obtain ⟨h2, h3, es, h4, h5⟩ := hl i hi
  refine qx_index HS h2 (by omega) (by omega) (h _ es ?_ h4 fun j hj => ?_)
  · rw [Kd.add_block]; exact h3
  · rw [Kd.add_add, ← hd, Int.toNat_natCast, H.bel.cell (by rw [Kd.add_block]; exact h3)]; exact h5 j (by omega)
end
end Go.Proofs.YtcmckbgiiclomaaGreatDoor.V
