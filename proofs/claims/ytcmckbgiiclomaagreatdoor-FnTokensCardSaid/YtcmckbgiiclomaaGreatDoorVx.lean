/- An element that is known, of a slice of plain elements. -/
import Derived.Test.YtcmckbgiiclomaaGreatDoorVw
namespace Go.Proofs.YtcmckbgiiclomaaGreatDoor.V
open Go Go.RowKit
set_option linter.unusedVariables false
section
variable {P : Program} {n m : Nat} {w0 w : World} {L : List Ck} {K : Value → World → Prop} {KQ : Value → Prop} {G : List (Nat × Nat)} {tg : Tg K} {tq : Tg (m, G, w, KQ)}
variable {α : Type} {d : Kd α} {f : α → Value} {R : α → Prop}
theorem x_elV (hp : IsPlain d f R) {t e by_ : Nat} {z : Value} (HS : SlT P t e 1 by_ z) {A : Option Addr} {q len c : Nat} {l : List α} {k : IntKind} {ii : Int} {x : α} (i : Nat) (hl : Kd.sliceRd d w q A l) (hv : l[i]? = some x) (hii : ii = (i : Int)) (hn : len = l.length)
    (h : ∀ ad, ad.block < q → w.cell? ad = some (f x) → R x → K (.pointer (some ad)) w) : VS P K tg (Instr.indexAt t (.slice A len c) (.int k ii)) w := by
  subst hii hn
  obtain ⟨hi, hx⟩ := List.getElem?_eq_some_iff.1 hv
  obtain ⟨hR, hc⟩ := hp.slRd.1 hl
  obtain ⟨h2, h3, h4⟩ := hc i hi
  refine x_index HS h2 (by omega) (by omega) (h _ ?_ ?_ (by rw [← hx]; exact hR _ (List.getElem_mem _)))
  · rw [Kd.add_block]; exact h3
  · rw [Nat.mul_one, Int.toNat_natCast, h4, hx]
theorem q_elV (hp : IsPlain d f R) {t e by_ : Nat} {z : Value} (HS : SlT P t e 1 by_ z) {A : Option Addr} {q len c : Nat} {l : List α} {k : IntKind} {ii : Int} {x : α} (i : Nat) (hl : Kd.sliceRd d w q A l) (hv : l[i]? = some x) (hii : ii = (i : Int)) (hn : len = l.length)
    (h : ∀ ad, ad.block < q → w.cell? ad = some (f x) → R x → KQ (.pointer (some ad))) : QS P m G w KQ tq (Instr.indexAt t (.slice A len c) (.int k ii)) := by
  subst hii hn
  obtain ⟨hi, hx⟩ := List.getElem?_eq_some_iff.1 hv
  obtain ⟨hR, hc⟩ := hp.slRd.1 hl
  obtain ⟨h2, h3, h4⟩ := hc i hi
  refine qx_index HS h2 (by omega) (by omega) (h _ ?_ ?_ (by rw [← hx]; exact hR _ (List.getElem_mem _)))
  · rw [Kd.add_block]; exact h3
  · rw [Nat.mul_one, Int.toNat_natCast, h4, hx]
end
section
variable {P : Program} {m : Nat} {w : World} {KQ : Value → Prop} {G : List (Nat × Nat)} {tq : Tg (m, G, w, KQ)} {α : Type} {d : Kd α}
theorem q_to {wr : World} {t e sz by_ : Nat} {z : Value} (HS : SlT P t e sz by_ z) (hd : d.sz = sz) {q : Nat} {v : Value} {l : List α} {k : IntKind} {hi : Nat} (hr : (Kd.slice e d).rd wr q [v] l) (h1 : hi ≤ l.length)
    (h : ∀ v', (Kd.slice e d).rd wr q [v'] (l.take hi) → KQ v') : QS P m G w KQ tq (Instr.sliceAt t v none (some (.int k (hi : Int))) none) := by
  obtain ⟨A, c, rfl, h3, h4, hl⟩ := sl_open hr
  refine QS_of (fun w' _ => (run_sub HS (w := w') (k := .i64) (lo := 0)).2.1 (by omega)) (h _ ?_)
  have := sub_rd (e := e) hl (Nat.zero_le hi) h1 h3 h4
  rw [hd] at this
  simpa using this
theorem q_from {wr : World} {t e sz by_ : Nat} {z : Value} (HS : SlT P t e sz by_ z) (hd : d.sz = sz) {q : Nat} {v : Value} {l : List α} {k : IntKind} {lo : Nat} (hr : (Kd.slice e d).rd wr q [v] l) (h1 : lo ≤ l.length)
    (h : ∀ v', (Kd.slice e d).rd wr q [v'] (l.drop lo) → KQ v') : QS P m G w KQ tq (Instr.sliceAt t v (some (.int k (lo : Int))) none none) := by
  obtain ⟨A, c, rfl, h3, h4, hl⟩ := sl_open hr
  refine QS_of (fun w' _ => (run_sub HS (w := w') (k' := .i64) (hi := 0)).2.2 (by omega)) (h _ ?_)
  have := sub_rd (e := e) hl h1 (Nat.le_refl _) h3 h4
  rw [hd, List.take_of_length_le (by simp)] at this
  exact this
theorem q_sub {wr : World} {t e sz by_ : Nat} {z : Value} (HS : SlT P t e sz by_ z) (hd : d.sz = sz) {q : Nat} {v : Value} {l : List α} {k k' : IntKind} {lo hi : Nat} (hr : (Kd.slice e d).rd wr q [v] l) (h0 : lo ≤ hi) (h1 : hi ≤ l.length)
    (h : ∀ v', (Kd.slice e d).rd wr q [v'] ((l.drop lo).take (hi - lo)) → KQ v') : QS P m G w KQ tq (Instr.sliceAt t v (some (.int k (lo : Int))) (some (.int k' (hi : Int))) none) := by
  obtain ⟨A, c, rfl, h3, h4, hl⟩ := sl_open hr
  refine QS_of (fun w' _ => (run_sub HS (w := w')).1 h0 (by omega)) (h _ ?_)
  have := sub_rd (e := e) hl h0 h1 h3 h4
  rw [hd] at this
  exact this
end
theorem getD_at {α : Type} {l : List α} {i : Nat} {z : α} (h : i < l.length) : l[i]? = some (l.getD i z) := by
  rw [List.getD_eq_getElem?_getD, List.getElem?_eq_getElem h, Option.getD_some]
end Go.Proofs.YtcmckbgiiclomaaGreatDoor.V
