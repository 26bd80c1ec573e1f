/- Lists whose elements are read of a world; joined lists of lists. -/
import Derived.Test.YtagljofpmjaciaaWa
import Derived.Test.YtagljofpmjaciaaVu
namespace Go.Proofs.Ytagljofpmjaciaa.V
open Go Go.RowKit
set_option maxRecDepth 100000
set_option maxHeartbeats 4000000
set_option linter.unusedSimpArgs false
set_option linter.unusedVariables false
set_option pp.deepTerms false
set_option pp.deepTerms.threshold 3

/-! ### elements read of a world -/
abbrev ShV := Option Addr × Nat × List UInt8
abbrev shB (wb : World) (nb : Nat) : Kd ShV := Kd.plain (fun p => .slice p.1 p.2.2.length p.2.1) (fun _ => rfl) (fun p => (bytes 5).rd wb nb [.slice p.1 p.2.2.length p.2.1] p.2.2)
theorem pl_sh (wb : World) (nb : Nat) : IsPlain (shB wb nb) (fun p => .slice p.1 p.2.2.length p.2.1) (fun p => (bytes 5).rd wb nb [.slice p.1 p.2.2.length p.2.1] p.2.2) := ⟨_, rfl⟩
theorem toSh {w : World} {n : Nat} {v : Value} {l : List (List UInt8)} (h : (Kd.slice 22 (bytes 5)).rd w n [v] l) : ∃ l', (Kd.slice 22 (shB w n)).rd w n [v] l' ∧ l'.map (fun p => p.2.2) = l := by
  obtain ⟨A, c, rfl, h1, h2, ha⟩ := sl_open h
  have key : ∀ i : Fin l.length, ∃ p : ShV, p.2.2 = l[i.val] ∧ (bytes 5).rd w n [.slice p.1 p.2.2.length p.2.1] p.2.2 ∧ A.isSome = true ∧ (adA A).block < n ∧ w.cell? ((adA A).add i.val) = some (.slice p.1 p.2.2.length p.2.1) := fun i => by
    obtain ⟨h3, h4, es, h5, h6⟩ := ha i.val i.isLt
    obtain ⟨u, rfl⟩ := sl_one h5
    obtain ⟨A', c', rfl, _⟩ := sl_open h5
    refine ⟨(A', c', l[i.val]), rfl, h5, h3, h4, ?_⟩
    have := h6 0 (by decide)
    have e : i.val * (bytes 5).sz + 0 = i.val := by show i.val * 1 + 0 = i.val; omega
    rw [e] at this
    simpa using this
  have hf : ∀ i, _ := fun i => Classical.choose_spec (key i)
  refine ⟨List.ofFn fun i => Classical.choose (key i), ⟨A, c, by simp, by simpa using h1, h2, (pl_sh w n).slRd.2 ⟨fun x hx => ?_, fun i hi => ?_⟩⟩, ?_⟩
  · obtain ⟨i, rfl⟩ := List.mem_ofFn.1 hx
    exact (hf i).2.1
  · have hi' : i < l.length := by simpa using hi
    obtain ⟨_, _, h3, h4, h5⟩ := hf ⟨i, hi'⟩
    refine ⟨h3, h4, ?_⟩
    rw [List.getElem_ofFn]
    exact h5
  · refine List.ext_getElem (by simp) fun i h h' => ?_
    rw [List.getElem_map, List.getElem_ofFn]
    exact (hf ⟨i, h'⟩).1
theorem ofSh {wb w : World} {nb n : Nat} {v : Value} {l' : List ShV} (h : (Kd.slice 22 (shB wb nb)).rd w n [v] l') (hb : Below nb wb w) (hn : nb ≤ n) : (Kd.slice 22 (bytes 5)).rd w n [v] (l'.map (fun p => p.2.2)) := by
  obtain ⟨A, c, rfl, h1, h2, ha⟩ := sl_open h
  obtain ⟨hR, hc⟩ := (pl_sh wb nb).slRd.1 ha
  refine ⟨A, c, by simp, by simpa using h1, h2, fun i hi => ?_⟩
  have hi' : i < l'.length := by simpa using hi
  obtain ⟨h3, h4, h5⟩ := hc i hi'
  refine ⟨h3, h4, [.slice l'[i].1 l'[i].2.2.length l'[i].2.1], ?_, fun j hj => ?_⟩
  · rw [List.getElem_map]
    exact Kd.le _ (Kd.mono _ (hR _ (List.getElem_mem hi')) hb) hn
  · have hj : j < 1 := hj
    obtain rfl : j = 0 := by omega
    have e : i * (bytes 5).sz + 0 = i := by show i * 1 + 0 = i; omega
    rw [e]
    simpa using h5

end Go.Proofs.Ytagljofpmjaciaa.V
