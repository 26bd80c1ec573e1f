/- What a handed argument reads as: from the statements' own words to the kinds of data here. -/
import Derived.Test.YtcmckbgiiclomaaGreatDoorVn
import Derived.ChangeArms
import Derived.ChangeMaps5
namespace Go.Proofs.YtcmckbgiiclomaaGreatDoor.V
open Go Go.RowKit
set_option linter.unusedVariables false

/-- A value of type t that is laid out as the statement says reads as data of kind d. -/
def Opens {α : Type} (P : Program) (t : TypeId) (d : Kd α) : Prop :=
  ∀ {H : Type} (enc : TypeId × Value → H) (w : World) (fuel : Nat) (cs : List Value) (x : DataW H × List MemPlace), DataW.trod enc P w 0 (fun _ => true) true fuel t cs = some x → ∃ y, d.rd w w.heap.size cs y

section
variable {P : Program} {t e : TypeId} {α β : Type}
theorem opens_i64 (ht : P.underlying t = some (.int .i64)) : Opens P t Kd.i64 := fun enc w fuel cs x h => by
  obtain ⟨n, rfl, _, hw⟩ := DataW.trod_int ht h
  refine ⟨n, rfl, ?_⟩
  simp [Lit.wf, IntKind.min, IntKind.max, IntKind.bits, IntKind.signed] at hw
  omega
theorem opens_u8 (ht : P.underlying t = some (.int .u8)) : Opens P t Kd.u8 := fun enc w fuel cs x h => by
  obtain ⟨n, rfl, _, hw⟩ := DataW.trod_int ht h
  simp [Lit.wf, IntKind.min, IntKind.max, IntKind.bits, IntKind.signed] at hw
  refine ⟨UInt8.ofNat n.toNat, ?_, trivial⟩
  show [Value.int .u8 n] = [Value.int .u8 _]
  rw [UInt8.toNat_ofNat_of_lt' (by show n.toNat < 256; omega), Int.toNat_of_nonneg (by omega)]
theorem opens_bool (ht : P.underlying t = some .bool) : Opens P t Kd.bool := fun enc w fuel cs x h => by
  obtain ⟨b, rfl, _⟩ := DataW.trod_bool ht h
  exact ⟨b, rfl, trivial⟩
theorem opens_str (ht : P.underlying t = some .string) : Opens P t Kd.str := fun enc w fuel cs x h => by
  obtain ⟨s, rfl, _, hs⟩ := DataW.trod_string ht h
  exact ⟨s.data.toList, rfl, by simpa [maxLen] using hs⟩
theorem all_choose {Q : Nat → α → Prop} : ∀ (n : Nat), (∀ i, i < n → ∃ x, Q i x) → ∃ l : List α, l.length = n ∧ ∀ i (h : i < l.length), Q i l[i]
  | 0, _ => ⟨[], rfl, fun i h => by simp at h⟩
  | n + 1, h => by
    obtain ⟨l, hl, hq⟩ := all_choose n fun i hi => h i (by omega)
    obtain ⟨x, hx⟩ := h n (by omega)
    refine ⟨l ++ [x], by simp [hl], fun i hi => ?_⟩
    by_cases h1 : i < l.length
    · rw [List.getElem_append_left h1]; exact hq i h1
    · have : i = l.length := by simp at hi; omega
      subst this
      rw [List.getElem_concat_length rfl, hl]; exact hx
theorem opens_slice {d : Kd α} {e' : TypeId} (ht : P.underlying t = some (.slice e)) (hd : Opens P e d) (hs : d.sz = P.cellsOf e) (hpos : 0 < d.sz) : Opens P t (Kd.slice e' d) := fun enc w fuel cs x h => by
  rcases DataW.trod_slice ht h with ⟨rfl, _⟩ | ⟨a, len, cap, elems, rest, n, _, rfl, _, _, hl, hm, hlen, hel, _, _⟩
  · exact ⟨[], none, 0, rfl, by simp, by simp [maxLen], fun i hi => absurd hi (by simp)⟩
  · have key : ∀ i, i < len → ∃ y, a.block < w.heap.size ∧ ∃ es, d.rd w w.heap.size es y ∧ ∀ j, j < d.sz → w.cell? (a.add (i * d.sz + j)) = es[j]? := by
      intro i hi
      have h1 := hel i hi
      rw [List.getElem?_eq_getElem (by omega), Option.bind_eq_some_iff] at h1
      obtain ⟨es, h2, h3⟩ := h1
      obtain ⟨y, hy⟩ := hd enc w n es _ h3
      obtain ⟨_, h5, h6⟩ := World.cells?_some h2
      refine ⟨y, ?_, es, hy, fun j hj => ?_⟩
      · have := World.cells?_block h2 (by omega)
        rw [Kd.add_block] at this; exact this
      · have := h6 j (by omega)
        rw [Kd.add_add, ← hs] at this; exact this
    obtain ⟨l, hll, hq⟩ := all_choose len key
    refine ⟨l, some a, cap, by rw [hll], by omega, hm, fun i hi => ?_⟩
    obtain ⟨h1, es, h2, h3⟩ := hq i hi
    exact ⟨rfl, h1, es, h2, h3⟩
theorem opens_iso {d : Kd α} {f : β → α} (g : α → β) (hd : Opens P t d) (hg : ∀ x, f (g x) = x) : Opens P t (d.iso f) := fun enc w fuel cs x h => by
  obtain ⟨y, hy⟩ := hd enc w fuel cs x h
  exact ⟨g y, by show d.rd _ _ _ (f (g y)); rw [hg]; exact hy⟩

/-- The fields of a struct from an offset on. -/
def OpensFs {α : Type} (P : Program) (fs : List Field) (off : Nat) (d : Kd α) : Prop :=
  ∀ {H : Type} (enc : TypeId × Value → H) (w : World) (n : Nat) (cs : List Value), (∀ f ∈ fs, ∃ x, DataW.trod enc P w 0 (fun _ => true) true n f.type ((cs.drop f.offset).take (P.cellsOf f.type)) = some x) → cs.length = off + d.sz → ∃ y, d.rd w w.heap.size (cs.drop off) y
theorem ofs_one {d : Kd α} {f : Field} {off : Nat} (hd : Opens P f.type d) (ho : f.offset = off) (hs : P.cellsOf f.type = d.sz) : OpensFs P [f] off d := fun enc w n cs h hl => by
  obtain ⟨x, hx⟩ := h f (by simp)
  obtain ⟨y, hy⟩ := hd enc w n _ _ hx
  rw [ho, List.take_of_length_le (by rw [List.length_drop, hs]; omega)] at hy
  exact ⟨y, hy⟩
theorem ofs_cons {d : Kd α} {d' : Kd β} {f : Field} {fs : List Field} {off : Nat} (hd : Opens P f.type d) (ho : f.offset = off) (hs : P.cellsOf f.type = d.sz) (hr : OpensFs P fs (off + d.sz) d') : OpensFs P (f :: fs) off (Kd.pair d d') := fun enc w n cs h hl => by
  have hl' : cs.length = off + (d.sz + d'.sz) := hl
  obtain ⟨x, hx⟩ := h f (by simp)
  obtain ⟨y, hy⟩ := hd enc w n _ _ hx
  obtain ⟨z, hz⟩ := hr enc w n cs (fun g hg => h g (List.mem_cons_of_mem _ hg)) (by omega)
  rw [ho, hs] at hy
  refine ⟨(y, z), _, _, ?_, hy, hz⟩
  rw [← List.drop_drop]
  exact (List.take_append_drop d.sz (cs.drop off)).symm
theorem opens_struct {d : Kd α} {fs : List Field} (ht : P.underlying t = some (.struct fs.toArray)) (hd : OpensFs P fs 0 d) (hs : P.cellsOf t = d.sz) : Opens P t d := fun enc w fuel cs x h => by
  obtain ⟨xs, n, _, _, hl, hxs, hf⟩ := DataW.trod_struct ht h
  obtain ⟨y, hy⟩ := hd enc w n cs (fun f hf' => by
    obtain ⟨i, hi, rfl⟩ := List.getElem_of_mem hf'
    have h1 := hf i fs[i] (by simp [hi])
    have h2 : i < xs.length := by rw [hxs]; simpa using hi
    rw [List.getElem?_eq_getElem h2] at h1
    exact ⟨_, h1⟩) (by omega)
  exact ⟨y, by simpa using hy⟩
end
end Go.Proofs.YtcmckbgiiclomaaGreatDoor.V
