/- Texts as bytes. -/
import Derived.Test.YtcmckbgiiclomaaGreatDoorVy
import Derived.Laws.IdiomStrings
namespace Go.Proofs.YtcmckbgiiclomaaGreatDoor.V
open Go Go.RowKit
set_option linter.unusedVariables false
set_option linter.unusedSimpArgs false
section
variable {P : Program} {n : Nat} {w0 w : World} {L : List Ck} {K : Value → World → Prop} {tg : Tg K}
/-- A text's bytes: a new row, read from then on. -/
theorem x_sbytes {s t e : TypeId} (hs : P.underlying s = some .string) (ht : P.underlying t = some (.slice e)) (he : P.underlying e = some (.int .u8)) {l : List UInt8} (H : Sep n w0 w L) (hl : l.length ≤ 1099511627776)
    (h : ∀ v w', Sep n w0 w' L → (bytes e).rd w' w'.heap.size [v] l → K v w') : VS P K tg (convert s t (.string ⟨l.toArray⟩)) w := by
  have hrun := run_bytes_of_string w s t e (⟨l.toArray⟩ : ByteArray) hs ht he
  have hsz : (⟨l.toArray⟩ : ByteArray).size = l.length := by simp [ByteArray.size]
  have hge := grownCap_ge w l.length 0 e
  have hle := grownCap_le_maxLen w l.length 0 e (by simp only [maxLen]; omega)
  rw [hsz] at hrun
  have hb : Below w.heap.size w (w.drew.alloc (.cells (bytesRow ⟨l.toArray⟩ (grownCap w l.length 0 e)) e ((bytesRow ⟨l.toArray⟩ (grownCap w l.length 0 e)).size, (bytesRow ⟨l.toArray⟩ (grownCap w l.length 0 e)).size + 1))) := Below.alloc ((Below.refl _ w).drew) (Nat.le_refl _) _
  refine vS_run hrun (h _ _ (H.go hb) ⟨_, _, rfl, hge, hle, pl_u8.slRd.2 ⟨fun _ _ => trivial, fun i hi => ?_⟩⟩)
  refine ⟨rfl, ?_, ?_⟩
  · rw [adA_some]
    show w.heap.size < (w.heap.push _).size
    simp
  · rw [adA_some, Kd.add_plain]
    have e1 : (w.drew.alloc (.cells (bytesRow ⟨l.toArray⟩ (grownCap w l.length 0 e)) e ((bytesRow ⟨l.toArray⟩ (grownCap w l.length 0 e)).size, (bytesRow ⟨l.toArray⟩ (grownCap w l.length 0 e)).size + 1))).heap[w.heap.size]? = some (.cells (bytesRow ⟨l.toArray⟩ (grownCap w l.length 0 e)) e ((bytesRow ⟨l.toArray⟩ (grownCap w l.length 0 e)).size, (bytesRow ⟨l.toArray⟩ (grownCap w l.length 0 e)).size + 1)) := by
      show (w.heap.push _)[w.heap.size]? = _
      simp
    simp only [World.cell?, e1]
    simp [bytesRow, encB]
    rw [Array.getElem?_append_left (by simpa using hi)]
    simp [hi]
end
end Go.Proofs.YtcmckbgiiclomaaGreatDoor.V
