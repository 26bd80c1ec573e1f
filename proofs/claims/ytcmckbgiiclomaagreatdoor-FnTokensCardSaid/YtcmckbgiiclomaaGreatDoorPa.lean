/- What the signs of six bits come to, in plain Lean. -/
import Derived.Test.YtcmckbgiiclomaaGreatDoorVm
namespace Go.Proofs.YtcmckbgiiclomaaGreatDoor.V
set_option linter.unusedVariables false

def signs64 : List UInt8 := [65, 66, 67, 68, 69, 70, 71, 72, 73, 74, 75, 76, 77, 78, 79, 80, 81, 82, 83, 84, 85, 86, 87, 88, 89, 90, 97, 98, 99, 100, 101, 102, 103, 104, 105, 106, 107, 108, 109, 110, 111, 112, 113, 114, 115, 116, 117, 118, 119, 120, 121, 122, 48, 49, 50, 51, 52, 53, 54, 55, 56, 57, 45, 95]
theorem signs64_len : signs64.length = 64 := rfl
def sign (i : Nat) : UInt8 := signs64.getD i 0
theorem sign_at {i : Nat} (h : i < 64) (h' : i < signs64.length) : signs64[i] = sign i := by unfold sign; rw [List.getD_eq_getElem?_getD, List.getElem?_eq_getElem h']; rfl

structure Sx where
  held : Nat
  bits : Nat
  out : List UInt8

/-- One sign put out. -/
def Sx.one (s : Sx) : Sx := ⟨s.held, s.bits - 6, s.out ++ [sign (s.held / 2 ^ (s.bits - 6) % 64)]⟩
/-- A byte taken in. -/
def Sx.take (s : Sx) (b : UInt8) : Sx := ⟨s.held % 64 * 256 + b.toNat, s.bits + 8, s.out⟩
/-- Signs put out while there are six bits. -/
def Sx.put : Nat → Sx → Sx
  | 0, s => s
  | n + 1, s => if 6 ≤ s.bits then Sx.put n s.one else s
def Sx.step (s : Sx) (b : UInt8) : Sx := Sx.put 3 (s.take b)
def sxAll (a : List UInt8) : Sx := a.foldl Sx.step ⟨0, 0, []⟩
def Sx.done (s : Sx) : List UInt8 := if 0 < s.bits then s.out ++ [sign (s.held * 2 ^ (6 - s.bits) % 64)] else s.out
def sixes (a : List UInt8) : List UInt8 := (sxAll a).done

theorem Sx.put_low {n : Nat} {s : Sx} (h : s.bits < 6) : Sx.put n s = s := by cases n <;> simp [Sx.put]; omega
theorem Sx.put_high {n : Nat} {s : Sx} (h : 6 ≤ s.bits) : Sx.put (n + 1) s = Sx.put n s.one := by simp [Sx.put, h]
theorem Sx.put_more {n : Nat} {s : Sx} (h : s.bits < 6 * n + 6) : Sx.put (n + 1) s = Sx.put n s := by
  induction n generalizing s with
  | zero => rw [Sx.put_low (by omega), Sx.put_low (by omega)]
  | succ n ih =>
    by_cases h6 : 6 ≤ s.bits
    · rw [Sx.put_high h6, Sx.put_high h6]
      exact ih (by simp only [Sx.one]; omega)
    · rw [Sx.put_low (by omega), Sx.put_low (by omega)]
/-- What is put out from here on does not hang on the fuel. -/
theorem Sx.put_one {s : Sx} (h : 6 ≤ s.bits) (h2 : s.bits < 18) : Sx.put 3 s = Sx.put 3 s.one := by
  rw [Sx.put_high (n := 2) h, Sx.put_more (n := 2) (s := s.one) (by simp only [Sx.one]; omega)]
theorem Sx.put_bits {n : Nat} {s : Sx} (h : s.bits < 6 * n + 6) : (Sx.put n s).bits < 6 ∧ (Sx.put n s).out.length * 6 + (Sx.put n s).bits = s.out.length * 6 + s.bits := by
  induction n generalizing s with
  | zero => exact ⟨by simpa [Sx.put] using h, rfl⟩
  | succ n ih =>
    by_cases h6 : 6 ≤ s.bits
    · rw [Sx.put_high h6]
      have := ih (s := s.one) (by simp only [Sx.one]; omega)
      refine ⟨this.1, this.2.trans ?_⟩
      simp only [Sx.one, List.length_append, List.length_cons, List.length_nil]; omega
    · rw [Sx.put_low (by omega)]; exact ⟨by omega, rfl⟩
theorem sxAll_bits (a : List UInt8) : (sxAll a).bits < 6 ∧ (sxAll a).out.length * 6 + (sxAll a).bits = 8 * a.length := by
  have key : ∀ (l : List UInt8) (s : Sx), s.bits < 6 → (l.foldl Sx.step s).bits < 6 ∧ (l.foldl Sx.step s).out.length * 6 + (l.foldl Sx.step s).bits = s.out.length * 6 + s.bits + 8 * l.length := by
    intro l
    induction l with
    | nil => intro s hs; exact ⟨hs, by simp⟩
    | cons b l ih =>
      intro s hs
      have h1 := Sx.put_bits (n := 3) (s := s.take b) (by simp only [Sx.take]; omega)
      have h2 := ih (s.step b) h1.1
      refine ⟨h2.1, h2.2.trans ?_⟩
      have h3 := h1.2
      simp only [Sx.take] at h3
      simp only [Sx.step, Sx.take, List.length_cons]
      omega
  have := key a ⟨0, 0, []⟩ (by simp)
  simpa [sxAll] using this
theorem Sx.put_held (n : Nat) (s : Sx) : (Sx.put n s).held = s.held := by
  induction n generalizing s with
  | zero => rfl
  | succ n ih => unfold Sx.put; split; exact ih _; rfl
theorem sxAll_held (a : List UInt8) : (sxAll a).held < 16384 := by
  have key : ∀ (l : List UInt8) (s : Sx), s.held < 16384 → (l.foldl Sx.step s).held < 16384 := by
    intro l
    induction l with
    | nil => intro s hs; exact hs
    | cons b l ih =>
      intro s hs
      refine ih _ ?_
      unfold Sx.step
      rw [Sx.put_held]
      simp only [Sx.take]
      have := b.toNat_lt
      omega
  exact key a _ (by simp)
theorem sxAll_succ {a : List UInt8} {k : Nat} (h : k < a.length) : sxAll (a.take (k + 1)) = (sxAll (a.take k)).step a[k] := by
  unfold sxAll
  rw [List.take_add_one, List.getElem?_eq_getElem h, List.foldl_append]; rfl
theorem sixes_len (a : List UInt8) : (sixes a).length ≤ 2 * a.length + 1 := by
  have := sxAll_bits a
  unfold sixes Sx.done
  split <;> simp <;> omega
end Go.Proofs.YtcmckbgiiclomaaGreatDoor.V
