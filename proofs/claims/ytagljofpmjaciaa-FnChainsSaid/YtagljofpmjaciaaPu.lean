/- What signs of six bits are read as, in plain Lean. -/
import Derived.Test.YtagljofpmjaciaaPa
import Derived.Lib.Bytealg
namespace Go.Proofs.Ytagljofpmjaciaa.V
set_option linter.unusedVariables false

def six (c : UInt8) : Int := Go.Lib.indexByte signs64 c
def sixR (c : UInt8) : Int :=
  if 65 ≤ c.toNat ∧ c.toNat ≤ 90 then (c.toNat : Int) - 65 else if 97 ≤ c.toNat ∧ c.toNat ≤ 122 then (c.toNat : Int) - 71
  else if 48 ≤ c.toNat ∧ c.toNat ≤ 57 then (c.toNat : Int) + 4 else if c.toNat = 45 then 62 else if c.toNat = 95 then 63 else -1
theorem six_eq (c : UInt8) : six c = sixR c := by
  have key : ∀ n : Fin 256, six (UInt8.ofNat n.val) = sixR (UInt8.ofNat n.val) := by decide +kernel
  have h := key ⟨c.toNat, c.toNat_lt⟩
  have e : UInt8.ofNat c.toNat = c := by simp
  simp only [e] at h
  exact h
theorem six_range (c : UInt8) : -1 ≤ six c ∧ six c ≤ 63 := by
  rw [six_eq]; unfold sixR
  have := c.toNat_lt
  split <;> (try split) <;> (try split) <;> (try split) <;> (try split) <;> omega

structure Ux where
  held : Nat
  bits : Nat
  out : List UInt8
def Ux.step (s : Ux) (x : Nat) : Ux :=
  if 2 ≤ s.bits then ⟨s.held % 64 * 64 + x, s.bits - 2, s.out ++ [UInt8.ofNat ((s.held % 64 * 64 + x) / 2 ^ (s.bits - 2) % 256)]⟩ else ⟨s.held % 64 * 64 + x, s.bits + 6, s.out⟩
def uxAll (l : List UInt8) : Ux := l.foldl (fun s c => s.step (six c).toNat) ⟨0, 0, []⟩
def unOk (l : List UInt8) : Bool := decide ((∀ c ∈ l, 0 ≤ six c) ∧ sixes (uxAll l).out = l)
def unOut (l : List UInt8) : List UInt8 := if unOk l = true then (uxAll l).out else []
theorem unOk_bad {l : List UInt8} {i : Nat} (hi : i < l.length) (h : six l[i] < 0) : unOk l = false ∧ unOut l = [] := by
  have h1 : unOk l = false := decide_eq_false fun hh => by have := hh.1 _ (List.getElem_mem hi); omega
  exact ⟨h1, by simp [unOut, h1]⟩
theorem unOk_ne {l : List UInt8} (h : ¬ sixes (uxAll l).out = l) : unOk l = false ∧ unOut l = [] := by
  have h1 : unOk l = false := decide_eq_false fun hh => h hh.2
  exact ⟨h1, by simp [unOut, h1]⟩
theorem unOk_good {l : List UInt8} (h0 : ∀ i (hi : i < l.length), 0 ≤ six l[i]) (h : sixes (uxAll l).out = l) : unOk l = true ∧ unOut l = (uxAll l).out := by
  have h1 : unOk l = true := decide_eq_true ⟨fun c hc => by obtain ⟨i, hi, rfl⟩ := List.getElem_of_mem hc; exact h0 i hi, h⟩
  exact ⟨h1, by simp [unOut, h1]⟩
theorem uxAll_succ {l : List UInt8} {k : Nat} (h : k < l.length) : uxAll (l.take (k + 1)) = (uxAll (l.take k)).step (six l[k]).toNat := by
  unfold uxAll
  rw [List.take_add_one, List.getElem?_eq_getElem h, List.foldl_append]; rfl
theorem uxAll_inv (l : List UInt8) : (uxAll l).bits % 2 = 0 ∧ (uxAll l).bits ≤ 6 ∧ (uxAll l).held < 4096 ∧ (uxAll l).out.length ≤ l.length := by
  have key : ∀ (l : List UInt8) (s : Ux), s.bits % 2 = 0 → s.bits ≤ 6 → s.held < 4096 → (l.foldl (fun s c => s.step (six c).toNat) s).bits % 2 = 0 ∧ (l.foldl (fun s c => s.step (six c).toNat) s).bits ≤ 6 ∧ (l.foldl (fun s c => s.step (six c).toNat) s).held < 4096 ∧ (l.foldl (fun s c => s.step (six c).toNat) s).out.length ≤ s.out.length + l.length := by
    intro l
    induction l with
    | nil => intro s h1 h2 h3; exact ⟨h1, h2, h3, by simp⟩
    | cons b l ih =>
      intro s h1 h2 h3
      have hr := six_range b
      have hx : (six b).toNat < 64 := by omega
      simp only [List.foldl_cons]
      generalize (six b).toNat = x at hx
      have h4 : (s.step x).bits % 2 = 0 ∧ (s.step x).bits ≤ 6 ∧ (s.step x).held < 4096 ∧ (s.step x).out.length ≤ s.out.length + 1 := by
        unfold Ux.step
        split <;> refine ⟨?_, ?_, ?_, ?_⟩ <;> simp <;> omega
      obtain ⟨h5, h6, h7, h8⟩ := ih _ h4.1 h4.2.1 h4.2.2.1
      exact ⟨h5, h6, h7, by simp only [List.length_cons]; omega⟩
  have := key l ⟨0, 0, []⟩ rfl (by simp) (by simp)
  simpa [uxAll] using this
theorem unOut_len (l : List UInt8) : (unOut l).length ≤ l.length := by
  unfold unOut
  split
  · exact (uxAll_inv l).2.2.2
  · simp
/-- The other reckoning: what is held, cut to its bits. -/
theorem ux_cut {h b x : Nat} (h2 : 2 ≤ b) (he : b % 2 = 0) (h6 : b ≤ 6) (hx : x < 64) :
    (h % 2 ^ b * 64 + x) / 2 ^ (b - 2) % 256 = (h % 64 * 64 + x) / 2 ^ (b - 2) % 256 ∧ (h % 2 ^ b * 64 + x) % 2 ^ (b - 2) = (h % 64 * 64 + x) % 2 ^ (b - 2) := by
  have : b = 2 ∨ b = 4 ∨ b = 6 := by omega
  rcases this with rfl | rfl | rfl
  · constructor
    · simp only [Nat.reduceSub, Nat.reducePow] <;> omega
    · simp only [Nat.reduceSub, Nat.reducePow] <;> omega
  · constructor
    · simp only [Nat.reduceSub, Nat.reducePow] <;> omega
    · simp only [Nat.reduceSub, Nat.reducePow] <;> omega
  · constructor
    · simp only [Nat.reduceSub, Nat.reducePow] <;> omega
    · simp only [Nat.reduceSub, Nat.reducePow] <;> omega
theorem ux_cut0 {h b x : Nat} (h2 : ¬ 2 ≤ b) (he : b % 2 = 0) (hx : x < 64) : h % 2 ^ b * 64 + x = (h % 64 * 64 + x) % 2 ^ (b + 6) := by
  have : b = 0 := by omega
  subst this
  simp only [Nat.reduceAdd, Nat.reducePow]; omega
end Go.Proofs.Ytagljofpmjaciaa.V
