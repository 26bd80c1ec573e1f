/- Bytes in signs of four bits, and back, in plain Lean. -/
import Derived.Lib.Bytealg
namespace Go.Proofs.YtcmckbgiiclomaaGreatDoor.V
set_option linter.unusedVariables false

def signs16 : List UInt8 := [48, 49, 50, 51, 52, 53, 54, 55, 56, 57, 97, 98, 99, 100, 101, 102]
theorem signs16_len : signs16.length = 16 := rfl
def sgn (n : Nat) : UInt8 := signs16.getD n 0
def hexB : List UInt8 → List UInt8
  | [] => []
  | b :: l => sgn (b.toNat / 16) :: sgn (b.toNat % 16) :: hexB l
theorem hexB_app (l m : List UInt8) : hexB (l ++ m) = hexB l ++ hexB m := by
  induction l with
  | nil => rfl
  | cons b l ih => simp only [List.cons_append, hexB, ih]
theorem hexB_one (b : UInt8) : hexB [b] = [sgn (b.toNat / 16), sgn (b.toNat % 16)] := rfl
theorem hexB_len (l : List UInt8) : (hexB l).length = 2 * l.length := by
  induction l with
  | nil => rfl
  | cons b l ih => simp only [hexB, List.length_cons, ih]; omega
theorem hexB_succ {l : List UInt8} {k : Nat} (h : k < l.length) : hexB (l.take (k + 1)) = hexB (l.take k) ++ [sgn (l[k].toNat / 16), sgn (l[k].toNat % 16)] := by
  rw [List.take_succ_eq_append_getElem h, hexB_app, hexB_one]

/-- What a sign means; -1. -/
def hx (c : UInt8) : Int := Go.Lib.indexByte signs16 c
def hxR (c : UInt8) : Int :=
  if 48 ≤ c.toNat ∧ c.toNat ≤ 57 then (c.toNat : Int) - 48 else if 97 ≤ c.toNat ∧ c.toNat ≤ 102 then (c.toNat : Int) - 87 else -1
theorem hx_eq (c : UInt8) : hx c = hxR c := by
  have key : ∀ n : Fin 256, hx (UInt8.ofNat n.val) = hxR (UInt8.ofNat n.val) := by decide +kernel
  have h := key ⟨c.toNat, c.toNat_lt⟩
  have e : UInt8.ofNat c.toNat = c := by simp
  simp only [e] at h
  exact h
theorem hx_range (c : UInt8) : -1 ≤ hx c ∧ hx c ≤ 15 := by
  rw [hx_eq]; unfold hxR
  split <;> (try split) <;> omega
theorem sgn_hx (c : UInt8) (h : 0 ≤ hx c) : sgn (hx c).toNat = c := by
  have key : ∀ n : Fin 256, 0 ≤ hx (UInt8.ofNat n.val) → sgn (hx (UInt8.ofNat n.val)).toNat = UInt8.ofNat n.val := by decide +kernel
  have h2 := key ⟨c.toNat, c.toNat_lt⟩
  have e : UInt8.ofNat c.toNat = c := by simp
  simp only [e] at h2
  exact h2 h
theorem hx_sgn (n : Nat) (h : n < 16) : hx (sgn n) = n := by
  have key : ∀ n : Fin 16, hx (sgn n.val) = (n.val : Int) := by decide +kernel
  exact key ⟨n, h⟩

/-- Two signs a byte; the last sign alone is left. -/
def pairs : List UInt8 → List (UInt8 × UInt8)
  | a :: b :: l => (a, b) :: pairs l
  | _ => []
theorem pairs_len : ∀ (l : List UInt8), (pairs l).length = l.length / 2
  | [] => rfl
  | [_] => by simp [pairs]
  | a :: b :: l => by simp only [pairs, List.length_cons, pairs_len l]; omega
theorem pairs_get : ∀ (l : List UInt8) (k : Nat) (h : k < (pairs l).length), (pairs l)[k] = (l.getD (2 * k) 0, l.getD (2 * k + 1) 0)
  | [], k, h => absurd h (by simp [pairs])
  | [_], k, h => absurd h (by simp [pairs])
  | a :: b :: l, 0, h => by simp [pairs]
  | a :: b :: l, k + 1, h => by
    have ih := pairs_get l k (by simpa [pairs] using h)
    simp only [pairs, List.getElem_cons_succ, ih]
    rw [show 2 * (k + 1) = 2 * k + 1 + 1 by omega, show 2 * k + 1 + 1 + 1 = 2 * k + 1 + 1 + 1 from rfl]
    simp [List.getD]
def pairOk (p : UInt8 × UInt8) : Bool := decide (0 ≤ hx p.1 ∧ 0 ≤ hx p.2)
def pairB (p : UInt8 × UInt8) : UInt8 := UInt8.ofNat (16 * (hx p.1).toNat + (hx p.2).toNat)
def unhexOk (s : List UInt8) : Bool := decide (s.length % 2 = 0) && (pairs s).all pairOk
def unhexB (s : List UInt8) : List UInt8 := if unhexOk s = true then (pairs s).map pairB else []
theorem unhexB_len {s : List UInt8} (h : unhexOk s = true) : 2 * (unhexB s).length = s.length := by
  unfold unhexB
  rw [if_pos h, List.length_map, pairs_len]
  unfold unhexOk at h
  simp only [Bool.and_eq_true, decide_eq_true_eq] at h
  omega
theorem unhexB_le (s : List UInt8) : (unhexB s).length ≤ s.length := by
  unfold unhexB
  split
  · rw [List.length_map, pairs_len]; omega
  · simp
theorem unhex_odd {s : List UInt8} (h : ¬ s.length % 2 = 0) : unhexOk s = false ∧ unhexB s = [] := by
  have h1 : unhexOk s = false := by unfold unhexOk; rw [decide_eq_false h]; rfl
  exact ⟨h1, by simp [unhexB, h1]⟩
theorem unhex_bad {s : List UInt8} {k : Nat} (hk : k < (pairs s).length) (h : hx (s.getD (2 * k) 0) < 0 ∨ hx (s.getD (2 * k + 1) 0) < 0) : unhexOk s = false ∧ unhexB s = [] := by
  have h1 : unhexOk s = false := by
    unfold unhexOk
    rw [Bool.and_eq_false_iff]
    right
    rw [Bool.eq_false_iff]
    intro ha
    have := List.all_eq_true.1 ha _ (List.getElem_mem hk)
    rw [pairs_get] at this
    unfold pairOk at this
    simp only [decide_eq_true_eq] at this
    omega
  exact ⟨h1, by simp [unhexB, h1]⟩
theorem unhex_good {s : List UInt8} (he : s.length % 2 = 0) (h : ∀ k, k < (pairs s).length → 0 ≤ hx (s.getD (2 * k) 0) ∧ 0 ≤ hx (s.getD (2 * k + 1) 0)) : unhexOk s = true ∧ unhexB s = (pairs s).map pairB := by
  have h1 : unhexOk s = true := by
    unfold unhexOk
    rw [decide_eq_true he, Bool.true_and, List.all_eq_true]
    intro p hp
    obtain ⟨k, hk, rfl⟩ := List.getElem_of_mem hp
    rw [pairs_get]
    unfold pairOk
    exact decide_eq_true (h k hk)
  exact ⟨h1, by simp [unhexB, h1]⟩
theorem pairs_succ {s : List UInt8} {k : Nat} (hk : k < (pairs s).length) : ((pairs s).take (k + 1)).map pairB = ((pairs s).take k).map pairB ++ [UInt8.ofNat (16 * (hx (s.getD (2 * k) 0)).toNat + (hx (s.getD (2 * k + 1) 0)).toNat)] := by
  rw [List.take_succ_eq_append_getElem hk, List.map_append, pairs_get]; rfl

/-! ### there and back -/
theorem byte_hex (b : UInt8) : UInt8.ofNat (16 * (hx (sgn (b.toNat / 16))).toNat + (hx (sgn (b.toNat % 16))).toNat) = b := by
  have := b.toNat_lt
  rw [hx_sgn _ (by omega), hx_sgn _ (by omega)]
  apply UInt8.toNat_inj.1
  rw [UInt8.toNat_ofNat']
  omega
theorem pairs_hex (l : List UInt8) : pairs (hexB l) = l.map fun b => (sgn (b.toNat / 16), sgn (b.toNat % 16)) := by
  induction l with
  | nil => rfl
  | cons b l ih => simp only [hexB, pairs, ih, List.map_cons]
theorem unhex_hex (l : List UInt8) : unhexOk (hexB l) = true ∧ unhexB (hexB l) = l := by
  have h1 : unhexOk (hexB l) = true := by
    unfold unhexOk
    rw [hexB_len, pairs_hex, decide_eq_true (by omega), Bool.true_and, List.all_eq_true]
    intro p hp
    obtain ⟨b, _, rfl⟩ := List.mem_map.1 hp
    have := b.toNat_lt
    unfold pairOk
    rw [hx_sgn _ (by omega), hx_sgn _ (by omega)]
    exact decide_eq_true ⟨by omega, by omega⟩
  refine ⟨h1, ?_⟩
  unfold unhexB
  rw [if_pos h1, pairs_hex, List.map_map]
  have : (pairB ∘ fun b : UInt8 => (sgn (b.toNat / 16), sgn (b.toNat % 16))) = id := by
    funext b; exact byte_hex b
  rw [this, List.map_id]
theorem hex_unhexP : ∀ (s : List UInt8), s.length % 2 = 0 → (∀ p ∈ pairs s, pairOk p = true) → hexB ((pairs s).map pairB) = s
  | [], _, _ => rfl
  | [_], h, _ => by simp at h
  | a :: b :: l, h, ha => by
    have ih := hex_unhexP l (by simp only [List.length_cons] at h; omega) (fun p hp => ha p (by simp only [pairs]; exact List.mem_cons_of_mem _ hp))
    have h1 := ha (a, b) (by simp only [pairs]; exact List.mem_cons_self ..)
    unfold pairOk at h1
    simp only [decide_eq_true_eq] at h1
    have r1 := hx_range a
    have r2 := hx_range b
    simp only [pairs, List.map_cons, hexB, ih]
    have e : (pairB (a, b)).toNat = 16 * (hx a).toNat + (hx b).toNat := by
      unfold pairB; rw [UInt8.toNat_ofNat']; dsimp only; omega
    rw [e, show (16 * (hx a).toNat + (hx b).toNat) / 16 = (hx a).toNat by omega, show (16 * (hx a).toNat + (hx b).toNat) % 16 = (hx b).toNat by omega, sgn_hx a h1.1, sgn_hx b h1.2]
theorem hex_unhex {s : List UInt8} (h : unhexOk s = true) : hexB (unhexB s) = s := by
  have h2 := h
  unfold unhexOk at h2
  simp only [Bool.and_eq_true, decide_eq_true_eq] at h2
  unfold unhexB
  rw [if_pos h]
  exact hex_unhexP s h2.1 fun p hp => List.all_eq_true.1 h2.2 p hp

/-- A route: sixteen signs. -/
def isRoute (s : List UInt8) : Bool := unhexOk s && decide (s.length = 16)
theorem isRoute_spec (s : List UInt8) : isRoute s = (unhexOk s && decide ((unhexB s).length = 8)) := by
  unfold isRoute
  cases h : unhexOk s with
  | false => rfl
  | true =>
    have := unhexB_len h
    rw [Bool.true_and, Bool.true_and]
    exact decide_eq_decide.2 (by omega)
end Go.Proofs.YtcmckbgiiclomaaGreatDoor.V
