/- A reader read from bytes, in plain Lean: what is taken is what was put. -/
import Derived.Test.YtijbmapeechcpaaWrb
namespace Go.Proofs.Ytijbmapeechcpaa.V
set_option linter.unusedVariables false

/-- The bytes that begin a row behind how many they are, and what is behind them. -/
def takeP : List UInt8 → Option (List UInt8 × List UInt8)
  | b0 :: b1 :: rest => if b0.toNat * 256 + b1.toNat ≤ rest.length then some (rest.take (b0.toNat * 256 + b1.toNat), rest.drop (b0.toNat * 256 + b1.toNat)) else none
  | _ => none
def takeN : Nat → List UInt8 → Option (List (List UInt8) × List UInt8)
  | 0, b => some ([], b)
  | k + 1, b => match takeN k b with
    | some (ls, r) => match takeP r with
      | some (x, r') => some (ls ++ [x], r')
      | none => none
    | none => none
theorem takeN_ok {k : Nat} {b : List UInt8} {ls : List (List UInt8)} {r x r' : List UInt8} (h : takeN k b = some (ls, r)) (h2 : takeP r = some (x, r')) : takeN (k + 1) b = some (ls ++ [x], r') := by
  simp only [takeN, h, h2]
theorem takeN_bad {k : Nat} {b : List UInt8} {ls : List (List UInt8)} {r : List UInt8} (h : takeN k b = some (ls, r)) (h2 : takeP r = none) : takeN (k + 1) b = none := by
  simp only [takeN, h, h2]
theorem takeN_none {k : Nat} {b : List UInt8} (h : takeN k b = none) : ∀ j, takeN (k + j) b = none
  | 0 => h
  | j + 1 => by
    have := takeN_none h j
    show takeN (k + j + 1) b = none
    simp only [takeN, this]
theorem takeN_add {m : Nat} {b : List UInt8} {ls : List (List UInt8)} {r : List UInt8} (h : takeN m b = some (ls, r)) : ∀ k, takeN (m + k) b = (takeN k r).map fun p => (ls ++ p.1, p.2)
  | 0 => by simp [takeN, h]
  | k + 1 => by
    have ih := takeN_add h k
    show takeN (m + k + 1) b = _
    simp only [takeN]
    rw [ih]
    cases h1 : takeN k r with
    | none => rfl
    | some p =>
      obtain ⟨l2, r2⟩ := p
      simp only [Option.map_some]
      cases h2 : takeP r2 with
      | none => rfl
      | some q =>
        obtain ⟨x, r3⟩ := q
        simp [List.append_assoc]
theorem great2 {a b : UInt8} : greatB ((a.toNat * 256 + b.toNat : Nat) : Int) 2 = [a, b] := by
  have ha := a.toNat_lt
  have hb := b.toNat_lt
  unfold greatB littleB
  rw [if_pos ⟨by omega, by omega, by omega⟩]
  show ((List.range 2).map fun i => UInt8.ofNat ((((a.toNat * 256 + b.toNat : Nat) : Int)).toNat / 256 ^ i % 256)).reverse = [a, b]
  rw [Int.toNat_natCast]
  have e1 : (a.toNat * 256 + b.toNat) / 256 % 256 = a.toNat := by omega
  have e0 : (a.toNat * 256 + b.toNat) / 1 % 256 = b.toNat := by omega
  simp [List.range_succ, e1]
theorem takeP_put {r x r' : List UInt8} (h : takeP r = some (x, r')) : r = lenB x ++ r' := by
  cases r with
  | nil => cases h
  | cons b0 r1 => cases r1 with
    | nil => cases h
    | cons b1 rest =>
      have h' : (if b0.toNat * 256 + b1.toNat ≤ rest.length then some (rest.take (b0.toNat * 256 + b1.toNat), rest.drop (b0.toNat * 256 + b1.toNat)) else none) = some (x, r') := h
      by_cases hle : b0.toNat * 256 + b1.toNat ≤ rest.length
      · rw [if_pos hle] at h'
        cases h'
        unfold lenB
        rw [List.length_take, Nat.min_eq_left hle, great2]
        simp
      · rw [if_neg hle] at h'
        cases h'
theorem takeN_put : ∀ {k : Nat} {b : List UInt8} {ls : List (List UInt8)} {r : List UInt8}, takeN k b = some (ls, r) → b = listsB ls ++ r ∧ ls.length = k
  | 0, b, ls, r, h => by cases h; simp [listsB]
  | k + 1, b, ls, r, h => by
    simp only [takeN] at h
    cases h1 : takeN k b with
    | none => rw [h1] at h; cases h
    | some p =>
      obtain ⟨l2, r2⟩ := p
      rw [h1] at h
      simp only at h
      cases h2 : takeP r2 with
      | none => rw [h2] at h; cases h
      | some q =>
        obtain ⟨x, r3⟩ := q
        rw [h2] at h
        cases h
        obtain ⟨e1, e2⟩ := takeN_put h1
        have e3 := takeP_put h2
        refine ⟨?_, by simp [e2]⟩
        rw [listsB_app, e1, e3]
        simp [listsB]
def readerR (b : List UInt8) (ls : List (List UInt8)) : MReader := ⟨b.take 32, ((b.getD 32 0).toNat : Int), ls.take (b.getD 33 0).toNat, ls.drop (b.getD 33 0).toNat⟩
noncomputable def readerOf (b : List UInt8) : MReader × Bool :=
  if 34 ≤ b.length then match takeN (2 * (b.getD 33 0).toNat) (b.drop 34) with
    | some (ls, []) => if readerOk (readerR b ls) = true then (readerR b ls, true) else (zReader, false)
    | _ => (zReader, false)
  else (zReader, false)
theorem readerOf_short {b : List UInt8} (h : ¬ 34 ≤ b.length) : readerOf b = (zReader, false) := by unfold readerOf; rw [if_neg h]
theorem readerOf_none {b : List UInt8} (h : 34 ≤ b.length) (h2 : takeN (2 * (b.getD 33 0).toNat) (b.drop 34) = none) : readerOf b = (zReader, false) := by unfold readerOf; rw [if_pos h, h2]
theorem readerOf_rest {b : List UInt8} {ls : List (List UInt8)} {r : List UInt8} (h : 34 ≤ b.length) (h2 : takeN (2 * (b.getD 33 0).toNat) (b.drop 34) = some (ls, r)) (hr : 0 < r.length) : readerOf b = (zReader, false) := by
  unfold readerOf; rw [if_pos h, h2]
  cases r with
  | nil => simp at hr
  | cons _ _ => rfl
theorem readerOf_bad {b : List UInt8} {ls : List (List UInt8)} (h : 34 ≤ b.length) (h2 : takeN (2 * (b.getD 33 0).toNat) (b.drop 34) = some (ls, [])) (hr : readerOk (readerR b ls) = false) : readerOf b = (zReader, false) := by
  unfold readerOf; rw [if_pos h, h2]; simp only []; rw [if_neg (by rw [hr]; decide)]
theorem readerOf_good {b : List UInt8} {ls : List (List UInt8)} (h : 34 ≤ b.length) (h2 : takeN (2 * (b.getD 33 0).toNat) (b.drop 34) = some (ls, [])) (hr : readerOk (readerR b ls) = true) : readerOf b = (readerR b ls, true) := by
  unfold readerOf; rw [if_pos h, h2]; simp only []; rw [if_pos hr]
/-- What was read is, as bytes, what it was read from. -/
theorem reader_put {b : List UInt8} {ls : List (List UInt8)} (h : 34 ≤ b.length) (h2 : takeN (2 * (b.getD 33 0).toNat) (b.drop 34) = some (ls, [])) (hr : readerOk (readerR b ls) = true) : readerBytes (readerR b ls) = b := by
  obtain ⟨e1, e2⟩ := takeN_put h2
  rw [List.append_nil] at e1
  unfold readerBytes
  rw [if_pos hr]
  show b.take 32 ++ [UInt8.ofNat (((b.getD 32 0).toNat : Int)).toNat, UInt8.ofNat (ls.take (b.getD 33 0).toNat).length] ++ listsB (ls.take (b.getD 33 0).toNat ++ ls.drop (b.getD 33 0).toNat) = b
  rw [List.take_append_drop, ← e1, List.length_take, e2, Nat.min_eq_left (by omega), Int.toNat_natCast, UInt8.ofNat_toNat, UInt8.ofNat_toNat]
  have d1 : b.drop 32 = b.getD 32 0 :: b.drop 33 := by
    rw [List.drop_eq_getElem_cons (show 32 < b.length by omega), List.getD_eq_getElem?_getD, List.getElem?_eq_getElem (by omega)]; rfl
  have d2 : b.drop 33 = b.getD 33 0 :: b.drop 34 := by
    rw [List.drop_eq_getElem_cons (show 33 < b.length by omega), List.getD_eq_getElem?_getD, List.getElem?_eq_getElem (by omega)]; rfl
  rw [List.append_assoc]
  show b.take 32 ++ (b.getD 32 0 :: b.getD 33 0 :: b.drop 34) = b
  rw [← d2, ← d1, List.take_append_drop]
end Go.Proofs.Ytijbmapeechcpaa.V
