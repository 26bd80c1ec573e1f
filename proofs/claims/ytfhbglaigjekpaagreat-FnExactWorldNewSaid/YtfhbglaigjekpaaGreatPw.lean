/- Worlds and what is judged of them, in plain Lean: what the functions answer. -/
import Derived.Test.YtfhbglaigjekpaaGreatPq
import Derived.Test.YtfhbglaigjekpaaGreatWf
namespace Go.Proofs.YtfhbglaigjekpaaGreat.V
open Go Go.RowKit
set_option linter.unusedVariables false

def noItem (x : MItem) : Bool := decide (x.f_Route = []) && decide (x.f_Topic = 0) && decide (x.f_Due = 0) && decide (x.f_Bytes.length = 0)
def wireOk (x : MWire) : Bool := if x.f_ToPost = true then itemOk x.f_Item && decide (x.f_Bytes.length = 0) else noItem x.f_Item && decide (x.f_Bytes.length ≤ 1560)
def sentOk (s : MSent) : Bool := decide (s.f_Note.length ≤ 200) && isRoute s.f_Route && decide (s.f_Bytes.length ≤ 1560) && decide (0 ≤ s.f_Epoch ∧ s.f_Epoch ≤ 40)
theorem wireOk_post {x : MWire} (h : x.f_ToPost = true) : wireOk x = (itemOk x.f_Item && decide (x.f_Bytes.length = 0)) := by unfold wireOk; rw [if_pos h]
theorem wireOk_read {x : MWire} (h : x.f_ToPost = false) : wireOk x = (noItem x.f_Item && decide (x.f_Bytes.length ≤ 1560)) := by unfold wireOk; rw [if_neg (by rw [h]; decide)]
theorem sentOk_iff {s : MSent} : sentOk s = true ↔ s.f_Note.length ≤ 200 ∧ isRoute s.f_Route = true ∧ s.f_Bytes.length ≤ 1560 ∧ (0 ≤ s.f_Epoch ∧ s.f_Epoch ≤ 40) := by
  unfold sentOk
  simp only [Bool.and_eq_true, decide_eq_true_eq, and_assoc]
theorem sentOk_no {s : MSent} (h : ¬ (s.f_Note.length ≤ 200 ∧ isRoute s.f_Route = true ∧ s.f_Bytes.length ≤ 1560 ∧ (0 ≤ s.f_Epoch ∧ s.f_Epoch ≤ 40))) : sentOk s = false := by
  rw [Bool.eq_false_iff]
  exact fun hs => h (sentOk_iff.1 hs)
noncomputable def worldOk (x : MWorld) : Bool := decide (x.f_Seed.length = 32) && decide (0 ≤ x.f_Count ∧ x.f_Count ≤ 12) && decide (0 ≤ x.f_Known ∧ x.f_Known ≤ 40) && postOk x.f_Post && readerOk x.f_Reader && decide (x.f_Net.length ≤ 12) && decide ((x.f_Sent.length : Int) = x.f_Count) && x.f_Net.all wireOk && x.f_Sent.all sentOk
theorem worldOk_iff {x : MWorld} : worldOk x = true ↔ x.f_Seed.length = 32 ∧ (0 ≤ x.f_Count ∧ x.f_Count ≤ 12) ∧ (0 ≤ x.f_Known ∧ x.f_Known ≤ 40) ∧ postOk x.f_Post = true ∧ readerOk x.f_Reader = true ∧ x.f_Net.length ≤ 12 ∧ (x.f_Sent.length : Int) = x.f_Count ∧ x.f_Net.all wireOk = true ∧ x.f_Sent.all sentOk = true := by
  unfold worldOk
  simp only [Bool.and_eq_true, decide_eq_true_eq, and_assoc]
theorem worldOk_no {x : MWorld} (h : ¬ (x.f_Seed.length = 32 ∧ (0 ≤ x.f_Count ∧ x.f_Count ≤ 12) ∧ (0 ≤ x.f_Known ∧ x.f_Known ≤ 40) ∧ postOk x.f_Post = true ∧ readerOk x.f_Reader = true ∧ x.f_Net.length ≤ 12 ∧ (x.f_Sent.length : Int) = x.f_Count ∧ x.f_Net.all wireOk = true ∧ x.f_Sent.all sentOk = true)) : worldOk x = false := by
  rw [Bool.eq_false_iff]
  exact fun hs => h (worldOk_iff.1 hs)
theorem any_not {α : Type} {l : List α} {p : α → Bool} : (l.any fun x => !p x) = !(l.all p) := by
  induction l with
  | nil => rfl
  | cons a l ih => simp only [List.any_cons, List.all_cons, ih, Bool.not_and]

/-! ### what is judged -/
def sentBy (b : List UInt8) (s : MSent) : Bool := decide (s.f_Bytes = b)
def sentAt (x : MWorld) (b : List UInt8) : Option Nat := x.f_Sent.findIdx? (sentBy b)
theorem sentAt_some {x : MWorld} {b : List UInt8} {i : Nat} (hi : i < x.f_Sent.length) (h : sentBy b x.f_Sent[i] = true) (hn : ∀ j (hj : j < x.f_Sent.length), j < i → sentBy b x.f_Sent[j] = false) : sentAt x b = some i := by
  unfold sentAt
  rw [List.findIdx?_eq_some_iff_getElem]
  exact ⟨hi, h, fun j hj => by simpa using hn j (by omega) hj⟩
theorem sentAt_none {x : MWorld} {b : List UInt8} (hn : ∀ j (hj : j < x.f_Sent.length), sentBy b x.f_Sent[j] = false) : sentAt x b = none := by
  unfold sentAt
  rw [List.findIdx?_eq_none_iff]
  intro y hy
  obtain ⟨j, hj, rfl⟩ := List.getElem_of_mem hy
  simpa using hn j hj
theorem sentAt_lt {x : MWorld} {b : List UInt8} {i : Nat} (h : sentAt x b = some i) : i < x.f_Sent.length := by
  unfold sentAt at h
  exact (List.findIdx?_eq_some_iff_getElem.1 h).1
/-- The place as a number, -1 where there is none. -/
def atI : Option Nat → Int
  | some i => (i : Int)
  | none => -1
def listAt {α : Type} (l : List (List α)) (i : Nat) : List α := l.getD i []
theorem listAt_eq {α : Type} {l : List (List α)} {i : Nat} (h : i < l.length) : listAt l i = l[i] := by unfold listAt; rw [List.getD_eq_getElem?_getD, List.getElem?_eq_getElem h, Option.getD_some]
def noteAt (x : MWorld) (i : Nat) : List UInt8 := (x.f_Sent.getD i zSent).f_Note
theorem noteAt_eq {x : MWorld} {i : Nat} (h : i < x.f_Sent.length) : noteAt x i = x.f_Sent[i].f_Note := by unfold noteAt; rw [List.getD_eq_getElem?_getD, List.getElem?_eq_getElem h, Option.getD_some]
def routeAt (x : MWorld) (i : Nat) : List UInt8 := (x.f_Sent.getD i zSent).f_Route
theorem routeAt_eq {x : MWorld} {i : Nat} (h : i < x.f_Sent.length) : routeAt x i = x.f_Sent[i].f_Route := by unfold routeAt; rw [List.getD_eq_getElem?_getD, List.getElem?_eq_getElem h, Option.getD_some]
def readAt (x : MWorld) (i : Nat) : Bool :=
  match sentAt x (listAt x.f_Reader.f_Seen i) with
  | some k => decide (noteAt x k = listAt x.f_Reader.f_Got i)
  | none => false
noncomputable def judgeRead (x : MWorld) : Bool := worldOk x && (List.range x.f_Reader.f_Seen.length).all (readAt x)
noncomputable def judgeOnce (x : MWorld) : Bool := worldOk x && decide (x.f_Reader.f_Got.length ≤ x.f_Sent.length)
theorem judgeRead_no {x : MWorld} (h : worldOk x = false) : judgeRead x = false := by unfold judgeRead; rw [h]; rfl
theorem judgeRead_bad {x : MWorld} {i : Nat} (hi : i < x.f_Reader.f_Seen.length) (h : readAt x i = false) : judgeRead x = false := by
  rw [Bool.eq_false_iff]
  intro hj
  unfold judgeRead at hj
  simp only [Bool.and_eq_true, List.all_eq_true, List.mem_range] at hj
  rw [hj.2 i hi] at h; cases h
theorem judgeRead_good {x : MWorld} (hw : worldOk x = true) (h : ∀ i, i < x.f_Reader.f_Seen.length → readAt x i = true) : judgeRead x = true := by
  unfold judgeRead
  rw [hw, Bool.true_and, List.all_eq_true]
  exact fun i hi => h i (List.mem_range.1 hi)
/-- How long a note is when it is filled up. -/
def padLen (n : Nat) : Nat := if n + 2 > 96 then (n + 2) + (96 - (n + 2) % 96) % 96 else (n + 2) + (32 - (n + 2) % 32) % 32
def blind (x : MWorld) (y : MItem) : Bool :=
  match sentAt x y.f_Bytes with
  | some k => decide (routeAt x k = y.f_Route) && decide (y.f_Bytes.length = 51 + padLen (noteAt x k).length)
  | none => false
def wireBlind (x : MWorld) (y : MWire) : Bool := if y.f_ToPost = true then blind x y.f_Item else (sentAt x y.f_Bytes).isSome
noncomputable def judgeBlind (x : MWorld) : Bool := worldOk x && x.f_Post.f_Queue.all (blind x) && x.f_Net.all (wireBlind x)
noncomputable def judgeAll (x : MWorld) : Bool := judgeRead x && judgeOnce x && judgeBlind x
theorem judgeBlind_no {x : MWorld} (h : worldOk x = false) : judgeBlind x = false := by unfold judgeBlind; rw [h]; rfl
theorem judgeBlind_q {x : MWorld} {i : Nat} (hi : i < x.f_Post.f_Queue.length) (h : blind x x.f_Post.f_Queue[i] = false) : judgeBlind x = false := by
  rw [Bool.eq_false_iff]
  intro hj
  unfold judgeBlind at hj
  simp only [Bool.and_eq_true, List.all_eq_true] at hj
  rw [hj.1.2 _ (List.getElem_mem hi)] at h; cases h
theorem judgeBlind_n {x : MWorld} {i : Nat} (hi : i < x.f_Net.length) (h : wireBlind x x.f_Net[i] = false) : judgeBlind x = false := by
  rw [Bool.eq_false_iff]
  intro hj
  unfold judgeBlind at hj
  simp only [Bool.and_eq_true, List.all_eq_true] at hj
  rw [hj.2 _ (List.getElem_mem hi)] at h; cases h
theorem judgeBlind_good {x : MWorld} (hw : worldOk x = true) (hq : ∀ i (h : i < x.f_Post.f_Queue.length), blind x x.f_Post.f_Queue[i] = true) (hn : ∀ i (h : i < x.f_Net.length), wireBlind x x.f_Net[i] = true) : judgeBlind x = true := by
  unfold judgeBlind
  simp only [Bool.and_eq_true, List.all_eq_true]
  refine ⟨⟨hw, fun y hy => ?_⟩, fun y hy => ?_⟩
  · obtain ⟨i, hi, rfl⟩ := List.getElem_of_mem hy
    exact hq i hi
  · obtain ⟨i, hi, rfl⟩ := List.getElem_of_mem hy
    exact hn i hi
end Go.Proofs.YtfhbglaigjekpaaGreat.V
