/- Items, queues, lines, books and posts, in plain Lean: what the functions answer. -/
import Derived.Test.YtdljbekkckfmnaaGreatWt
import Derived.Test.YtdljbekkckfmnaaGreatWk
import Derived.Test.YtdljbekkckfmnaaGreatPx
import Derived.Test.YtdljbekkckfmnaaGreatPh
namespace Go.Proofs.YtdljbekkckfmnaaGreat.V
open Go Go.RowKit
set_option linter.unusedVariables false

/-! ### items -/
def itemOk (x : MItem) : Bool := isRoute x.f_Route && decide (0 ≤ x.f_Topic ∧ x.f_Topic ≤ 9) && decide (0 ≤ x.f_Due ∧ x.f_Due ≤ 100000) && decide (x.f_Bytes.length ≤ 1560)
theorem itemOk_iff {x : MItem} : itemOk x = true ↔ isRoute x.f_Route = true ∧ (0 ≤ x.f_Topic ∧ x.f_Topic ≤ 9) ∧ (0 ≤ x.f_Due ∧ x.f_Due ≤ 100000) ∧ x.f_Bytes.length ≤ 1560 := by
  unfold itemOk
  simp only [Bool.and_eq_true, decide_eq_true_eq, and_assoc]
def hasR (r : List UInt8) (x : MItem) : Bool := decide (x.f_Route = r)
def ofN (q : List MItem) (r : List UInt8) : Nat := q.countP (hasR r)
theorem ofN_le (q : List MItem) (r : List UInt8) : ofN q r ≤ q.length := List.countP_le_length
theorem ofN_succ {q : List MItem} {k : Nat} (h : k < q.length) (r : List UInt8) : ofN (q.take (k + 1)) r = ofN (q.take k) r + (if q[k].f_Route = r then 1 else 0) := by
  unfold ofN
  rw [List.take_succ_eq_append_getElem h, List.countP_append, List.countP_singleton]
  unfold hasR
  simp only [decide_eq_true_eq]
/-- The same route and topic. -/
def twin (x y : MItem) : Bool := decide (y.f_Route = x.f_Route) && decide (y.f_Topic = x.f_Topic)
def itAt (q : List MItem) (i : Nat) : MItem := q.getD i zItem
theorem itAt_eq {q : List MItem} {i : Nat} (h : i < q.length) : itAt q i = q[i] := by unfold itAt; rw [List.getD_eq_getElem?_getD, List.getElem?_eq_getElem h, Option.getD_some]
def qAt (q : List MItem) (i : Nat) : Bool := itemOk (itAt q i) && decide (ofN q (itAt q i).f_Route ≤ 4) && !(decide (0 < (itAt q i).f_Topic) && (q.take i).any (twin (itAt q i)))
def queueOk (q : List MItem) : Bool := decide (q.length ≤ 10) && (List.range q.length).all (qAt q)
theorem queueOk_iff {q : List MItem} : queueOk q = true ↔ q.length ≤ 10 ∧ ∀ i, i < q.length → qAt q i = true := by
  unfold queueOk
  simp only [Bool.and_eq_true, decide_eq_true_eq, List.all_eq_true, List.mem_range]
theorem queueOk_bad {q : List MItem} {i : Nat} (hi : i < q.length) (h : qAt q i = false) : queueOk q = false := by
  rw [Bool.eq_false_iff]
  intro hq
  have := (queueOk_iff.1 hq).2 i hi
  rw [h] at this; cases this
theorem queueOk_long {q : List MItem} (h : ¬ q.length ≤ 10) : queueOk q = false := by
  unfold queueOk; rw [decide_eq_false h]; rfl
theorem queueOk_item {q : List MItem} (h : queueOk q = true) : ∀ x ∈ q, itemOk x = true := by
  intro x hx
  obtain ⟨i, hi, rfl⟩ := List.getElem_of_mem hx
  have := (queueOk_iff.1 h).2 i hi
  unfold qAt at this
  rw [itAt_eq hi] at this
  simp only [Bool.and_eq_true] at this
  exact this.1.1
def keepP (x y : MItem) : Bool := !(decide (0 < x.f_Topic) && twin x y)
def putL (q : List MItem) (x : MItem) : List MItem := q.filter (keepP x) ++ [x]
theorem putL_len (q : List MItem) (x : MItem) : (putL q x).length ≤ q.length + 1 := by
  unfold putL
  rw [List.length_append]
  have := List.length_filter_le (keepP x) q
  simp only [List.length_cons, List.length_nil]; omega
def put (q : List MItem) (x : MItem) : List MItem × Bool := if queueOk (putL q x) = true then (putL q x, true) else (q, false)
def dueP (now : Int) (x : MItem) : Bool := decide (now ≤ x.f_Due)
def due (q : List MItem) (now : Int) : List MItem := q.filter (dueP now)
def takeAt (q : List MItem) (r : List UInt8) : Option Nat := q.findIdx? (hasR r)
def takeQ (q : List MItem) (r : List UInt8) : MItem × List MItem × Bool :=
  match takeAt q r with
  | some i => (itAt q i, q.eraseIdx i, true)
  | none => (zItem, q, false)
theorem takeAt_some {q : List MItem} {r : List UInt8} {i : Nat} (hi : i < q.length) (h : hasR r q[i] = true) (hn : ∀ j (hj : j < q.length), j < i → hasR r q[j] = false) : takeAt q r = some i := by
  unfold takeAt
  rw [List.findIdx?_eq_some_iff_getElem]
  exact ⟨hi, h, fun j hj => by simpa using hn j (by omega) hj⟩
theorem takeAt_none {q : List MItem} {r : List UInt8} (hn : ∀ j (hj : j < q.length), hasR r q[j] = false) : takeAt q r = none := by
  unfold takeAt
  rw [List.findIdx?_eq_none_iff]
  intro y hy
  obtain ⟨j, hj, rfl⟩ := List.getElem_of_mem hy
  simpa using hn j hj
theorem takeQ_some {q : List MItem} {r : List UInt8} {i : Nat} (hi : i < q.length) (h : takeAt q r = some i) : takeQ q r = (q[i], q.eraseIdx i, true) := by
  unfold takeQ; rw [h]; simp only [itAt_eq hi]
theorem takeQ_none {q : List MItem} {r : List UInt8} (h : takeAt q r = none) : takeQ q r = (zItem, q, false) := by
  unfold takeQ; rw [h]

/-! ### lines -/
def itemOf (l : MLine) : MItem := ⟨l.f_Route, l.f_Topic, l.f_Due, l.f_Bytes⟩
def lineOk (l : MLine) : Bool :=
  if l.f_Kind = 1 then itemOk (itemOf l)
  else if l.f_Kind = 2 then isRoute l.f_Route && decide (l.f_Topic = 0) && decide (l.f_Due = 0) && decide (l.f_Bytes.length = 0)
  else if l.f_Kind = 3 then decide (0 ≤ l.f_Due ∧ l.f_Due ≤ 100000) && decide (l.f_Route = []) && decide (l.f_Topic = 0) && decide (l.f_Bytes.length = 0)
  else false
def u8i (n : Int) : UInt8 := UInt8.ofNat (n % 256).toNat
def lineRoute (l : MLine) : List UInt8 := if l.f_Kind = 3 then List.replicate 8 0 else unhexB l.f_Route
def lineHead (l : MLine) : List UInt8 := [u8i l.f_Kind] ++ lineRoute l ++ [u8i l.f_Topic] ++ greatB l.f_Due 4 ++ greatB (l.f_Bytes.length : Int) 2 ++ l.f_Bytes
def lineBytes (l : MLine) : List UInt8 := if lineOk l = true then lineHead l ++ greatB ((lineHead l).length : Int) 2 else []
theorem lineOk_kind {l : MLine} (h : lineOk l = true) : l.f_Kind = 1 ∨ l.f_Kind = 2 ∨ l.f_Kind = 3 := by
  unfold lineOk at h
  split at h
  · exact .inl ‹_›
  · split at h
    · exact .inr (.inl ‹_›)
    · split at h
      · exact .inr (.inr ‹_›)
      · cases h
theorem isRoute_len {s : List UInt8} (h : isRoute s = true) : unhexOk s = true ∧ (unhexB s).length = 8 := by
  rw [isRoute_spec] at h
  simpa using h
theorem lineOk_bytes {l : MLine} (h : lineOk l = true) : l.f_Bytes.length ≤ 1560 := by
  unfold lineOk at h
  split at h
  · exact (itemOk_iff.1 h).2.2.2
  · split at h
    · simp only [Bool.and_eq_true, decide_eq_true_eq] at h; omega
    · split at h
      · simp only [Bool.and_eq_true, decide_eq_true_eq] at h; omega
      · cases h
theorem lineRoute_len {l : MLine} (h : lineOk l = true) : (lineRoute l).length = 8 := by
  unfold lineRoute
  unfold lineOk at h
  split
  · simp
  · rename_i h3
    split at h
    · exact (isRoute_len (itemOk_iff.1 h).1).2
    · split at h
      · simp only [Bool.and_eq_true] at h
        exact (isRoute_len h.1.1.1).2
      · first | cases h | (split at h <;> first | exact absurd ‹_› h3 | cases h)
theorem gB_len {n many : Int} (h : 0 ≤ n) (h1 : 1 ≤ many) (h2 : many ≤ 8) : (greatB n many).length = many.toNat := by
  unfold greatB littleB
  rw [List.length_reverse, if_pos ⟨h, h1, h2⟩, List.length_map, List.length_range]
theorem lineOk_due {l : MLine} (h : lineOk l = true) : 0 ≤ l.f_Due ∧ l.f_Due ≤ 100000 := by
  unfold lineOk at h
  split at h
  · exact (itemOk_iff.1 h).2.2.1
  · split at h
    · simp only [Bool.and_eq_true, decide_eq_true_eq] at h; omega
    · split at h
      · simp only [Bool.and_eq_true, decide_eq_true_eq] at h; omega
      · cases h
theorem lineHead_len {l : MLine} (h : lineOk l = true) : (lineHead l).length = 16 + l.f_Bytes.length := by
  unfold lineHead
  simp only [List.length_append, List.length_cons, List.length_nil, lineRoute_len h, gB_len (lineOk_due h).1 (many := 4) (by omega) (by omega), gB_len (n := (l.f_Bytes.length : Int)) (many := 2) (by omega) (by omega) (by omega)]
  rw [show (4 : Int).toNat = 4 from rfl, show (2 : Int).toNat = 2 from rfl]
theorem lineBytes_len {l : MLine} (h : lineOk l = true) : (lineBytes l).length = 18 + l.f_Bytes.length := by
  unfold lineBytes
  rw [if_pos h, List.length_append, lineHead_len h, gB_len (by omega) (by omega) (by omega), show (2 : Int).toNat = 2 from rfl]; omega
theorem lineBytes_no {l : MLine} (h : lineOk l = false) : lineBytes l = [] := by unfold lineBytes; rw [if_neg (by rw [h]; decide)]
theorem lineBytes_le (l : MLine) : (lineBytes l).length ≤ 1578 := by
  cases h : lineOk l with
  | false => rw [lineBytes_no h]; simp
  | true => rw [lineBytes_len h]; have := lineOk_bytes h; omega

def be (x : List UInt8) (i : Nat) : Nat := (x.getD i 0).toNat
def lineSz (x : List UInt8) : Nat := 256 * be x 14 + be x 15
def rawLine (x : List UInt8) : MLine :=
  ⟨be x 0, if be x 0 = 3 then [] else hexB ((x.drop 1).take 8), be x 9, w4 (x.getD 10 0) (x.getD 11 0) (x.getD 12 0) (x.getD 13 0), (x.drop 16).take (lineSz x)⟩
def lineAt (x : List UInt8) : Option (MLine × Nat) :=
  if 18 ≤ x.length ∧ 18 + lineSz x ≤ x.length ∧ lineBytes (rawLine x) = x.take (18 + lineSz x) then some (rawLine x, 18 + lineSz x) else none
theorem lineAt_no {x : List UInt8} (h : ¬ (18 ≤ x.length ∧ 18 + lineSz x ≤ x.length ∧ lineBytes (rawLine x) = x.take (18 + lineSz x))) : lineAt x = none := by unfold lineAt; rw [if_neg h]
theorem lineAt_yes {x : List UInt8} (h1 : 18 ≤ x.length) (h2 : 18 + lineSz x ≤ x.length) (h3 : lineBytes (rawLine x) = x.take (18 + lineSz x)) : lineAt x = some (rawLine x, 18 + lineSz x) := by unfold lineAt; rw [if_pos ⟨h1, h2, h3⟩]
theorem lineAt_len {x : List UInt8} {l : MLine} {n : Nat} (h : lineAt x = some (l, n)) : 18 ≤ n ∧ n ≤ x.length ∧ lineOk l = true ∧ lineBytes l = x.take n := by
  unfold lineAt at h
  split at h
  · rename_i hc
    simp only [Option.some.injEq, Prod.mk.injEq] at h
    obtain ⟨rfl, rfl⟩ := h
    refine ⟨by omega, hc.2.1, ?_, hc.2.2⟩
    cases hk : lineOk (rawLine x) with
    | true => rfl
    | false =>
      have h1 := congrArg List.length hc.2.2
      rw [lineBytes_no hk, List.length_take, List.length_nil] at h1
      omega
  · cases h
/-- What is answered of a line at a place. -/
def lineOf (b : List UInt8) (at_ : Int) : MLine × Int × Bool :=
  if 0 ≤ at_ ∧ at_ ≤ (b.length : Int) then
    match lineAt (b.drop at_.toNat) with
    | some (l, n) => (l, at_ + n, true)
    | none => (zLine, 0, false)
  else (zLine, 0, false)
theorem lineOf_out {b : List UInt8} {at_ : Int} (h : ¬ (0 ≤ at_ ∧ at_ ≤ (b.length : Int) - 18)) : lineOf b at_ = (zLine, 0, false) := by
  unfold lineOf
  split
  · rw [lineAt_no (by rw [List.length_drop]; omega)]
  · rfl
theorem lineOf_none {b : List UInt8} {k : Nat} (h : lineAt (b.drop k) = none) : lineOf b (k : Int) = (zLine, 0, false) := by
  unfold lineOf
  split
  · rw [Int.toNat_natCast, h]
  · rfl
theorem lineOf_some {b : List UInt8} {k : Nat} {l : MLine} {n : Nat} (hk : k ≤ b.length) (h : lineAt (b.drop k) = some (l, n)) : lineOf b (k : Int) = (l, ((k + n : Nat) : Int), true) := by
  unfold lineOf
  rw [if_pos ⟨by omega, by omega⟩, Int.toNat_natCast, h]
  simp

/-! ### books -/
def lineStep (q : List MItem) (now : Int) (l : MLine) : List MItem × Int :=
  if l.f_Kind = 1 then ((put q (itemOf l)).1, now)
  else if l.f_Kind = 2 then ((takeQ q l.f_Route).2.1, now)
  else if l.f_Kind = 3 then (if now ≤ l.f_Due then (due q l.f_Due, l.f_Due) else (q, now))
  else (q, now)
def playGo (x : List UInt8) (q : List MItem) (now : Int) (at_ : Nat) : List MItem × Int × Nat :=
  match h : lineAt x with
  | none => (q, now, at_)
  | some (l, n) => playGo (x.drop n) (lineStep q now l).1 (lineStep q now l).2 (at_ + n)
termination_by x.length
decreasing_by
  have := lineAt_len h
  rw [List.length_drop]; omega
theorem playGo_none {x : List UInt8} {q : List MItem} {now : Int} {at_ : Nat} (h : lineAt x = none) : playGo x q now at_ = (q, now, at_) := by
  rw [playGo]
  split
  · rfl
  · rename_i h2; rw [h] at h2; cases h2
theorem playGo_some {x : List UInt8} {q : List MItem} {now : Int} {at_ : Nat} {l : MLine} {n : Nat} (h : lineAt x = some (l, n)) : playGo x q now at_ = playGo (x.drop n) (lineStep q now l).1 (lineStep q now l).2 (at_ + n) := by
  rw [playGo]
  split
  · rename_i h2; rw [h] at h2; cases h2
  · rename_i l2 n2 h2
    rw [h] at h2
    simp only [Option.some.injEq, Prod.mk.injEq] at h2
    obtain ⟨rfl, rfl⟩ := h2
    rfl
def play (b : List UInt8) : List MItem × Int × Nat := playGo b [] 0 0

/-! ### posts -/
def sameI (a b : MItem) : Bool := decide (a.f_Route = b.f_Route) && decide (a.f_Topic = b.f_Topic) && decide (a.f_Due = b.f_Due) && decide (a.f_Bytes = b.f_Bytes)
theorem sameI_iff {a b : MItem} : sameI a b = true ↔ a = b := by
  unfold sameI
  simp only [Bool.and_eq_true, decide_eq_true_eq]
  constructor
  · rintro ⟨⟨⟨h1, h2⟩, h3⟩, h4⟩
    cases a; cases b; simp_all
  · rintro rfl; simp
def sameQ (a b : List MItem) : Bool := decide (a.length = b.length) && (List.range a.length).all fun i => sameI (itAt a i) (itAt b i)
theorem sameQ_iff {a b : List MItem} : sameQ a b = true ↔ a = b := by
  unfold sameQ
  simp only [Bool.and_eq_true, decide_eq_true_eq, List.all_eq_true, List.mem_range]
  constructor
  · rintro ⟨h1, h2⟩
    refine List.ext_getElem h1 fun i h3 h4 => ?_
    have := sameI_iff.1 (h2 i h3)
    rwa [itAt_eq h3, itAt_eq h4] at this
  · rintro rfl
    exact ⟨rfl, fun i hi => sameI_iff.2 rfl⟩
theorem sameQ_bad {a b : List MItem} {i : Nat} (h1 : i < a.length) (h2 : i < b.length) (h : sameI a[i] b[i] = false) : sameQ a b = false := by
  rw [Bool.eq_false_iff]
  intro hs
  have := sameQ_iff.1 hs
  subst this
  rw [sameI_iff.2 rfl] at h; cases h
theorem sameQ_len {a b : List MItem} (h : ¬ a.length = b.length) : sameQ a b = false := by
  unfold sameQ; rw [decide_eq_false h]; rfl
theorem sameQ_good {a b : List MItem} (h : a.length = b.length) (h2 : ∀ i (h1 : i < a.length) (h2 : i < b.length), sameI a[i] b[i] = true) : sameQ a b = true :=
  sameQ_iff.2 (List.ext_getElem h fun i h3 h4 => sameI_iff.1 (h2 i h3 h4))
def postFront (p : MPost) : Bool := queueOk p.f_Queue && decide (0 ≤ p.f_Time ∧ p.f_Time ≤ 100000) && decide (p.f_Book.length ≤ 12000) && decide (0 ≤ p.f_Sure ∧ p.f_Sure ≤ (p.f_Book.length : Int))
def postOk (p : MPost) : Bool := postFront p && decide ((play p.f_Book).2.2 = p.f_Book.length) && decide ((play p.f_Book).2.1 = p.f_Time) && sameQ (play p.f_Book).1 p.f_Queue
theorem postOk_iff {p : MPost} : postOk p = true ↔ (queueOk p.f_Queue = true ∧ (0 ≤ p.f_Time ∧ p.f_Time ≤ 100000) ∧ p.f_Book.length ≤ 12000 ∧ (0 ≤ p.f_Sure ∧ p.f_Sure ≤ (p.f_Book.length : Int))) ∧ play p.f_Book = (p.f_Queue, p.f_Time, p.f_Book.length) := by
  unfold postOk postFront
  simp only [Bool.and_eq_true, decide_eq_true_eq, sameQ_iff]
  constructor
  · rintro ⟨⟨⟨⟨⟨⟨h1, h2⟩, h3⟩, h4⟩, h5⟩, h6⟩, h7⟩
    exact ⟨⟨h1, h2, h3, h4⟩, by rw [← h5, ← h6, ← h7]⟩
  · rintro ⟨⟨h1, h2, h3, h4⟩, h5⟩
    rw [h5]
    exact ⟨⟨⟨⟨⟨⟨h1, h2⟩, h3⟩, h4⟩, rfl⟩, rfl⟩, rfl⟩
def putLine (x : MItem) : MLine := ⟨1, x.f_Route, x.f_Topic, x.f_Due, x.f_Bytes⟩
def takeLine (r : List UInt8) : MLine := ⟨2, r, 0, 0, []⟩
def timeLine (n : Int) : MLine := ⟨3, [], 0, n, []⟩
def fits (p : MPost) (l : MLine) : Bool := decide (p.f_Book.length + (lineBytes l).length ≤ 12000)
def dropP (p : MPost) (x : MItem) : MPost × Int :=
  if (postOk p && itemOk x && decide (p.f_Time ≤ x.f_Due)) = true then
    if ((put p.f_Queue x).2 && fits p (putLine x)) = true then (⟨(put p.f_Queue x).1, p.f_Time, p.f_Book ++ lineBytes (putLine x), p.f_Sure⟩, 0) else (p, 2)
  else (p, 1)
def fetchP (p : MPost) (r : List UInt8) : MPost × MItem × Int :=
  if (postOk p && isRoute r) = true then
    if (takeQ p.f_Queue r).2.2 = true then
      if fits p (takeLine r) = true then (⟨(takeQ p.f_Queue r).2.1, p.f_Time, p.f_Book ++ lineBytes (takeLine r), p.f_Sure⟩, (takeQ p.f_Queue r).1, 0) else (p, zItem, 2)
    else (p, zItem, 3)
  else (p, zItem, 1)
def tickP (p : MPost) (now : Int) : MPost × Int :=
  if (postOk p && decide (p.f_Time ≤ now ∧ now ≤ 100000)) = true then
    if fits p (timeLine now) = true then (⟨due p.f_Queue now, now, p.f_Book ++ lineBytes (timeLine now), p.f_Sure⟩, 0) else (p, 2)
  else (p, 1)
def syncP (p : MPost) : MPost := if postOk p = true then ⟨p.f_Queue, p.f_Time, p.f_Book, p.f_Book.length⟩ else p
def keptB (p : MPost) (keep : Int) : List UInt8 := p.f_Book.take (p.f_Sure + max 0 (min keep (p.f_Book.length - p.f_Sure))).toNat
def fallP (p : MPost) (keep : Int) : MPost :=
  if postOk p = true then ⟨(play (keptB p keep)).1, (play (keptB p keep)).2.1, (keptB p keep).take (play (keptB p keep)).2.2, ((play (keptB p keep)).2.2 : Int)⟩ else p

/-! ### lists of lines -/
def linesGo : Nat → List UInt8 → List (List UInt8)
  | 0, _ => []
  | k + 1, x => match lineAt x with
    | none => []
    | some (l, n) => lineBytes l :: linesGo k (x.drop n)
def linesOf (b : List UInt8) : List (List UInt8) := linesGo 40 b
end Go.Proofs.YtdljbekkckfmnaaGreat.V
