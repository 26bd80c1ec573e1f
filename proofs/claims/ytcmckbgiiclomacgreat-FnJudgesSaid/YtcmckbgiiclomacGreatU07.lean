/- Texts laid by programs, part 7. -/
import Derived.Test.YtcmckbgiiclomacGreatU06
import Derived.Test.YtcmckbgiiclomacGreatU05
import Derived.Test.YtcmckbgiiclomacGreatU03
import Derived.Test.YtcmckbgiiclomacGreatU04
namespace Go.Proofs.YtcmckbgiiclomacGreat.V
open Go Go.RowKit
set_option maxRecDepth 100000
set_option maxHeartbeats 4000000
set_option linter.unusedSimpArgs false
set_option linter.unusedVariables false
set_option pp.deepTerms false
set_option pp.deepTerms.threshold 3
def itemOk (x : MItem) : Bool := isRoute x.f_Route && decide (0 ≤ x.f_Topic ∧ x.f_Topic ≤ 9) && decide (0 ≤ x.f_Due ∧ x.f_Due ≤ 100000) && decide (x.f_Bytes.length ≤ 1560)
theorem itemOk_iff {x : MItem} : itemOk x = true ↔ isRoute x.f_Route = true ∧ (0 ≤ x.f_Topic ∧ x.f_Topic ≤ 9) ∧ (0 ≤ x.f_Due ∧ x.f_Due ≤ 100000) ∧ x.f_Bytes.length ≤ 1560 := by
  unfold itemOk; simp only [Bool.and_eq_true, decide_eq_true_eq, and_assoc]
def hasR (r : List UInt8) (x : MItem) : Bool := decide (x.f_Route = r)
def ofN (q : List MItem) (r : List UInt8) : Nat := q.countP (hasR r)
theorem ofN_le (q : List MItem) (r : List UInt8) : ofN q r ≤ q.length := List.countP_le_length
theorem ofN_succ {q : List MItem} {k : Nat} (h : k < q.length) (r : List UInt8) : ofN (q.take (k + 1)) r = ofN (q.take k) r + (if q[k].f_Route = r then 1 else 0) := by
  unfold ofN; rw [List.take_succ_eq_append_getElem h, List.countP_append, List.countP_singleton]; unfold hasR; simp only [decide_eq_true_eq]
def twin (x y : MItem) : Bool := decide (y.f_Route = x.f_Route) && decide (y.f_Topic = x.f_Topic)
def itAt (q : List MItem) (i : Nat) : MItem := q.getD i zItem
theorem itAt_eq {q : List MItem} {i : Nat} (h : i < q.length) : itAt q i = q[i] := by unfold itAt; rw [List.getD_eq_getElem?_getD, List.getElem?_eq_getElem h, Option.getD_some]
def qAt (q : List MItem) (i : Nat) : Bool := itemOk (itAt q i) && decide (ofN q (itAt q i).f_Route ≤ 4) && !(decide (0 < (itAt q i).f_Topic) && (q.take i).any (twin (itAt q i)))
def queueOk (q : List MItem) : Bool := decide (q.length ≤ 10) && (List.range q.length).all (qAt q)
theorem queueOk_iff {q : List MItem} : queueOk q = true ↔ q.length ≤ 10 ∧ ∀ i, i < q.length → qAt q i = true := by
  unfold queueOk; simp only [Bool.and_eq_true, decide_eq_true_eq, List.all_eq_true, List.mem_range]
theorem queueOk_bad {q : List MItem} {i : Nat} (hi : i < q.length) (h : qAt q i = false) : queueOk q = false := by
  rw [Bool.eq_false_iff]; intro hq; have := (queueOk_iff.1 hq).2 i hi; rw [h] at this; cases this
theorem queueOk_long {q : List MItem} (h : ¬ q.length ≤ 10) : queueOk q = false := by
  unfold queueOk; rw [decide_eq_false h]; rfl
theorem queueOk_item {q : List MItem} (h : queueOk q = true) : ∀ x ∈ q, itemOk x = true := by
  intro x hx; obtain ⟨i, hi, rfl⟩ := List.getElem_of_mem hx; have := (queueOk_iff.1 h).2 i hi; unfold qAt at this; rw [itAt_eq hi] at this; simp only [Bool.and_eq_true] at this; exact this.1.1
def keepP (x y : MItem) : Bool := !(decide (0 < x.f_Topic) && twin x y)
def putL (q : List MItem) (x : MItem) : List MItem := q.filter (keepP x) ++ [x]
theorem putL_len (q : List MItem) (x : MItem) : (putL q x).length ≤ q.length + 1 := by
  unfold putL; rw [List.length_append]; have := List.length_filter_le (keepP x) q; simp only [List.length_cons, List.length_nil]; omega
def put (q : List MItem) (x : MItem) : List MItem × Bool := if queueOk (putL q x) = true then (putL q x, true) else (q, false)
def dueP (now : Int) (x : MItem) : Bool := decide (now ≤ x.f_Due)
def due (q : List MItem) (now : Int) : List MItem := q.filter (dueP now)
def takeAt (q : List MItem) (r : List UInt8) : Option Nat := q.findIdx? (hasR r)
def takeQ (q : List MItem) (r : List UInt8) : MItem × List MItem × Bool :=
  match takeAt q r with
  | some i => (itAt q i, q.eraseIdx i, true)
  | none => (zItem, q, false)
theorem takeAt_some {q : List MItem} {r : List UInt8} {i : Nat} (hi : i < q.length) (h : hasR r q[i] = true) (hn : ∀ j (hj : j < q.length), j < i → hasR r q[j] = false) : takeAt q r = some i := by
  unfold takeAt; rw [List.findIdx?_eq_some_iff_getElem]; exact ⟨hi, h, fun j hj => by simpa using hn j (by omega) hj⟩
theorem takeAt_none {q : List MItem} {r : List UInt8} (hn : ∀ j (hj : j < q.length), hasR r q[j] = false) : takeAt q r = none := by
  unfold takeAt; rw [List.findIdx?_eq_none_iff]; intro y hy; obtain ⟨j, hj, rfl⟩ := List.getElem_of_mem hy
  simpa using hn j hj
theorem takeQ_some {q : List MItem} {r : List UInt8} {i : Nat} (hi : i < q.length) (h : takeAt q r = some i) : takeQ q r = (q[i], q.eraseIdx i, true) := by
  unfold takeQ; rw [h]; simp only [itAt_eq hi]
theorem takeQ_none {q : List MItem} {r : List UInt8} (h : takeAt q r = none) : takeQ q r = (zItem, q, false) := by
  unfold takeQ; rw [h]
def itemOf (l : MLine) : MItem := ⟨l.f_Route, l.f_Topic, l.f_Due, l.f_Bytes⟩
def lineOk (l : MLine) : Bool :=
  if l.f_Kind = 1 then itemOk (itemOf l)
  else if l.f_Kind = 2 then isRoute l.f_Route && decide (l.f_Topic = 0) && decide (l.f_Due = 0) && decide (l.f_Bytes.length = 0)
  else if l.f_Kind = 3 then decide (0 ≤ l.f_Due ∧ l.f_Due ≤ 100000) && decide (l.f_Route = []) && decide (l.f_Topic = 0) && decide (l.f_Bytes.length = 0)
  else false
def u8i (n : Int) : UInt8 := UInt8.ofNat (n % 256).toNat
def lineRoute (l : MLine) : List UInt8 := if l.f_Kind = 3 then List.replicate 8 0 else unhexB l.f_Route
def lineHead (l : MLine) : List UInt8 := [u8i l.f_Kind] ++ lineRoute l ++ [u8i l.f_Topic] ++ greatB l.f_Due 4 ++ greatB (l.f_Bytes.length : Int) 2 ++ l.f_Bytes
def lineBytes (l : MLine) : List UInt8 := if lineOk l = true then lineHead l ++ greatB ((lineHead l).length : Int) 2 else []
theorem lineOk_kind {l : MLine} (h : lineOk l = true) : l.f_Kind = 1 ∨ l.f_Kind = 2 ∨ l.f_Kind = 3 := by
  unfold lineOk at h
  split at h
  · exact .inl ‹_›
  · split at h
    · exact .inr (.inl ‹_›)
    · split at h
      · exact .inr (.inr ‹_›)
      · cases h
theorem isRoute_len {s : List UInt8} (h : isRoute s = true) : unhexOk s = true ∧ (unhexB s).length = 8 := by
  rw [isRoute_spec] at h
  simpa using h
theorem lineOk_bytes {l : MLine} (h : lineOk l = true) : l.f_Bytes.length ≤ 1560 := by
  unfold lineOk at h
  split at h
  · exact (itemOk_iff.1 h).2.2.2
  · split at h
    · simp only [Bool.and_eq_true, decide_eq_true_eq] at h; omega
    · split at h
      · simp only [Bool.and_eq_true, decide_eq_true_eq] at h; omega
      · cases h
theorem lineRoute_len {l : MLine} (h : lineOk l = true) : (lineRoute l).length = 8 := by
  unfold lineRoute; unfold lineOk at h
  split
  · simp
  · rename_i h3
    split at h
    · exact (isRoute_len (itemOk_iff.1 h).1).2
    · split at h
      · simp only [Bool.and_eq_true] at h
        exact (isRoute_len h.1.1.1).2
      · first | cases h | (split at h <;> first | exact absurd ‹_› h3 | cases h)
theorem gB_len {n many : Int} (h : 0 ≤ n) (h1 : 1 ≤ many) (h2 : many ≤ 8) : (greatB n many).length = many.toNat := by
  unfold greatB littleB; rw [List.length_reverse, if_pos ⟨h, h1, h2⟩, List.length_map, List.length_range]
theorem lineOk_due {l : MLine} (h : lineOk l = true) : 0 ≤ l.f_Due ∧ l.f_Due ≤ 100000 := by
  unfold lineOk at h
  split at h
  · exact (itemOk_iff.1 h).2.2.1
  · split at h
    · simp only [Bool.and_eq_true, decide_eq_true_eq] at h; omega
    · split at h
      · simp only [Bool.and_eq_true, decide_eq_true_eq] at h; omega
      · cases h
theorem lineHead_len {l : MLine} (h : lineOk l = true) : (lineHead l).length = 16 + l.f_Bytes.length := by
  unfold lineHead; simp only [List.length_append, List.length_cons, List.length_nil, lineRoute_len h, gB_len (lineOk_due h).1 (many := 4) (by omega) (by omega), gB_len (n := (l.f_Bytes.length : Int)) (many := 2) (by omega) (by omega) (by omega)]; rw [show (4 : Int).toNat = 4 from rfl, show (2 : Int).toNat = 2 from rfl]
theorem lineBytes_len {l : MLine} (h : lineOk l = true) : (lineBytes l).length = 18 + l.f_Bytes.length := by
  unfold lineBytes; rw [if_pos h, List.length_append, lineHead_len h, gB_len (by omega) (by omega) (by omega), show (2 : Int).toNat = 2 from rfl]; omega
theorem lineBytes_no {l : MLine} (h : lineOk l = false) : lineBytes l = [] := by unfold lineBytes; rw [if_neg (by rw [h]; decide)]
theorem lineBytes_le (l : MLine) : (lineBytes l).length ≤ 1578 := by
  cases h : lineOk l with
  | false => rw [lineBytes_no h]; simp
  | true => rw [lineBytes_len h]; have := lineOk_bytes h; omega
def be (x : List UInt8) (i : Nat) : Nat := (x.getD i 0).toNat
def lineSz (x : List UInt8) : Nat := 256 * be x 14 + be x 15
def rawLine (x : List UInt8) : MLine :=
  ⟨be x 0, if be x 0 = 3 then [] else hexB ((x.drop 1).take 8), be x 9, w4 (x.getD 10 0) (x.getD 11 0) (x.getD 12 0) (x.getD 13 0), (x.drop 16).take (lineSz x)⟩
def lineAt (x : List UInt8) : Option (MLine × Nat) :=
  if 18 ≤ x.length ∧ 18 + lineSz x ≤ x.length ∧ lineBytes (rawLine x) = x.take (18 + lineSz x) then some (rawLine x, 18 + lineSz x) else none
theorem lineAt_no {x : List UInt8} (h : ¬ (18 ≤ x.length ∧ 18 + lineSz x ≤ x.length ∧ lineBytes (rawLine x) = x.take (18 + lineSz x))) : lineAt x = none := by unfold lineAt; rw [if_neg h]
theorem lineAt_yes {x : List UInt8} (h1 : 18 ≤ x.length) (h2 : 18 + lineSz x ≤ x.length) (h3 : lineBytes (rawLine x) = x.take (18 + lineSz x)) : lineAt x = some (rawLine x, 18 + lineSz x) := by unfold lineAt; rw [if_pos ⟨h1, h2, h3⟩]
theorem lineAt_len {x : List UInt8} {l : MLine} {n : Nat} (h : lineAt x = some (l, n)) : 18 ≤ n ∧ n ≤ x.length ∧ lineOk l = true ∧ lineBytes l = x.take n := by
  unfold lineAt at h
  split at h
  · rename_i hc
    simp only [Option.some.injEq, Prod.mk.injEq] at h; obtain ⟨rfl, rfl⟩ := h; refine ⟨by omega, hc.2.1, ?_, hc.2.2⟩
    cases hk : lineOk (rawLine x) with
    | true => rfl
    | false =>
      have h1 := congrArg List.length hc.2.2; rw [lineBytes_no hk, List.length_take, List.length_nil] at h1
      omega
  · cases h
def lineOf (b : List UInt8) (at_ : Int) : MLine × Int × Bool :=
  if 0 ≤ at_ ∧ at_ ≤ (b.length : Int) then
    match lineAt (b.drop at_.toNat) with
    | some (l, n) => (l, at_ + n, true)
    | none => (zLine, 0, false)
  else (zLine, 0, false)
theorem lineOf_out {b : List UInt8} {at_ : Int} (h : ¬ (0 ≤ at_ ∧ at_ ≤ (b.length : Int) - 18)) : lineOf b at_ = (zLine, 0, false) := by
  unfold lineOf
  split
  · rw [lineAt_no (by rw [List.length_drop]; omega)]
  · rfl
theorem lineOf_none {b : List UInt8} {k : Nat} (h : lineAt (b.drop k) = none) : lineOf b (k : Int) = (zLine, 0, false) := by
  unfold lineOf
  split
  · rw [Int.toNat_natCast, h]
  · rfl
theorem lineOf_some {b : List UInt8} {k : Nat} {l : MLine} {n : Nat} (hk : k ≤ b.length) (h : lineAt (b.drop k) = some (l, n)) : lineOf b (k : Int) = (l, ((k + n : Nat) : Int), true) := by
  unfold lineOf; rw [if_pos ⟨by omega, by omega⟩, Int.toNat_natCast, h]
  simp
def lineStep (q : List MItem) (now : Int) (l : MLine) : List MItem × Int :=
  if l.f_Kind = 1 then ((put q (itemOf l)).1, now)
  else if l.f_Kind = 2 then ((takeQ q l.f_Route).2.1, now)
  else if l.f_Kind = 3 then (if now ≤ l.f_Due then (due q l.f_Due, l.f_Due) else (q, now))
  else (q, now)
def playGo (x : List UInt8) (q : List MItem) (now : Int) (at_ : Nat) : List MItem × Int × Nat :=
  match h : lineAt x with
  | none => (q, now, at_)
  | some (l, n) => playGo (x.drop n) (lineStep q now l).1 (lineStep q now l).2 (at_ + n)
termination_by x.length
decreasing_by
  have := lineAt_len h; rw [List.length_drop]; omega
theorem playGo_none {x : List UInt8} {q : List MItem} {now : Int} {at_ : Nat} (h : lineAt x = none) : playGo x q now at_ = (q, now, at_) := by
  rw [playGo]
  split
  · rfl
  · rename_i h2; rw [h] at h2; cases h2
theorem playGo_some {x : List UInt8} {q : List MItem} {now : Int} {at_ : Nat} {l : MLine} {n : Nat} (h : lineAt x = some (l, n)) : playGo x q now at_ = playGo (x.drop n) (lineStep q now l).1 (lineStep q now l).2 (at_ + n) := by
  rw [playGo]
  split
  · rename_i h2; rw [h] at h2; cases h2
  · rename_i l2 n2 h2
    rw [h] at h2; simp only [Option.some.injEq, Prod.mk.injEq] at h2; obtain ⟨rfl, rfl⟩ := h2
    rfl
def play (b : List UInt8) : List MItem × Int × Nat := playGo b [] 0 0
def sameI (a b : MItem) : Bool := decide (a.f_Route = b.f_Route) && decide (a.f_Topic = b.f_Topic) && decide (a.f_Due = b.f_Due) && decide (a.f_Bytes = b.f_Bytes)
theorem sameI_iff {a b : MItem} : sameI a b = true ↔ a = b := by
  unfold sameI; simp only [Bool.and_eq_true, decide_eq_true_eq]
  constructor
  · rintro ⟨⟨⟨h1, h2⟩, h3⟩, h4⟩
    cases a; cases b; simp_all
  · rintro rfl; simp
def sameQ (a b : List MItem) : Bool := decide (a.length = b.length) && (List.range a.length).all fun i => sameI (itAt a i) (itAt b i)
theorem sameQ_iff {a b : List MItem} : sameQ a b = true ↔ a = b := by
  unfold sameQ; simp only [Bool.and_eq_true, decide_eq_true_eq, List.all_eq_true, List.mem_range]
  constructor
  · rintro ⟨h1, h2⟩
    refine List.ext_getElem h1 fun i h3 h4 => ?_; have := sameI_iff.1 (h2 i h3)
    rwa [itAt_eq h3, itAt_eq h4] at this
  · rintro rfl
    exact ⟨rfl, fun i hi => sameI_iff.2 rfl⟩
theorem sameQ_bad {a b : List MItem} {i : Nat} (h1 : i < a.length) (h2 : i < b.length) (h : sameI a[i] b[i] = false) : sameQ a b = false := by
  rw [Bool.eq_false_iff]; intro hs; have := sameQ_iff.1 hs; subst this; rw [sameI_iff.2 rfl] at h; cases h
theorem sameQ_len {a b : List MItem} (h : ¬ a.length = b.length) : sameQ a b = false := by
  unfold sameQ; rw [decide_eq_false h]; rfl
theorem sameQ_good {a b : List MItem} (h : a.length = b.length) (h2 : ∀ i (h1 : i < a.length) (h2 : i < b.length), sameI a[i] b[i] = true) : sameQ a b = true :=
  sameQ_iff.2 (List.ext_getElem h fun i h3 h4 => sameI_iff.1 (h2 i h3 h4))
def postFront (p : MPost) : Bool := queueOk p.f_Queue && decide (0 ≤ p.f_Time ∧ p.f_Time ≤ 100000) && decide (p.f_Book.length ≤ 12000) && decide (0 ≤ p.f_Sure ∧ p.f_Sure ≤ (p.f_Book.length : Int))
def postOk (p : MPost) : Bool := postFront p && decide ((play p.f_Book).2.2 = p.f_Book.length) && decide ((play p.f_Book).2.1 = p.f_Time) && sameQ (play p.f_Book).1 p.f_Queue
theorem postOk_iff {p : MPost} : postOk p = true ↔ (queueOk p.f_Queue = true ∧ (0 ≤ p.f_Time ∧ p.f_Time ≤ 100000) ∧ p.f_Book.length ≤ 12000 ∧ (0 ≤ p.f_Sure ∧ p.f_Sure ≤ (p.f_Book.length : Int))) ∧ play p.f_Book = (p.f_Queue, p.f_Time, p.f_Book.length) := by
  unfold postOk postFront; simp only [Bool.and_eq_true, decide_eq_true_eq, sameQ_iff]
  constructor
  · rintro ⟨⟨⟨⟨⟨⟨h1, h2⟩, h3⟩, h4⟩, h5⟩, h6⟩, h7⟩
    exact ⟨⟨h1, h2, h3, h4⟩, by rw [← h5, ← h6, ← h7]⟩
  · rintro ⟨⟨h1, h2, h3, h4⟩, h5⟩
    rw [h5]; exact ⟨⟨⟨⟨⟨⟨h1, h2⟩, h3⟩, h4⟩, rfl⟩, rfl⟩, rfl⟩
def putLine (x : MItem) : MLine := ⟨1, x.f_Route, x.f_Topic, x.f_Due, x.f_Bytes⟩
def takeLine (r : List UInt8) : MLine := ⟨2, r, 0, 0, []⟩
def timeLine (n : Int) : MLine := ⟨3, [], 0, n, []⟩
def fits (p : MPost) (l : MLine) : Bool := decide (p.f_Book.length + (lineBytes l).length ≤ 12000)
def dropP (p : MPost) (x : MItem) : MPost × Int :=
  if (postOk p && itemOk x && decide (p.f_Time ≤ x.f_Due)) = true then
    if ((put p.f_Queue x).2 && fits p (putLine x)) = true then (⟨(put p.f_Queue x).1, p.f_Time, p.f_Book ++ lineBytes (putLine x), p.f_Sure⟩, 0) else (p, 2)
  else (p, 1)
def fetchP (p : MPost) (r : List UInt8) : MPost × MItem × Int :=
  if (postOk p && isRoute r) = true then
    if (takeQ p.f_Queue r).2.2 = true then
      if fits p (takeLine r) = true then (⟨(takeQ p.f_Queue r).2.1, p.f_Time, p.f_Book ++ lineBytes (takeLine r), p.f_Sure⟩, (takeQ p.f_Queue r).1, 0) else (p, zItem, 2)
    else (p, zItem, 3)
  else (p, zItem, 1)
def tickP (p : MPost) (now : Int) : MPost × Int :=
  if (postOk p && decide (p.f_Time ≤ now ∧ now ≤ 100000)) = true then
    if fits p (timeLine now) = true then (⟨due p.f_Queue now, now, p.f_Book ++ lineBytes (timeLine now), p.f_Sure⟩, 0) else (p, 2)
  else (p, 1)
def syncP (p : MPost) : MPost := if postOk p = true then ⟨p.f_Queue, p.f_Time, p.f_Book, p.f_Book.length⟩ else p
def keptB (p : MPost) (keep : Int) : List UInt8 := p.f_Book.take (p.f_Sure + max 0 (min keep (p.f_Book.length - p.f_Sure))).toNat
def fallP (p : MPost) (keep : Int) : MPost :=
  if postOk p = true then ⟨(play (keptB p keep)).1, (play (keptB p keep)).2.1, (keptB p keep).take (play (keptB p keep)).2.2, ((play (keptB p keep)).2.2 : Int)⟩ else p
theorem ixL_ok (w : World) (l : List UInt8) (c : UInt8) : ACalls Tryz.prog 139 #[.string ⟨l.toArray⟩, .int .u8 (c.toNat : Int)] w fun r w' => r = .int .i64 (Go.Lib.indexByte l c) ∧ w' = w := by
  refine body_of follows Tryz.func139 rfl rfl _ rfl (by kernel_rfl) (vs ?_); refine o_ext Tryz.func151 (by kernel_rfl) (by kernel_rfl) (by kernel_rfl) (e := Extern.BytealgIndexByte.indexByte) (by kernel_rfl) ?_; refine vS_run (Go.Lib.run_indexByteString ⟨l.toArray⟩ (c.toNat : Int) w) (vs ?_); have e : (c.toNat : Int).toNat.toUInt8 = c := by simp
  exact congrArg (fun c => Value.int .i64 (Go.Lib.indexByte l c)) e
theorem ixS_ok (w : World) (l : List UInt8) (c : UInt8) : ACalls Tryz.prog 116 #[.string ⟨l.toArray⟩, .int .u8 (c.toNat : Int)] w fun r w' => r = .int .i64 (Go.Lib.indexByte l c) ∧ w' = w := by
  refine body_of follows Tryz.func116 rfl rfl _ rfl (by kernel_rfl) (vs ?_); refine x_callw (ixL_ok w l c) (vs ?_)
  trivial
theorem ishr4 (b : UInt8) : ishr .u8 (b.toNat : Int) 4 = ((b.toNat / 16 : Nat) : Int) := by
  unfold ishr; rw [show min 4 IntKind.u8.bits = 4 from rfl, Int.fdiv_eq_ediv_of_nonneg _ (by decide)]; have : ((2 : Int) ^ 4) = 16 := by decide
  rw [this]; omega
theorem iand15 (b : UInt8) : iand .u8 (b.toNat : Int) 15 = ((b.toNat % 16 : Nat) : Int) := by
  have h : iand .u8 (b.toNat : Int) ((15 : UInt8).toNat : Int) = ((b &&& 15).toNat : Int) := iand_u8; have e : ((15 : UInt8).toNat : Int) = 15 := by decide
  rw [e] at h; rw [h, UInt8.toNat_and, show (15 : UInt8).toNat = 2 ^ 4 - 1 from rfl, Nat.and_two_pow_sub_one_eq_mod]
theorem implHex_ok (w : World) (v : Value) (a : List UInt8) (h : (bytes 5).rd w w.heap.size [v] a) (hl : a.length ≤ 1099511627776) :
    ACalls Tryz.prog 105 #[v] w fun r w' => r = .string ⟨(hexB a).toArray⟩ ∧ Below w.heap.size w w' := by
  obtain ⟨A, c, rfl, hc1, hc2, ha⟩ := sl_open h; have H := Sep.start w; refine body_of follows Tryz.func105 rfl rfl _ rfl (by kernel_rfl) (vs ?_); refine x_emp H pl_u8 sl22 fun g w1 H => vs ?_
  refine loop_at (σ := Nat × Value × List Nat) (fun x => [(3, x.2.1), (7, .slice A a.length c), (8, .int .i64 (a.length : Int)), (9, .int .i64 (x.1 : Int))])
    (fun x w' => x.1 ≤ a.length ∧ Sep w.heap.size w w' [Ck.own (bytes 5) x.2.2 [x.2.1] (hexB (a.take x.1))]) (fun x => a.length - x.1) (0, _, _) (vs trivial) ⟨Nat.zero_le _, H⟩ ?_
  rintro ⟨k, v', fp⟩ s w2 ⟨hk, H⟩; dsimp only at hk H; refine vs (ways ?_ ?_)
  · refine vh fun hlt => ?_
    have hk2 : k < a.length := by omega
    refine x_el pl_u8 sl22 (ha.mono H.bel) (by omega) hlt fun ad hb hc _ => vs ?_; refine x_load sc5 hc (vs ?_); have hlt8 := (a[k]).toNat_lt; refine draw_of [(0, true), (1, true), (2, true), (3, true), (4, true), (5, true), (6, true), (7, false), (8, false), (9, true)] w.heap.size [] fun w3 hh hb3 => vs ?_; have H := H.go (hb3 _); have H3 := H; refine ve (ishr4 a[k]) ?_; refine qx_sidx (l := signs16) Tryz.underlying9 (Int.natCast_nonneg _) (by rw [signs16_len]; omega) ?_; refine vs ?_; refine ve (iand15 a[k]) ?_; refine qx_sidx (l := signs16) Tryz.underlying9 (Int.natCast_nonneg _) (by rw [signs16_len]; omega) ?_; refine vs ?_; refine x_lst H pl_u8 sl22 [sgn (a[k].toNat / 16), sgn (a[k].toNat % 16)] (by simp) fun g3 w4 H => vs ?_; refine ⟨kept_base H3 H, ?_⟩; have hx := hexB_len (a.take k); rw [List.length_take] at hx; refine x_app H pl_u8 sl22 (H.own (.head _)) ?_ ?_ fun fp5 v5 w5 H => vs ?_
    · simp only [List.length_cons, List.length_nil]; omega
    · simp only [List.length_cons, List.length_nil]; omega
    refine ⟨kept_base H3 H, (k + 1, v5, fp5), ⟨rfl, i64_eq (by show w64 ((k : Int) + 1) = ((k + 1 : Nat) : Int); unfold w64; omega)⟩, ⟨hk2, ?_⟩, by show a.length - (k + 1) < a.length - k; omega⟩
    show Sep _ _ _ [Ck.own _ fp5 [v5] (hexB (a.take (k + 1)))]
    rw [hexB_succ hk2]; exact H.tail
  · refine vh fun hlt => ?_
    obtain rfl : k = a.length := by omega
    rw [List.take_length] at H; refine x_str Tryz.underlying22 Tryz.underlying5 Tryz.underlying9 (H.own (.head _)) (vs ?_); exact H.bel
theorem specHex_ok (w : World) (v : Value) (a : List UInt8) (h : (bytes 5).rd w w.heap.size [v] a) (hl : a.length ≤ 1099511627776) :
    ACalls Tryz.prog 134 #[v] w fun r w' => r = .string ⟨(hexB a).toArray⟩ ∧ Below w.heap.size w w' := by
  obtain ⟨A, c, rfl, hc1, hc2, ha⟩ := sl_open h; have H := Sep.start w; refine body_of follows Tryz.func134 rfl rfl _ rfl (by kernel_rfl) (vs ?_); refine x_emp H pl_u8 sl22 fun g w1 H => vs ?_
  refine loop_at (σ := Nat × Value × List Nat) (fun x => [(0, .slice A a.length c), (3, .string ⟨signs16.toArray⟩), (4, x.2.1), (5, .int .i64 (x.1 : Int))])
    (fun x w' => x.1 ≤ a.length ∧ Sep w.heap.size w w' [Ck.own (bytes 5) x.2.2 [x.2.1] (hexB (a.take x.1))]) (fun x => a.length - x.1) (0, _, _) (vs trivial) ⟨Nat.zero_le _, H⟩ ?_
  rintro ⟨k, v', fp⟩ s w2 ⟨hk, H⟩; dsimp only at hk H; refine vs (ways ?_ ?_)
  · refine vh fun hlt => ?_
    have hk2 : k < a.length := by omega
    have hlt8 := (a[k]).toNat_lt; refine draw_of [(0, true), (1, true), (2, true), (3, true), (4, true), (5, true), (6, true), (7, true), (8, true), (9, true), (10, true), (11, true), (12, true), (13, true), (14, true), (15, false), (16, false), (17, true)] w.heap.size [] fun w3 hh hb3 => vs ?_; have H := H.go (hb3 _); have H3 := H; refine q_elV pl_u8 sl22 k (ha.mono H.bel) (List.getElem?_eq_getElem hk2) rfl rfl fun ad hb1 hc1 _ => vs ?_; refine qx_load sc5 hc1 hb1 (by simp) (vs ?_); refine ve (ishr4 a[k]) ?_; refine qx_sidx (l := signs16) Tryz.underlying9 (Int.natCast_nonneg _) (by rw [signs16_len]; omega) ?_; refine vs ?_; refine q_elV pl_u8 sl22 k (ha.mono H.bel) (List.getElem?_eq_getElem hk2) rfl rfl fun ad hb1 hc1 _ => vs ?_; refine qx_load sc5 hc1 hb1 (by simp) (vs ?_); refine ve (iand15 a[k]) ?_; refine qx_sidx (l := signs16) Tryz.underlying9 (Int.natCast_nonneg _) (by rw [signs16_len]; omega) ?_; refine vs ?_; refine x_lst H pl_u8 sl22 [sgn (a[k].toNat / 16), sgn (a[k].toNat % 16)] (by simp) fun g3 w4 H => vs ?_; refine ⟨kept_base H3 H, ?_⟩; have hx := hexB_len (a.take k); rw [List.length_take] at hx; refine x_app H pl_u8 sl22 (H.own (.head _)) ?_ ?_ fun fp5 v5 w5 H => vs ?_
    · simp only [List.length_cons, List.length_nil]; omega
    · simp only [List.length_cons, List.length_nil]; omega
    refine ⟨kept_base H3 H, (k + 1, v5, fp5), ⟨rfl, i64_eq (by show w64 ((k : Int) + 1) = ((k + 1 : Nat) : Int); unfold w64; omega)⟩, ⟨hk2, ?_⟩, by show a.length - (k + 1) < a.length - k; omega⟩
    show Sep _ _ _ [Ck.own _ fp5 [v5] (hexB (a.take (k + 1)))]
    rw [hexB_succ hk2]; exact H.tail
  · refine vh fun hlt => ?_
    obtain rfl : k = a.length := by omega
    rw [List.take_length] at H; refine x_str Tryz.underlying22 Tryz.underlying5 Tryz.underlying9 (H.own (.head _)) (vs ?_); exact H.bel
theorem l1Sign_ok (w : World) (c : UInt8) : ACalls Tryz.prog 137 #[.int .u8 (c.toNat : Int)] w fun r w' => r = .int .i64 (hx c) ∧ w' = w := by
  have hlt := c.toNat_lt; rw [hx_eq]; refine body_of follows Tryz.func137 rfl rfl _ rfl (by kernel_rfl) ?_
  by_cases h1 : 48 ≤ c.toNat
  · have a1 : (48 : Int) ≤ c.toNat := by omega
    by_cases h2 : c.toNat ≤ 57
    · have a2 : (c.toNat : Int) ≤ 57 := by omega
      refine ve (And.intro a1 a2) ?_; unfold hxR; rw [if_pos ⟨h1, h2⟩]; exact i64_eq (by unfold w64; omega)
    · have a2 : ¬ (c.toNat : Int) ≤ 57 := by omega
      by_cases h3 : 97 ≤ c.toNat
      · have a3 : (97 : Int) ≤ c.toNat := by omega
        by_cases h4 : c.toNat ≤ 102
        · have a4 : (c.toNat : Int) ≤ 102 := by omega
          refine ve (And.intro a1 (And.intro a2 (And.intro a3 a4))) ?_; unfold hxR; rw [if_neg (by omega), if_pos (by omega)]; exact i64_eq (by unfold w64; omega)
        · have a4 : ¬ (c.toNat : Int) ≤ 102 := by omega
          refine ve (And.intro a1 (And.intro a2 (And.intro a3 a4))) ?_; unfold hxR; rw [if_neg (by omega), if_neg (by omega)]
      · have a3 : ¬ (97 : Int) ≤ c.toNat := by omega
        refine ve (And.intro a1 (And.intro a2 a3)) ?_; unfold hxR; rw [if_neg (by omega), if_neg (by omega)]
  · have a1 : ¬ (48 : Int) ≤ c.toNat := by omega
    have a3 : ¬ (97 : Int) ≤ c.toNat := by omega
    refine ve (And.intro a1 a3) ?_; unfold hxR; rw [if_neg (by omega), if_neg (by omega)]
theorem pair_or {x y : Int} (hx0 : 0 ≤ x) (hx1 : x ≤ 15) (hy0 : 0 ≤ y) (hy1 : y ≤ 15) : ior .i64 (ishl .i64 x 4) y % 256 = ((UInt8.ofNat (16 * x.toNat + y.toNat)).toNat : Int) := by
  obtain ⟨a, rfl⟩ := Int.eq_ofNat_of_zero_le hx0; obtain ⟨b, rfl⟩ := Int.eq_ofNat_of_zero_le hy0; have h1 : ishl .i64 (a : Int) 4 = ((a <<< 4 : Nat) : Int) := ishl_nat (by omega) (by omega); rw [h1, ior_nat (by rw [Nat.shiftLeft_eq]; omega) (by omega), ← Nat.shiftLeft_add_eq_or_of_lt (i := 4) (by omega), Nat.shiftLeft_eq, UInt8.toNat_ofNat']; simp only [Int.toNat_natCast]
  omega
theorem pair_add {x y : Int} (hx0 : 0 ≤ x) (hx1 : x ≤ 15) (hy0 : 0 ≤ y) (hy1 : y ≤ 15) : w64 (w64 (16 * x) + y) % 256 = ((UInt8.ofNat (16 * x.toNat + y.toNat)).toNat : Int) := by
  rw [UInt8.toNat_ofNat']; unfold w64
  omega
theorem implUnhex_ok (w : World) (l : List UInt8) (hl : l.length ≤ 1099511627776) :
    ACalls Tryz.prog 86 #[.string ⟨l.toArray⟩] w fun r w' => ∃ v fp, r = .tuple #[v, .bool (unhexOk l)] ∧ Sep w.heap.size w w' [Ck.own (bytes 5) fp [v] (unhexB l)] := by
  have H := Sep.start w; refine body_of follows Tryz.func86 rfl rfl _ rfl (by kernel_rfl) (vs ?_); refine x_rem (b := 2) ?_
  have em : (l.length : Int).tmod 2 = ((l.length % 2 : Nat) : Int) := by
    rw [Int.tmod_eq_emod_of_nonneg (Int.natCast_nonneg _)]; omega
  refine ve em ?_; refine ways ?_ ?_
  rotate_left
  · refine vh fun hodd => ?_
    obtain ⟨e1, e2⟩ := unhex_odd (s := l) (by omega); rw [e1, e2]; exact ⟨_, _, rfl, H.nothing (sl_zero w)⟩
  refine vh fun heven => ?_; have hev : l.length % 2 = 0 := by omega
  have hpl := pairs_len l; refine x_emp H pl_u8 sl22 fun g w1 H => vs ?_
  refine loop_at (σ := Nat × Value × List Nat) (fun x => [(0, .string ⟨l.toArray⟩), (4, x.2.1), (5, .int .i64 ((2 * x.1 : Nat) : Int))])
    (fun x w' => x.1 ≤ (pairs l).length ∧ (∀ k, k < x.1 → 0 ≤ hx (l.getD (2 * k) 0) ∧ 0 ≤ hx (l.getD (2 * k + 1) 0)) ∧ Sep w.heap.size w w' [Ck.own (bytes 5) x.2.2 [x.2.1] (((pairs l).take x.1).map pairB)]) (fun x => (pairs l).length - x.1) (0, _, _) (vs trivial) ⟨Nat.zero_le _, fun k h => absurd h (Nat.not_lt_zero k), H⟩ ?_
  rintro ⟨k, v', fp⟩ s w2 ⟨hk, hall, H⟩; dsimp only at hk hall H; refine vs (ways ?_ ?_)
  · refine vh fun hlt => ?_
    have hk2 : k < (pairs l).length := by omega
    have r1 := hx_range (l.getD (2 * k) 0); have r2 := hx_range (l.getD (2 * k + 1) 0); have e1 : w64 (((2 * k : Nat) : Int) + 1) = ((2 * k + 1 : Nat) : Int) := by unfold w64; omega
    refine draw_of [(0, true), (1, true), (2, true), (4, true), (5, true), (6, true), (7, true), (3, false), (8, false), (9, true), (10, true)] w.heap.size [] fun w3 hh hb3 => vs ?_; have H := H.go (hb3 _); have H3 := H; refine qx_sidx Tryz.underlying9 (Int.natCast_nonneg _) hlt ?_; refine vs ?_; refine ve e1 ?_; refine qx_sidx Tryz.underlying9 (Int.natCast_nonneg _) (by omega) ?_; refine vs ?_; refine x_callw (ixS_ok w3 signs16 (l.getD (2 * k) 0)) (vs ?_); refine ⟨kept_base H3 H, ?_⟩; refine x_callw (ixS_ok w3 signs16 (l.getD (2 * k + 1) 0)) (vs ?_); refine ⟨kept_base H3 H, ?_⟩; rw [show Go.Lib.indexByte signs16 (l.getD (2 * k) 0) = hx (l.getD (2 * k) 0) from rfl, show Go.Lib.indexByte signs16 (l.getD (2 * k + 1) 0) = hx (l.getD (2 * k + 1) 0) from rfl]
    by_cases h1 : hx (l.getD (2 * k) 0) < 0
    · refine ve h1 ?_
      obtain ⟨q1, q2⟩ := unhex_bad hk2 (.inl h1); rw [q1, q2]; exact ⟨_, _, rfl, (H.nothing (sl_zero w3)).head⟩
    · refine ve h1 ?_
      by_cases h2 : hx (l.getD (2 * k + 1) 0) < 0
      · refine ve h2 ?_
        obtain ⟨q1, q2⟩ := unhex_bad hk2 (.inr h2); rw [q1, q2]; exact ⟨_, _, rfl, (H.nothing (sl_zero w3)).head⟩
      · refine ve h2 ?_
        refine ve (pair_or (Int.not_lt.1 h1) r1.2 (Int.not_lt.1 h2) r2.2) ?_; refine x_lst H pl_u8 sl22 [UInt8.ofNat (16 * (hx (l.getD (2 * k) 0)).toNat + (hx (l.getD (2 * k + 1) 0)).toNat)] (by simp) fun g3 w4 H => vs ?_; refine x_app H pl_u8 sl22 (H.own (.head _)) ?_ ?_ fun fp5 v5 w5 H => vs ?_
        · simp only [List.length_map, List.length_take, List.length_cons, List.length_nil]; omega
        · simp only [List.length_map, List.length_take, List.length_cons, List.length_nil]; omega
        refine ⟨(k + 1, v5, fp5), ⟨rfl, i64_eq (by show w64 (((2 * k : Nat) : Int) + 2) = ((2 * (k + 1) : Nat) : Int); unfold w64; omega)⟩, ⟨hk2, fun j hj => ?_, ?_⟩, by show (pairs l).length - (k + 1) < (pairs l).length - k; omega⟩
        · by_cases hjk : j = k
          · subst hjk; exact ⟨Int.not_lt.1 h1, Int.not_lt.1 h2⟩
          · exact hall j (by have hj : j < k + 1 := hj; omega)
        · show Sep _ _ _ [Ck.own _ fp5 [v5] (((pairs l).take (k + 1)).map pairB)]
          rw [pairs_succ hk2]; exact H.tail
  · refine vh fun hlt => ?_
    obtain rfl : k = (pairs l).length := by omega
    obtain ⟨e1, e2⟩ := unhex_good hev hall; rw [List.take_length] at H; rw [e1, e2]; exact ⟨_, _, rfl, H⟩
theorem specUnhex_ok (w : World) (l : List UInt8) (hl : l.length ≤ 1099511627776) :
    ACalls Tryz.prog 103 #[.string ⟨l.toArray⟩] w fun r w' => ∃ v fp, r = .tuple #[v, .bool (unhexOk l)] ∧ Sep w.heap.size w w' [Ck.own (bytes 5) fp [v] (unhexB l)] := by
  have H := Sep.start w; have hpl := pairs_len l
  have em : (l.length : Int).tmod 2 = ((l.length % 2 : Nat) : Int) := by
    rw [Int.tmod_eq_emod_of_nonneg (Int.natCast_nonneg _)]; omega
  refine body_of follows Tryz.func103 rfl rfl _ rfl (by kernel_rfl) (vs ?_); refine x_emp H pl_u8 sl22 fun g w1 H => vs ?_
  refine loop_at (σ := Nat × Value × List Nat) (fun x => [(0, .string ⟨l.toArray⟩), (4, x.2.1), (5, .int .i64 ((2 * x.1 : Nat) : Int))])
    (fun x w' => x.1 ≤ (pairs l).length ∧ (∀ k, k < x.1 → 0 ≤ hx (l.getD (2 * k) 0) ∧ 0 ≤ hx (l.getD (2 * k + 1) 0)) ∧ Sep w.heap.size w w' [Ck.own (bytes 5) x.2.2 [x.2.1] (((pairs l).take x.1).map pairB)]) (fun x => (pairs l).length - x.1) (0, _, _) (vs trivial) ⟨Nat.zero_le _, fun k h => absurd h (Nat.not_lt_zero k), H⟩ ?_
  rintro ⟨k, v', fp⟩ s w2 ⟨hk, hall, H⟩; dsimp only at hk hall H; have e1 : w64 (((2 * k : Nat) : Int) + 1) = ((2 * k + 1 : Nat) : Int) := by unfold w64; omega
  refine ve e1 (ways ?_ ?_)
  · refine vh fun hlt => ?_
    have hk2 : k < (pairs l).length := by omega
    have r1 := hx_range (l.getD (2 * k) 0); have r2 := hx_range (l.getD (2 * k + 1) 0); refine draw_of [(0, true), (1, true), (2, true), (4, true), (5, true), (6, true), (7, true), (3, false), (8, false), (9, true), (10, true)] w.heap.size [] fun w3 hh hb3 => vs ?_; have H := H.go (hb3 _); have H3 := H; refine qx_sidx Tryz.underlying9 (Int.natCast_nonneg _) (by omega) ?_; refine vs ?_; refine ve e1 ?_; refine qx_sidx Tryz.underlying9 (Int.natCast_nonneg _) hlt ?_; refine vs ?_; refine x_callw (l1Sign_ok w3 (l.getD (2 * k) 0)) (vs ?_); refine ⟨kept_base H3 H, ?_⟩; refine x_callw (l1Sign_ok w3 (l.getD (2 * k + 1) 0)) (vs ?_); refine ⟨kept_base H3 H, ?_⟩
    by_cases h1 : hx (l.getD (2 * k) 0) < 0
    · refine ve h1 ?_
      obtain ⟨q1, q2⟩ := unhex_bad hk2 (.inl h1); rw [q1, q2]; refine x_emp H pl_u8 sl22 fun g4 w4 H => vs ?_; exact ⟨_, _, rfl, H.head⟩
    · refine ve h1 ?_
      by_cases h2 : hx (l.getD (2 * k + 1) 0) < 0
      · refine ve h2 ?_
        obtain ⟨q1, q2⟩ := unhex_bad hk2 (.inr h2); rw [q1, q2]; refine x_emp H pl_u8 sl22 fun g4 w4 H => vs ?_; exact ⟨_, _, rfl, H.head⟩
      · refine ve h2 ?_
        refine ve (pair_add (Int.not_lt.1 h1) r1.2 (Int.not_lt.1 h2) r2.2) ?_; refine x_lst H pl_u8 sl22 [UInt8.ofNat (16 * (hx (l.getD (2 * k) 0)).toNat + (hx (l.getD (2 * k + 1) 0)).toNat)] (by simp) fun g3 w4 H => vs ?_; refine x_app H pl_u8 sl22 (H.own (.head _)) ?_ ?_ fun fp5 v5 w5 H => vs ?_
        · simp only [List.length_map, List.length_take, List.length_cons, List.length_nil]; omega
        · simp only [List.length_map, List.length_take, List.length_cons, List.length_nil]; omega
        refine ⟨(k + 1, v5, fp5), ⟨rfl, i64_eq (by show w64 (((2 * k : Nat) : Int) + 2) = ((2 * (k + 1) : Nat) : Int); unfold w64; omega)⟩, ⟨hk2, fun j hj => ?_, ?_⟩, by show (pairs l).length - (k + 1) < (pairs l).length - k; omega⟩
        · by_cases hjk : j = k
          · subst hjk; exact ⟨Int.not_lt.1 h1, Int.not_lt.1 h2⟩
          · exact hall j (by have hj : j < k + 1 := hj; omega)
        · show Sep _ _ _ [Ck.own _ fp5 [v5] (((pairs l).take (k + 1)).map pairB)]
          rw [pairs_succ hk2]; exact H.tail
  · refine vh fun hlt => ?_
    obtain rfl : k = (pairs l).length := by omega
    refine x_rem (b := 2) ?_; refine ve em ?_; refine ways ?_ ?_
    rotate_left
    · refine vh fun hodd => ?_
      obtain ⟨e1, e2⟩ := unhex_odd (s := l) (by omega); rw [e1, e2]; refine x_emp H pl_u8 sl22 fun g4 w4 H => vs ?_; exact ⟨_, _, rfl, H.head⟩
    · refine vh fun heven => ?_
      obtain ⟨e1, e2⟩ := unhex_good (s := l) (by omega) hall; rw [List.take_length] at H; rw [e1, e2]; exact ⟨_, _, rfl, H⟩
theorem implIsRoute_ok (w : World) (l : List UInt8) (hl : l.length ≤ 1099511627776) :
    ACalls Tryz.prog 61 #[.string ⟨l.toArray⟩] w fun r w' => r = .bool (isRoute l) ∧ Below w.heap.size w w' := by
  have H := Sep.start w; refine body_of follows Tryz.func61 rfl rfl _ rfl (by kernel_rfl) (vs ?_); refine x_call (implUnhex_ok w l hl) fun _ w1 ⟨v, fp, e, S⟩ => ?_; subst e; have H := H.join S; refine vs ?_
  cases hu : unhexOk l with
  | false =>
    refine vs ?_; have : isRoute l = false := by unfold isRoute; rw [hu]; rfl
    rw [this]; exact ⟨rfl, H.bel⟩
  | true =>
    refine vs ?_; refine ⟨?_, H.bel⟩; have : isRoute l = decide ((l.length : Int) = 16) := by unfold isRoute; rw [hu, Bool.true_and]; exact decide_eq_decide.2 (by omega)
    rw [this]
theorem specIsRoute_ok (w : World) (l : List UInt8) (hl : l.length ≤ 1099511627776) :
    ACalls Tryz.prog 74 #[.string ⟨l.toArray⟩] w fun r w' => r = .bool (isRoute l) ∧ Below w.heap.size w w' := by
  have H := Sep.start w; refine body_of follows Tryz.func74 rfl rfl _ rfl (by kernel_rfl) (vs ?_); refine x_call (specUnhex_ok w l hl) fun _ w1 ⟨v, fp, e, S⟩ => ?_; subst e; have H := H.join S; refine vs ?_
  cases hu : unhexOk l with
  | false =>
    refine vs ?_; have : isRoute l = false := by unfold isRoute; rw [hu]; rfl
    rw [this]; exact ⟨rfl, H.bel⟩
  | true =>
    obtain ⟨A, c, rfl, _⟩ := sl_open (H.own (.head _)); refine vs ?_; refine ⟨?_, H.bel⟩; have : isRoute l = decide (((unhexB l).length : Int) = 8) := by rw [isRoute_spec, hu, Bool.true_and]; exact decide_eq_decide.2 (by omega)
    rw [this]
def Ck.sift {α : Type} (e : TypeId) (d : Kd α) (g c : Nat) (rs ks : List (List Value × List Nat × α)) (j : Nat) : Ck where
  fp := g :: (rs.map fun r : List Value × List Nat × α => r.2.1).flatten
  A := fun w => (g :: (rs.map fun r : List Value × List Nat × α => r.2.1).flatten).Nodup ∧ rs.length ≤ c ∧ c ≤ maxLen ∧ (∀ r ∈ rs, d.ow w r.2.1 r.1 r.2.2) ∧ ∃ cur : Array Value, w.heap[g]? = some (.cells cur e (0, 0)) ∧ c * d.sz ≤ cur.size ∧
    cur.toList.take (ks.length * d.sz) = (ks.map fun r : List Value × List Nat × α => r.1).flatten ∧ (cur.toList.drop (j * d.sz)).take ((rs.length - j) * d.sz) = ((rs.map fun r : List Value × List Nat × α => r.1).drop j).flatten
  loc := fun {w w'} h ⟨h0, h1, h2, h3, cur, h4, h5⟩ => ⟨h0, h1, h2, fun r hr => d.own_mono (h3 r hr) fun b hb => h b (List.mem_cons_of_mem _ (List.mem_flatten_of_mem (List.mem_map.2 ⟨r, hr, rfl⟩) hb)), cur, by rw [h g (List.mem_cons_self ..)]; exact h4, h5⟩
theorem sift_fp {α : Type} {e : TypeId} {d : Kd α} {g c : Nat} {rs ks : List (List Value × List Nat × α)} {j : Nat} : (Ck.sift e d g c rs ks j).fp = g :: (rs.map (·.2.1)).flatten := rfl
section
variable {n : Nat} {w0 w : World} {L : List Ck} {α : Type} {d : Kd α} {e : TypeId} {g c : Nat} {rs ks : List (List Value × List Nat × α)} {j : Nat}
theorem chg_refl (fp : List Nat) (w : World) : Chg fp w w := ⟨rfl, rfl, rfl, Nat.le_refl _, fun _ _ _ => rfl⟩
theorem Sep.siftStart {fp : List Nat} {m : Nat} {l : List α} (H : Sep n w0 w (Ck.own (Kd.slice e d) fp [.slice (some ⟨g, 0, none⟩) m c] l :: L)) (i k : Nat) (hi : i ≤ l.length) (hk : k ≤ l.length) :
    ∃ rs : List (List Value × List Nat × α), rs.map (·.2.2) = l ∧ m = l.length ∧ Sep n w0 w (Ck.sift e d g c rs (rs.take i) k :: L) := by
  obtain ⟨rs, cur, R⟩ := row_at (show (Kd.slice e d).ow w fp [.slice (some ⟨g, 0, none⟩) m c] l from H.ok _ (.head _)); have hml : (rs.map (·.1)).length = m := by rw [List.length_map, R.len]
  have hnd : (g :: (rs.map (·.2.1)).flatten).Nodup := R.hfp ▸ R.nd; have hrl := R.len; have hll := R.lenl; have hik : i * d.sz ≤ m * d.sz := Nat.mul_le_mul_right _ (by omega); have hkk : k * d.sz ≤ m * d.sz := Nat.mul_le_mul_right _ (by omega); refine ⟨rs, R.vals, R.lenl.symm, H.put (w' := w) (c' := Ck.sift e d g c rs (rs.take i) k) .here (chg_refl _ _) ⟨hnd, by rw [hrl]; exact R.mc, R.cm, R.el, cur, R.heap, R.cs, ?_, ?_⟩ hnd fun b hb => ?_⟩
  · rw [List.length_take, Nat.min_eq_left (by omega), List.map_take, ← flat_take _ R.lens i (by omega), ← R.row, List.take_take, Nat.min_eq_left hik]
  · rw [hrl, ← flat_drop _ R.lens k (by omega), ← R.row, List.drop_take, Nat.sub_mul]
  · have hm : b ∈ fp := by rw [R.hfp]; exact hb
    exact ⟨.inl hm, (H.lo b (mem_fps (c := Ck.own (Kd.slice e d) fp [.slice (some ⟨g, 0, none⟩) m c] l) hm (.head _))).2⟩
theorem Sep.siftA (H : Sep n w0 w (Ck.sift e d g c rs ks j :: L)) : (g :: (rs.map (·.2.1)).flatten).Nodup ∧ rs.length ≤ c ∧ c ≤ maxLen ∧ (∀ r ∈ rs, d.ow w r.2.1 r.1 r.2.2) ∧ ∃ cur : Array Value, w.heap[g]? = some (.cells cur e (0, 0)) ∧ c * d.sz ≤ cur.size ∧
    cur.toList.take (ks.length * d.sz) = (ks.map (·.1)).flatten ∧ (cur.toList.drop (j * d.sz)).take ((rs.length - j) * d.sz) = ((rs.map (·.1)).drop j).flatten := H.ok _ (.head _)
theorem sift_lens (h : ∀ r ∈ rs, d.ow w r.2.1 r.1 r.2.2) : ∀ r ∈ rs.map (·.1), r.length = d.sz := fun r hr => by
  obtain ⟨q, hq, rfl⟩ := List.mem_map.1 hr; exact d.own_len (h q hq)
theorem Sep.siftEl (H : Sep n w0 w (Ck.sift e d g c rs ks j :: L)) {r : List Value × List Nat × α} (hr : r ∈ rs) : d.rd w w.heap.size r.1 r.2.2 :=
  d.own_rd (H.siftA.2.2.2.1 r hr) fun b hb => (H.lo b (mem_fps (c := Ck.sift e d g c rs ks j) (by rw [sift_fp]; exact List.mem_cons_of_mem _ (List.mem_flatten_of_mem (List.mem_map.2 ⟨r, hr, rfl⟩) hb)) (.head _))).2
theorem Sep.siftCell (H : Sep n w0 w (Ck.sift e d g c rs ks j :: L)) (hj : j < rs.length) (q : Nat) (hq : q < d.sz) : w.cell? ⟨g, j * d.sz + q, none⟩ = (rs[j].1)[q]? := by
  obtain ⟨_, _, _, hel, cur, hh, hcs, _, hd⟩ := H.siftA; have hlens := sift_lens hel; have h1 := Kd.flat_get ((rs.map (·.1)).drop j) (fun r hr => hlens r (List.mem_of_mem_drop hr)) 0 q hq; have h2 : 1 * d.sz ≤ (rs.length - j) * d.sz := Nat.mul_le_mul_right _ (by omega); rw [← hd, Nat.zero_mul, Nat.zero_add, List.getElem?_take, if_pos (by omega), List.getElem?_drop] at h1; rw [Kd.cell_blk hh]; have h3 : cur[j * d.sz + q]? = cur.toList[j * d.sz + q]? := by simp
  rw [h3, h1, List.getElem?_drop, Nat.add_zero, List.getElem?_map, List.getElem?_eq_getElem hj]
  rfl
theorem Sep.siftSkip (H : Sep n w0 w (Ck.sift e d g c rs ks j :: L)) (hj : j < rs.length) : Sep n w0 w (Ck.sift e d g c rs ks (j + 1) :: L) := by
  obtain ⟨h0, h1, h2, hel, cur, hh, hcs, hk, hd⟩ := H.siftA; refine H.put (w' := w) (c' := Ck.sift e d g c rs ks (j + 1)) .here (chg_refl _ _) ⟨h0, h1, h2, hel, cur, hh, hcs, hk, ?_⟩ h0 fun b hb => ⟨.inl hb, (H.lo b (mem_fps (c := Ck.sift e d g c rs ks j) hb (.head _))).2⟩; have hlens := sift_lens hel; have h3 := congrArg (List.drop d.sz) hd; have h4 := flat_drop ((rs.map (·.1)).drop j) (fun r hr => hlens r (List.mem_of_mem_drop hr)) 1 (by rw [List.length_drop, List.length_map]; omega); rw [Nat.one_mul] at h4; rw [h4, List.drop_drop, List.drop_take, List.drop_drop] at h3; rw [Nat.add_mul, Nat.one_mul, Nat.sub_add_eq, Nat.sub_mul _ 1, Nat.one_mul]; exact h3
theorem Sep.siftEnd (H : Sep n w0 w (Ck.sift e d g c rs ks j :: L)) (hs : ks.Sublist rs) : ∃ fp', Sep n w0 w (Ck.own (Kd.slice e d) fp' [.slice (some ⟨g, 0, none⟩) ks.length c] (ks.map (·.2.2)) :: L) := by
  obtain ⟨h0, h1, h2, hel, cur, hh, hcs, hk, _⟩ := H.siftA; have hfs : ((ks.map (·.2.1)).flatten).Sublist ((rs.map (·.2.1)).flatten) := sub_flat (hs.map _); have hnd : (g :: (ks.map (·.2.1)).flatten).Nodup := h0.sublist (List.Sublist.cons_cons g hfs); have hlens := sift_lens hel; refine ⟨g :: (ks.map (·.2.1)).flatten, H.put (w' := w) (c' := Ck.own (Kd.slice e d) (g :: (ks.map fun r : List Value × List Nat × α => r.2.1).flatten) [.slice (some ⟨g, 0, none⟩) ks.length c] (ks.map fun r : List Value × List Nat × α => r.2.2)) .here (chg_refl _ _) ?_ hnd fun b hb => ?_⟩
  · refine RowOw.of ks ⟨?_, .inr ⟨g, c, cur, rfl, Nat.zero_le _, hh, by have := hs.length_le; omega, h2, hcs, hk⟩⟩ (fun r hr => hel r (hs.subset hr)) rfl hnd
    have h3 := flat_len (ks.map (·.1)) fun r hr => hlens r ((hs.map _).subset hr); rw [List.length_map] at h3; exact h3
  · have hb : b ∈ g :: (ks.map (·.2.1)).flatten := hb
    have hm : b ∈ g :: (rs.map (·.2.1)).flatten := by
      rcases List.mem_cons.1 hb with rfl | hb
      · exact List.mem_cons_self ..
      · exact List.mem_cons_of_mem _ (hfs.subset hb)
    exact ⟨.inl hm, (H.lo b (mem_fps (c := Ck.sift e d g c rs ks j) hm (.head _))).2⟩
end
section
variable {P : Program} {n : Nat} {w0 w : World} {L : List Ck} {K : Value → World → Prop} {tg : Tg K} {α : Type} {d : Kd α} {e : TypeId} {g c : Nat} {rs ks : List (List Value × List Nat × α)} {j : Nat}
theorem x_siftPut {sz : Nat} {z : Array Value} {tg : Tg K} (HS : StT P e sz z) (hd : d.sz = sz) (H : Sep n w0 w (Ck.sift e d g c rs ks j :: L)) (hj : j < rs.length) (hk : ks.length ≤ j)
    (h : ∀ w', Sep n w0 w' (Ck.sift e d g c rs (ks ++ [rs[j]]) (j + 1) :: L) → K undef w') : VU P K tg (Instr.storeAt e (.pointer (some ⟨g, ks.length * sz, none⟩)) (.agg (rs[j].1).toArray)) w := by
  subst hd; obtain ⟨h0, h1, h2, hel, cur, hh, hcs, hkk, hdd⟩ := H.siftA; obtain ⟨fs, hu⟩ := HS.un; obtain ⟨inf, hi, hs, _⟩ := HS.inf; have hes : (rs[j].1).length = d.sz := d.own_len (hel _ (List.getElem_mem hj)); have hone : ∀ v ∈ rs[j].1, v.oneCell' = true := Kd.one d (H.siftEl (List.getElem_mem hj)); have hb : (j + 1) * d.sz ≤ c * d.sz := Nat.mul_le_mul_right _ (by omega); have hb2 : ks.length * d.sz ≤ j * d.sz := Nat.mul_le_mul_right _ hk; rw [Nat.add_mul, Nat.one_mul] at hb; have hst := run_storeCells_at P g (ks.length * d.sz) e (rs[j].1) 0 cur w hh (by simp only [Nat.add_zero]; omega) hone; simp only [Nat.add_zero] at hst; unfold VU; refine vU_run (u := ()) (w' := w.setRow g (cur.toList.take (ks.length * d.sz) ++ rs[j].1 ++ cur.toList.drop (ks.length * d.sz + (rs[j].1).length)).toArray) ?_ (h _ ?_)
  · simp [Instr.storeAt, Instr.sureAddr, storeVar, Value.cells, run_sizeOf' hi hs, hes]
    rw [hst, hes, List.append_assoc]
  have hgn : ∀ r ∈ rs, ∀ b ∈ r.2.1, b ≠ g := fun r hr b hb e => by
    subst e; exact (List.nodup_cons.1 h0).1 (List.mem_flatten_of_mem (List.mem_map.2 ⟨r, hr, rfl⟩) hb)
  have hskip : (cur.toList.drop ((j + 1) * d.sz)).take ((rs.length - (j + 1)) * d.sz) = ((rs.map (·.1)).drop (j + 1)).flatten := by
    obtain ⟨_, _, _, _, cur', hh', _, _, h5⟩ := (H.siftSkip hj).siftA; rw [hh] at hh'
    cases hh'
    exact h5
  refine H.put (w' := w.setRow g _) (c' := Ck.sift e d g c rs (ks ++ [rs[j]]) (j + 1)) .here ⟨rfl, rfl, rfl, by simp [World.setRow], fun k _ hn => setRow_other w g k _ (fun q => hn (by rw [q, sift_fp]; exact List.mem_cons_self ..))⟩
    ⟨h0, h1, h2, fun r hr => d.own_mono (hel r hr) fun b hb => setRow_other w g b _ (hgn r hr b hb), _, setRow_heap w g cur _ e _ hh, ?_, ?_, ?_⟩ h0 fun b hb => ⟨.inl hb, ?_⟩
  · simp only [List.size_toArray, List.length_append, List.length_take, List.length_drop, Array.length_toList]
    omega
  · rw [List.length_append, List.length_cons, List.length_nil, Nat.add_mul, Nat.zero_add, Nat.one_mul, List.map_append, List.flatten_append, ← hkk]
    have e1 : (cur.toList.take (ks.length * d.sz) ++ rs[j].1).length = ks.length * d.sz + d.sz := by
      have e9 : cur.toList.length = cur.size := Array.length_toList; rw [List.length_append, List.length_take, e9, hes]; omega
    have e2 : (cur.toList.take (ks.length * d.sz) ++ rs[j].1 ++ cur.toList.drop (ks.length * d.sz + (rs[j].1).length)).toArray.toList = cur.toList.take (ks.length * d.sz) ++ rs[j].1 ++ cur.toList.drop (ks.length * d.sz + (rs[j].1).length) := rfl; rw [e2, List.take_append_of_le_length (by omega), List.take_of_length_le (by omega)]
    simp
  · have e2 : (cur.toList.take (ks.length * d.sz) ++ rs[j].1 ++ cur.toList.drop (ks.length * d.sz + (rs[j].1).length)).toArray.toList = cur.toList.take (ks.length * d.sz) ++ rs[j].1 ++ cur.toList.drop (ks.length * d.sz + (rs[j].1).length) := rfl
    have e1 : (cur.toList.take (ks.length * d.sz) ++ rs[j].1).length = ks.length * d.sz + d.sz := by
      have e9 : cur.toList.length = cur.size := Array.length_toList; rw [List.length_append, List.length_take, e9, hes]; omega
    rw [e2, List.drop_append, e1, List.drop_of_length_le (by rw [e1, Nat.add_mul]; omega), List.nil_append, List.drop_drop, hes, ← hskip]
    congr 2
    rw [Nat.add_mul]; omega
  · have := (H.lo b (mem_fps (c := Ck.sift e d g c rs ks j) hb (.head _))).2
    simpa [World.setRow] using this
end
abbrev items : Kd (List MItem) := Kd.slice 45 kItem
theorem implItemOk_ok (w : World) (cs : List Value) (x : MItem) (h : kItem.rd w w.heap.size cs x) (hr : x.f_Route.length ≤ 1099511627776) :
    ACalls Tryz.prog 59 #[.agg cs.toArray] w fun r w' => r = .bool (itemOk x) ∧ Below w.heap.size w w' := by
  obtain ⟨v3, rfl, h0, h1, h2, h3⟩ := kItem_open h; obtain ⟨A3, c3, rfl, _, _, _⟩ := sl_open h3; have H := Sep.start w; refine body_of follows Tryz.func59 rfl rfl _ rfl (by kernel_rfl) (vs ?_); refine x_bx H [_, _, _, _] fun g1 w1 H => vs ?_; refine x_ld H sc9 ?_; refine vs ?_; refine x_callb H (implIsRoute_ok w1 _ hr) fun w2 H => ?_
  cases hR : isRoute x.f_Route with
  | false =>
    refine vs ?_; have : itemOk x = false := by unfold itemOk; rw [hR]; rfl
    rw [this]; exact ⟨rfl, H.bel⟩
  | true =>
    refine vs ?_; refine x_ld H sc3 ?_; refine vs ?_; refine x_callw (in_ok w2 _ _ _) ?_
    by_cases hA : 0 ≤ x.f_Topic ∧ x.f_Topic ≤ 9
    · refine ve hA ?_
      refine x_ld H sc3 ?_; refine vs ?_; refine x_callw (in_ok w2 _ _ _) ?_
      by_cases hB : 0 ≤ x.f_Due ∧ x.f_Due ≤ 100000
      · refine ve hB ?_
        refine x_ld H sc22 ?_; refine vs ?_; refine ⟨?_, H.bel⟩
        have : itemOk x = decide ((x.f_Bytes.length : Int) ≤ 1560) := by
          unfold itemOk; rw [hR, decide_eq_true hA, decide_eq_true hB, Bool.true_and, Bool.true_and, Bool.true_and]; exact decide_eq_decide.2 (by omega)
        rw [this]
      · refine ve hB ?_
        have : itemOk x = false := by unfold itemOk; rw [hR, decide_eq_false hB]; simp
        rw [this]; exact ⟨rfl, H.bel⟩
    · refine ve hA ?_
      have : itemOk x = false := by unfold itemOk; rw [hR, decide_eq_false hA]; rfl
      rw [this]; exact ⟨rfl, H.bel⟩
theorem specItemOk_ok (w : World) (cs : List Value) (x : MItem) (h : kItem.rd w w.heap.size cs x) (hr : x.f_Route.length ≤ 1099511627776) :
    ACalls Tryz.prog 51 #[.agg cs.toArray] w fun r w' => r = .bool (itemOk x) ∧ Below w.heap.size w w' := by
  obtain ⟨v3, rfl, h0, h1, h2, h3⟩ := kItem_open h; obtain ⟨A3, c3, rfl, _, _, _⟩ := sl_open h3; have H := Sep.start w; refine body_of follows Tryz.func51 rfl rfl _ rfl (by kernel_rfl) (vs ?_); refine x_bx H [_, _, _, _] fun g1 w1 H => vs ?_; refine x_ld H sc9 ?_; refine vs ?_; refine x_callb H (specIsRoute_ok w1 _ hr) fun w2 H => ?_
  cases hR : isRoute x.f_Route with
  | false =>
    refine vs ?_; have : itemOk x = false := by unfold itemOk; rw [hR]; rfl
    rw [this]; exact ⟨rfl, H.bel⟩
  | true =>
    refine vs ?_; refine x_ld H sc3 ?_; refine vs ?_; refine x_callw (l1In_ok w2 _ _ _) ?_
    by_cases hA : 0 ≤ x.f_Topic ∧ x.f_Topic ≤ 9
    · refine ve hA ?_
      refine x_ld H sc3 ?_; refine vs ?_; refine x_callw (l1In_ok w2 _ _ _) ?_
      by_cases hB : 0 ≤ x.f_Due ∧ x.f_Due ≤ 100000
      · refine ve hB ?_
        refine x_ld H sc22 ?_; refine vs ?_; refine ⟨?_, H.bel⟩
        have : itemOk x = decide ((x.f_Bytes.length : Int) ≤ 1560) := by
          unfold itemOk; rw [hR, decide_eq_true hA, decide_eq_true hB, Bool.true_and, Bool.true_and, Bool.true_and]; exact decide_eq_decide.2 (by omega)
        rw [this]
      · refine ve hB ?_
        have : itemOk x = false := by unfold itemOk; rw [hR, decide_eq_false hB]; simp
        rw [this]; exact ⟨rfl, H.bel⟩
    · refine ve hA ?_
      have : itemOk x = false := by unfold itemOk; rw [hR, decide_eq_false hA]; rfl
      rw [this]; exact ⟨rfl, H.bel⟩
theorem cloneBy_ok (w : World) (v : Value) (a : List UInt8) (h : (bytes 5).rd w w.heap.size [v] a) (hl : a.length ≤ 1099511627776) :
    ACalls Tryz.prog 107 #[v] w fun r w' => ∃ fp, Sep w.heap.size w w' [Ck.own (bytes 5) fp [r] a] := by
  have h0 := h; obtain ⟨A, c, rfl, hc1, hc2, ha⟩ := sl_open h; have H := Sep.start w; refine body_of follows Tryz.func107 rfl rfl _ rfl (by kernel_rfl) (vs ?_); refine x_nil Tryz.underlying22 ?_
  cases A with
  | none =>
    obtain rfl := sl_none ha; refine ve (show (none : Option Addr).isNone = true from rfl) ?_; exact ⟨_, H.nothing (sl_zero w)⟩
  | some ad =>
    refine ve (show (some ad).isNone = false from rfl) ?_; refine x_emp H pl_u8 sl22 fun g w1 H => vs ?_; refine x_app H pl_u8 sl22 (H.rd h0) ?_ ?_ fun fp5 v5 w5 H => vs ?_
    · simp only [List.length_nil]; omega
    · simp only [List.length_nil]; omega
    exact ⟨_, H⟩
theorem cloneItem_ok (w : World) (cs : List Value) (x : MItem) (h : kItem.rd w w.heap.size cs x) (hs : smItem x) :
    ACalls Tryz.prog 112 #[.agg cs.toArray] w fun r w' => ∃ cs' fp, r = .agg cs'.toArray ∧ Sep w.heap.size w w' [Ck.own kItem fp cs' x] := by
  unfold smItem at hs; obtain ⟨v3, rfl, h0, h1, h2, h3⟩ := kItem_open h; have H := Sep.start w; refine body_of follows Tryz.func112 rfl rfl _ rfl (by kernel_rfl) (vs ?_); refine x_bx H [.string ⟨x.f_Route.toArray⟩, .int .i64 x.f_Topic, .int .i64 x.f_Due, v3] fun g1 w1 H => vs ?_; refine x_al H st45 fun g2 w2 H => vs ?_; refine x_ld H sc22 ?_; refine vs ?_; refine x_callf H (cloneBy_ok w2 v3 _ (H.rd h3) (by omega)) fun r3 f3 w3 H => vs ?_; refine x_st H sc22 (h1 := Kd.one _ (H.own (.head _)) _ (by simp)) fun w4 H => vs ?_; refine x_lda H st45 ?_; refine vs ?_; obtain ⟨fp, H⟩ := ownItem x H h0 h1 h2; refine x_sta H st45 (h1 := Kd.one _ (H.own (.head _))) fun w5 H => vs ?_; exact ⟨_, _, rfl, res_cell H st45, _, _, rfl, H.head⟩
theorem l13Item_ok (w : World) (cs : List Value) (x : MItem) (h : kItem.rd w w.heap.size cs x) (hs : smItem x) :
    ACalls Tryz.prog 120 #[.agg cs.toArray] w fun r w' => ∃ cs' fp, r = .agg cs'.toArray ∧ Sep w.heap.size w w' [Ck.own kItem fp cs' x] := by
  unfold smItem at hs; obtain ⟨v3, rfl, h0, h1, h2, h3⟩ := kItem_open h; have H := Sep.start w; refine body_of follows Tryz.func120 rfl rfl _ rfl (by kernel_rfl) (vs ?_); refine x_bx H [.string ⟨x.f_Route.toArray⟩, .int .i64 x.f_Topic, .int .i64 x.f_Due, v3] fun g1 w1 H => vs ?_; refine x_al H st45 fun g2 w2 H => vs ?_; refine x_emp H pl_u8 sl22 fun g3 w3 H => vs ?_; refine x_ld H sc22 ?_; refine vs ?_; refine x_app H pl_u8 sl22 (H.rd h3) ?_ ?_ fun f3 r3 w4 H => vs ?_
  · simp only [List.length_nil]; omega
  · simp only [List.length_nil]; omega
  rw [List.nil_append] at H; refine x_st H sc22 (h1 := Kd.one _ (H.own (.head _)) _ (by simp)) fun w4 H => vs ?_; refine x_lda H st45 ?_; refine vs ?_; obtain ⟨fp, H⟩ := ownItem x H h0 h1 h2; refine x_sta H st45 (h1 := Kd.one _ (H.own (.head _))) fun w5 H => vs ?_; exact ⟨_, _, rfl, res_cell H st45, _, _, rfl, H.head⟩
theorem cloneItems_ok (w : World) (v : Value) (l : List MItem) (h : items.rd w w.heap.size [v] l) (hs : smItemS l) :
    ACalls Tryz.prog 109 #[v] w fun r w' => ∃ fp, Sep w.heap.size w w' [Ck.own items fp [r] l] := by
  have hlm := sl_len h; have hs0 := hs.1; obtain ⟨A, c, rfl, hc1, hc2, ha⟩ := sl_open h; have H := (Sep.start w).nothing (d := items) (sl_zero w); refine body_of follows Tryz.func109 rfl rfl _ rfl (by kernel_rfl) (vs ?_)
  refine loop_at (σ := Nat × Value × List Nat) (fun x => [(3, x.2.1), (6, .slice A l.length c), (7, .int .i64 (l.length : Int)), (8, .int .i64 (x.1 : Int))])
    (fun x w' => x.1 ≤ l.length ∧ Sep w.heap.size w w' [Ck.own items x.2.2 [x.2.1] (l.take x.1)]) (fun x => l.length - x.1) (0, _, _) (vs trivial) ⟨Nat.zero_le _, H⟩ ?_
  rintro ⟨k, v', fp⟩ s w2 ⟨hk, H⟩; dsimp only at hk H; refine vs (ways ?_ ?_)
  · refine vh fun hlt => ?_
    have hk2 : k < l.length := by omega
    have hsm := hs.2 l[k] (List.getElem_mem hk2); refine x_ele H sl24 rfl k hk2 ha rfl fun ad es hb hr hc => vs ?_; obtain ⟨u, rfl, q0, q1, q2, q3⟩ := kItem_open hr; refine x_lds st45 hc rfl (vs ?_); refine x_al H st45 fun g5 w3 H => vs ?_; refine x_sta H st45 (h1 := Kd.one _ hr) fun w4 H => vs ?_; refine x_lda H st45 ?_; refine vs ?_; refine x_call (cloneItem_ok w4 _ l[k] (H.rd hr) hsm) fun _ w5 ⟨cs5, f5, e, S⟩ => ?_; subst e; have H := H.join S; simp only [List.cons_append, List.nil_append] at H; have H := H.drop2; refine vs ?_; refine x_lst1 sl24 H rfl rfl fun f6 v6 w6 H => vs ?_; refine x_appO sl24 H rfl ?_ ?_ fun f7 v7 w7 H => vs ?_
    · simp only [List.length_take, List.length_cons, List.length_nil]; omega
    · simp only [List.length_take, List.length_cons, List.length_nil]; omega
    refine ⟨(k + 1, v7, f7), ⟨rfl, i64_eq (by show w64 ((k : Int) + 1) = ((k + 1 : Nat) : Int); unfold w64; omega)⟩, ⟨hk2, ?_⟩, by show l.length - (k + 1) < l.length - k; omega⟩
    show Sep _ _ _ [Ck.own _ f7 [v7] (l.take (k + 1))]
    rw [List.take_succ_eq_append_getElem hk2]; exact H
  · refine vh fun hlt => ?_
    obtain rfl : k = l.length := by omega
    rw [List.take_length] at H; exact ⟨_, H⟩
theorem l13Queue_ok (w : World) (v : Value) (l : List MItem) (h : items.rd w w.heap.size [v] l) (hs : smItemS l) :
    ACalls Tryz.prog 140 #[v] w fun r w' => ∃ fp, Sep w.heap.size w w' [Ck.own items fp [r] l] := by
  have hlm := sl_len h; have hs0 := hs.1; obtain ⟨A, c, rfl, hc1, hc2, ha⟩ := sl_open h; refine body_of follows Tryz.func140 rfl rfl _ rfl (by kernel_rfl) (vs ?_); refine x_empO (d := kItem) (Sep.start w) sl24 fun g w1 H => vs ?_
  refine loop_at (σ := Nat × Value × List Nat) (fun x => [(0, .slice A l.length c), (3, x.2.1), (4, .int .i64 (x.1 : Int))])
    (fun x w' => x.1 ≤ l.length ∧ Sep w.heap.size w w' [Ck.own items x.2.2 [x.2.1] (l.take x.1)]) (fun x => l.length - x.1) (0, _, _) (vs trivial) ⟨Nat.zero_le _, H⟩ ?_
  rintro ⟨k, v', fp⟩ s w2 ⟨hk, H⟩; dsimp only at hk H; refine vs (ways ?_ ?_)
  · refine vh fun hlt => ?_
    have hk2 : k < l.length := by omega
    have hsm := hs.2 l[k] (List.getElem_mem hk2); refine x_ele H sl24 rfl k hk2 ha rfl fun ad es hb hr hc => vs ?_; refine x_lds st45 hc (Kd.len _ hr) (vs ?_); refine x_call (l13Item_ok w2 _ l[k] (H.rd hr) hsm) fun _ w5 ⟨cs5, f5, e, S⟩ => ?_; subst e; have H := H.join S; simp only [List.cons_append, List.nil_append] at H; refine vs ?_; refine x_lst1 sl24 H rfl rfl fun f6 v6 w6 H => vs ?_; refine x_appO sl24 H rfl ?_ ?_ fun f7 v7 w7 H => vs ?_
    · simp only [List.length_take, List.length_cons, List.length_nil]; omega
    · simp only [List.length_take, List.length_cons, List.length_nil]; omega
    refine ⟨(k + 1, v7, f7), ⟨rfl, i64_eq (by show w64 ((k : Int) + 1) = ((k + 1 : Nat) : Int); unfold w64; omega)⟩, ⟨hk2, ?_⟩, by show l.length - (k + 1) < l.length - k; omega⟩
    show Sep _ _ _ [Ck.own _ f7 [v7] (l.take (k + 1))]
    rw [List.take_succ_eq_append_getElem hk2]; exact H
  · refine vh fun hlt => ?_
    obtain rfl : k = l.length := by omega
    rw [List.take_length] at H; exact ⟨_, H⟩
theorem Sep.none {n : Nat} {w0 w : World} {L : List Ck} (H : Sep n w0 w L) : Sep n w0 w [] := Sep.left (L := []) (M := L) H
theorem implOf_ok (w : World) (v : Value) (l : List MItem) (r : List UInt8) (h : items.rd w w.heap.size [v] l) :
    ACalls Tryz.prog 76 #[v, .string ⟨r.toArray⟩] w fun q w' => q = .int .i64 (ofN l r : Int) ∧ Below w.heap.size w w' := by
  have hlm := sl_len h; obtain ⟨A, c, rfl, hc1, hc2, ha⟩ := sl_open h; refine body_of follows Tryz.func76 rfl rfl _ rfl (by kernel_rfl) (vs ?_)
  refine loop_at (σ := Nat) (fun k => [(1, .string ⟨r.toArray⟩), (5, .int .i64 (ofN (l.take k) r : Int)), (8, .slice A l.length c), (9, .int .i64 (l.length : Int)), (10, .int .i64 (k : Int))])
    (fun k w' => k ≤ l.length ∧ Sep w.heap.size w w' []) (fun k => l.length - k) 0 (vs trivial) ⟨Nat.zero_le _, Sep.start w⟩ ?_
  rintro k s w2 ⟨hk, H⟩; refine vs (ways ?_ ?_)
  · refine vh fun hlt => ?_
    have hk2 : k < l.length := by omega
    refine x_ele H sl24 rfl k hk2 ha rfl fun ad es hb hr hc => vs ?_; obtain ⟨u, rfl, q0, q1, q2, q3⟩ := kItem_open hr; refine x_lds st45 hc rfl (vs ?_); refine x_al H st45 fun g5 w3 H => vs ?_; refine x_sta H st45 (h1 := Kd.one _ hr) fun w4 H => vs ?_; refine x_ld H sc9 ?_; have hle := ofN_le (l.take k) r; rw [List.length_take] at hle; have hsu := ofN_succ hk2 r; refine vs (ways ?_ ?_)
    · refine vh fun he => ?_
      rw [if_pos he] at hsu; refine ⟨k + 1, ⟨i64_eq (by rw [hsu]; unfold w64; omega), i64_eq (by unfold w64; omega)⟩, ⟨hk2, H.none⟩, by omega⟩
    · refine vh fun he => ?_
      rw [if_neg he] at hsu; refine ⟨k + 1, ⟨by rw [hsu]; rfl, i64_eq (by unfold w64; omega)⟩, ⟨hk2, H.none⟩, by omega⟩
  · refine vh fun hlt => ?_
    obtain rfl : k = l.length := by omega
    rw [List.take_length]; exact ⟨rfl, H.bel⟩
theorem l1Bit_ok (w : World) (b : Bool) : ACalls Tryz.prog 132 #[.bool b] w fun q w' => q = .int .i64 (if b = true then 1 else 0) ∧ w' = w := by
  refine body_of follows Tryz.func132 rfl rfl _ rfl (by kernel_rfl) ?_
  cases b with
  | true => refine vs ?_; exact trivial
  | false => refine vs ?_; exact trivial
theorem specOf_ok (w : World) (v : Value) (l : List MItem) (r : List UInt8) (h : items.rd w w.heap.size [v] l) :
    ACalls Tryz.prog 100 #[v, .string ⟨r.toArray⟩] w fun q w' => q = .int .i64 (ofN l r : Int) ∧ Below w.heap.size w w' := by
  have hlm := sl_len h; obtain ⟨A, c, rfl, hc1, hc2, ha⟩ := sl_open h; refine body_of follows Tryz.func100 rfl rfl _ rfl (by kernel_rfl) (vs ?_)
  refine loop_at (σ := Nat) (fun k => [(0, .slice A l.length c), (1, .string ⟨r.toArray⟩), (5, .int .i64 (ofN (l.take k) r : Int)), (6, .int .i64 (k : Int))])
    (fun k w' => k ≤ l.length ∧ Sep w.heap.size w w' []) (fun k => l.length - k) 0 (vs trivial) ⟨Nat.zero_le _, Sep.start w⟩ ?_
  rintro k s w2 ⟨hk, H⟩; refine vs (ways ?_ ?_)
  · refine vh fun hlt => ?_
    have hk2 : k < l.length := by omega
    refine x_ele H sl24 rfl k hk2 ha rfl fun ad es hb hr hc => vs ?_; obtain ⟨u, rfl, q0, q1, q2, q3⟩ := kItem_open hr; refine x_lf0 sc9 hc (by decide) rfl ?_; refine vs ?_; refine x_callw (l1Bit_ok w2 _) ?_; refine vs ?_; have hle := ofN_le (l.take k) r; rw [List.length_take] at hle; have hsu := ofN_succ hk2 r; refine ⟨k + 1, ⟨i64_eq ?_, i64_eq (by unfold w64; omega)⟩, ⟨hk2, H⟩, by omega⟩
    by_cases he : l[k].f_Route = r
    · rw [if_pos he] at hsu
      rw [hsu, if_pos he]; unfold w64; omega
    · rw [if_neg he] at hsu
      rw [hsu, if_neg he]; unfold w64; omega
  · refine vh fun hlt => ?_
    obtain rfl : k = l.length := by omega
    rw [List.take_length]; exact ⟨rfl, H.bel⟩
end Go.Proofs.YtcmckbgiiclomacGreat.V
