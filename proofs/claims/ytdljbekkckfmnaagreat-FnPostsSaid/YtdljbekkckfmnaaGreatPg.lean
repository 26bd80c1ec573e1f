/- Books that grow, in plain Lean: a line is read as it was written; a right post stays right. -/
import Derived.Test.YtdljbekkckfmnaaGreatPq
namespace Go.Proofs.YtdljbekkckfmnaaGreat.V
open Go Go.RowKit
set_option linter.unusedVariables false

theorem w4_sum (a b c d : UInt8) : w4 a b c d = ((a.toNat * 16777216 + b.toNat * 65536 + c.toNat * 256 + d.toNat : Nat) : Int) := by
  have ha := a.toNat_lt; have hb := b.toNat_lt; have hc := c.toNat_lt; have hd := d.toNat_lt
  unfold w4
  rw [ishl_nat (by omega) (by omega), ishl_nat (by omega) (by omega), ishl_nat (by omega) (by omega)]
  have s1 : a.toNat <<< 24 ||| b.toNat <<< 16 = (a.toNat * 256 + b.toNat) <<< 16 := by
    rw [← Nat.shiftLeft_add_eq_or_of_lt (i := 24) (by rw [Nat.shiftLeft_eq]; omega)]; simp only [Nat.shiftLeft_eq]; omega
  have s2 : (a.toNat * 256 + b.toNat) <<< 16 ||| c.toNat <<< 8 = ((a.toNat * 256 + b.toNat) * 256 + c.toNat) <<< 8 := by
    rw [← Nat.shiftLeft_add_eq_or_of_lt (i := 16) (by rw [Nat.shiftLeft_eq]; omega)]; simp only [Nat.shiftLeft_eq]; omega
  have s3 : ((a.toNat * 256 + b.toNat) * 256 + c.toNat) <<< 8 ||| d.toNat = a.toNat * 16777216 + b.toNat * 65536 + c.toNat * 256 + d.toNat := by
    rw [← Nat.shiftLeft_add_eq_or_of_lt (i := 8) (by omega)]; simp only [Nat.shiftLeft_eq]; omega
  have g1 : a.toNat <<< 24 < 9223372036854775808 := by rw [Nat.shiftLeft_eq]; omega
  have g2 : b.toNat <<< 16 < 9223372036854775808 := by rw [Nat.shiftLeft_eq]; omega
  have g3 : c.toNat <<< 8 < 9223372036854775808 := by rw [Nat.shiftLeft_eq]; omega
  have g4 : (a.toNat * 256 + b.toNat) <<< 16 < 9223372036854775808 := by rw [Nat.shiftLeft_eq]; omega
  have g5 : ((a.toNat * 256 + b.toNat) * 256 + c.toNat) <<< 8 < 9223372036854775808 := by rw [Nat.shiftLeft_eq]; omega
  rw [ior_nat g1 g2, s1, ior_nat g4 g3, s2, ior_nat g5 (by omega), s3]

theorem great4 {n : Int} (h : 0 ≤ n) : greatB n 4 = [UInt8.ofNat (n.toNat / 16777216 % 256), UInt8.ofNat (n.toNat / 65536 % 256), UInt8.ofNat (n.toNat / 256 % 256), UInt8.ofNat (n.toNat % 256)] := by
  unfold greatB littleB
  rw [if_pos ⟨h, by decide, by decide⟩, show (4 : Int).toNat = 4 from rfl]
  simp [List.range_succ]
theorem great2 {n : Int} (h : 0 ≤ n) : greatB n 2 = [UInt8.ofNat (n.toNat / 256 % 256), UInt8.ofNat (n.toNat % 256)] := by
  unfold greatB littleB
  rw [if_pos ⟨h, by decide, by decide⟩, show (2 : Int).toNat = 2 from rfl]
  simp [List.range_succ]
theorem ofNat_nat {k : Nat} (h : k < 256) : (UInt8.ofNat k).toNat = k := by rw [UInt8.toNat_ofNat']; omega
theorem list8 {l : List UInt8} (h : l.length = 8) : ∃ a b c d e f g i, l = [a, b, c, d, e, f, g, i] := by
  match l, h with
  | [a, b, c, d, e, f, g, i], _ => exact ⟨a, b, c, d, e, f, g, i, rfl⟩
theorem lineOk_topic {l : MLine} (h : lineOk l = true) : 0 ≤ l.f_Topic ∧ l.f_Topic ≤ 9 := by
  unfold lineOk at h
  split at h
  · exact (itemOk_iff.1 h).2.1
  · split at h
    · simp only [Bool.and_eq_true, decide_eq_true_eq] at h; omega
    · split at h
      · simp only [Bool.and_eq_true, decide_eq_true_eq] at h; omega
      · cases h
theorem lineOk_back {l : MLine} (h : lineOk l = true) : (if l.f_Kind.toNat = 3 then [] else hexB (lineRoute l)) = l.f_Route := by
  have hk := lineOk_kind h
  unfold lineRoute
  unfold lineOk at h
  rcases hk with hk | hk | hk
  · rw [if_pos hk] at h
    rw [if_neg (by omega), if_neg (by omega)]
    exact hex_unhex (isRoute_len (itemOk_iff.1 h).1).1
  · rw [if_neg (by omega), if_pos hk] at h
    rw [if_neg (by omega), if_neg (by omega)]
    simp only [Bool.and_eq_true] at h
    exact hex_unhex (isRoute_len h.1.1.1).1
  · rw [if_neg (by omega), if_neg (by omega), if_pos hk] at h
    rw [if_pos (by omega)]
    simp only [Bool.and_eq_true, decide_eq_true_eq] at h
    exact h.1.1.2.symm
/-- A line is read as it was written, whatever lies behind it. -/
theorem lineAt_bytes {l : MLine} (h : lineOk l = true) (rest : List UInt8) : lineAt (lineBytes l ++ rest) = some (l, (lineBytes l).length) := by
  have hlen := lineBytes_len h
  have hb := lineOk_bytes h
  have hd := lineOk_due h
  have ht := lineOk_topic h
  have hk := lineOk_kind h
  have hback := lineOk_back h
  obtain ⟨r0, r1, r2, r3, r4, r5, r6, r7, hr⟩ := list8 (lineRoute_len h)
  have ex : lineBytes l ++ rest = u8i l.f_Kind :: r0 :: r1 :: r2 :: r3 :: r4 :: r5 :: r6 :: r7 :: u8i l.f_Topic :: UInt8.ofNat (l.f_Due.toNat / 16777216 % 256) :: UInt8.ofNat (l.f_Due.toNat / 65536 % 256) :: UInt8.ofNat (l.f_Due.toNat / 256 % 256) :: UInt8.ofNat (l.f_Due.toNat % 256) :: UInt8.ofNat (l.f_Bytes.length / 256 % 256) :: UInt8.ofNat (l.f_Bytes.length % 256) :: (l.f_Bytes ++ (greatB ((lineHead l).length : Int) 2 ++ rest)) := by
    unfold lineBytes
    rw [if_pos h]
    conv => lhs; rw [lineHead, hr, great4 hd.1, great2 (n := (l.f_Bytes.length : Int)) (by omega)]
    simp only [Int.toNat_natCast, List.append_assoc, List.cons_append, List.nil_append]
    rw [lineHead, hr, great4 hd.1, great2 (n := (l.f_Bytes.length : Int)) (by omega)]
    simp only [Int.toNat_natCast, List.append_assoc, List.cons_append, List.nil_append]
  have hsz : lineSz (lineBytes l ++ rest) = l.f_Bytes.length := by
    rw [ex]
    unfold lineSz be
    simp only [List.getD_eq_getElem?_getD, List.getElem?_cons_succ, List.getElem?_cons_zero, Option.getD_some]
    rw [ofNat_nat (by omega), ofNat_nat (by omega)]; omega
  have hraw : rawLine (lineBytes l ++ rest) = l := by
    unfold rawLine
    rw [hsz, ex]
    unfold be
    simp only [List.getD_eq_getElem?_getD, List.getElem?_cons_succ, List.getElem?_cons_zero, Option.getD_some, List.drop_succ_cons, List.drop_zero, List.take_succ_cons, List.take_zero]
    have e1 : (u8i l.f_Kind).toNat = l.f_Kind.toNat := by unfold u8i; rw [ofNat_nat (by omega)]; omega
    have e2 : ((u8i l.f_Topic).toNat : Int) = l.f_Topic := by unfold u8i; rw [ofNat_nat (by omega)]; omega
    have e3 : w4 (UInt8.ofNat (l.f_Due.toNat / 16777216 % 256)) (UInt8.ofNat (l.f_Due.toNat / 65536 % 256)) (UInt8.ofNat (l.f_Due.toNat / 256 % 256)) (UInt8.ofNat (l.f_Due.toNat % 256)) = l.f_Due := by
      rw [w4_sum, ofNat_nat (by omega), ofNat_nat (by omega), ofNat_nat (by omega), ofNat_nat (by omega)]; omega
    have e4 : (l.f_Bytes ++ (greatB ((lineHead l).length : Int) 2 ++ rest)).take l.f_Bytes.length = l.f_Bytes := by rw [List.take_left']; rfl
    rw [e1, e2, e3, e4, ← hr, hback]
    have e0 : ((l.f_Kind.toNat : Nat) : Int) = l.f_Kind := by omega
    rw [e0]
  have h2 : lineBytes (rawLine (lineBytes l ++ rest)) = (lineBytes l ++ rest).take (18 + lineSz (lineBytes l ++ rest)) := by
    rw [hraw, hsz, ← hlen, List.take_left']; rfl
  rw [lineAt_yes (by rw [List.length_append]; omega) (by rw [hsz, List.length_append]; omega) h2, hraw, hsz, hlen]
theorem lineAt_more {b : List UInt8} {l : MLine} {n : Nat} (h : lineAt b = some (l, n)) (y : List UInt8) : lineAt (b ++ y) = some (l, n) := by
  obtain ⟨h18, hn, hok, hb⟩ := lineAt_len h
  have e : b ++ y = lineBytes l ++ (b.drop n ++ y) := by rw [hb, ← List.append_assoc, List.take_append_drop]
  have e2 : (lineBytes l).length = n := by rw [hb, List.length_take]; omega
  rw [e, lineAt_bytes hok, e2]
theorem lineAt_nil : lineAt [] = none := lineAt_no (by simp)

/-- What is played of a book that goes on. -/
theorem playGo_app (m : Nat) : ∀ (b y : List UInt8) (q : List MItem) (now : Int) (k : Nat), b.length ≤ m → (playGo b q now k).2.2 = k + b.length →
    playGo (b ++ y) q now k = playGo y (playGo b q now k).1 (playGo b q now k).2.1 (k + b.length) := by
  induction m with
  | zero =>
    intro b y q now k hm hw
    obtain rfl : b = [] := List.length_eq_zero_iff.1 (by omega)
    rw [playGo_none lineAt_nil]; rfl
  | succ m ih =>
    intro b y q now k hm hw
    cases h : lineAt b with
    | none =>
      rw [playGo_none h] at hw
      obtain rfl : b = [] := List.length_eq_zero_iff.1 (by dsimp only at hw; omega)
      rw [playGo_none lineAt_nil]; rfl
    | some ln =>
      obtain ⟨l, n⟩ := ln
      obtain ⟨h18, hn, _, _⟩ := lineAt_len h
      rw [playGo_some h] at hw ⊢
      rw [playGo_some (lineAt_more h y), List.drop_append_of_le_length hn, ih (b.drop n) y _ _ _ (by rw [List.length_drop]; omega) (by rw [hw, List.length_drop]; omega)]
      rw [List.length_drop, show k + n + (b.length - n) = k + b.length by omega]
theorem play_app {b : List UInt8} {q : List MItem} {now : Int} (h : play b = (q, now, b.length)) {l : MLine} (hl : lineOk l = true) :
    play (b ++ lineBytes l) = ((lineStep q now l).1, (lineStep q now l).2, (b ++ lineBytes l).length) := by
  unfold play at h ⊢
  rw [playGo_app b.length b _ _ _ _ (Nat.le_refl _) (by rw [h]; simp), h]
  have e := lineAt_bytes hl []
  rw [List.append_nil] at e
  rw [playGo_some e, List.drop_length, playGo_none lineAt_nil, List.length_append]
  simp
theorem playGo_at (m : Nat) : ∀ (b : List UInt8) (q q' : List MItem) (now now' : Int) (k k' : Nat), b.length ≤ m → (playGo b q now k).2.2 = k + b.length → (playGo b q' now' k').2.2 = k' + b.length := by
  induction m with
  | zero =>
    intro b q q' now now' k k' hm hw
    obtain rfl : b = [] := List.length_eq_zero_iff.1 (by omega)
    rw [playGo_none lineAt_nil]; rfl
  | succ m ih =>
    intro b q q' now now' k k' hm hw
    cases h : lineAt b with
    | none =>
      rw [playGo_none h] at hw
      obtain rfl : b = [] := List.length_eq_zero_iff.1 (by dsimp only at hw; omega)
      rw [playGo_none lineAt_nil]; rfl
    | some ln =>
      obtain ⟨l, n⟩ := ln
      obtain ⟨h18, hn, _, _⟩ := lineAt_len h
      rw [playGo_some h] at hw ⊢
      have := ih (b.drop n) (lineStep q now l).1 (lineStep q' now' l).1 (lineStep q now l).2 (lineStep q' now' l).2 (k + n) (k' + n) (by rw [List.length_drop]; omega) (by rw [hw, List.length_drop]; omega)
      rw [this, List.length_drop]; omega

/-! ### lists of lines -/
theorem linesGo_none' {n : Nat} {x : List UInt8} (h : lineAt x = none) : linesGo n x = [] := by
  cases n with
  | zero => rfl
  | succ n => simp only [linesGo, h]
theorem linesGo_some' {n m : Nat} {x : List UInt8} {l : MLine} (h : lineAt x = some (l, m)) : linesGo (n + 1) x = lineBytes l :: linesGo n (x.drop m) := by
  simp only [linesGo, h]
/-- A book that is played to its end. -/
def Whole (b : List UInt8) : Prop := (play b).2.2 = b.length
theorem Whole.drop {b : List UInt8} {l : MLine} {n : Nat} (hw : Whole b) (h : lineAt b = some (l, n)) : Whole (b.drop n) := by
  unfold Whole play at hw
  obtain ⟨h18, hn, _, _⟩ := lineAt_len h
  rw [playGo_some h] at hw
  have := playGo_at (b.drop n).length (b.drop n) _ [] _ 0 _ 0 (Nat.le_refl _) (by rw [hw, List.length_drop]; omega)
  unfold Whole play
  omega
theorem Whole.none {b : List UInt8} (hw : Whole b) (h : lineAt b = none) : b = [] := by
  unfold Whole play at hw
  rw [playGo_none h] at hw
  exact List.length_eq_zero_iff.1 hw.symm
theorem linesGo_app : ∀ (k : Nat) (b : List UInt8), Whole b → ∀ {l : MLine}, lineOk l = true → (linesGo k b).length < k → linesGo k (b ++ lineBytes l) = linesGo k b ++ [lineBytes l]
  | 0, b, _, l, _, h => absurd h (Nat.not_lt_zero _)
  | k + 1, b, hw, l, hl, hk => by
    cases h : lineAt b with
    | none =>
      obtain rfl := hw.none h
      have e := lineAt_bytes hl []
      rw [List.append_nil] at e
      rw [List.nil_append, linesGo_some' e, linesGo_none' h, List.drop_length, linesGo_none' lineAt_nil]; rfl
    | some ln =>
      obtain ⟨l2, n⟩ := ln
      obtain ⟨h18, hn, _, _⟩ := lineAt_len h
      rw [linesGo_some' h] at hk ⊢
      rw [linesGo_some' (lineAt_more h _), List.drop_append_of_le_length hn, linesGo_app k (b.drop n) (hw.drop h) hl (by simp only [List.length_cons] at hk; omega), List.cons_append]
theorem linesOf_app {b : List UInt8} (hw : Whole b) {l : MLine} (hl : lineOk l = true) (hk : (linesOf b).length < 40) : linesOf (b ++ lineBytes l) = linesOf b ++ [lineBytes l] := linesGo_app 40 b hw hl hk
theorem linesOf_pos {b : List UInt8} (hw : Whole b) (h : b ≠ []) : 1 ≤ (linesOf b).length := by
  cases h2 : lineAt b with
  | none => exact absurd (hw.none h2) h
  | some ln =>
    obtain ⟨l, n⟩ := ln
    unfold linesOf
    rw [linesGo_some' h2]
    simp

/-! ### queues that stay right -/
theorem ofN_sub {l q : List MItem} (h : l.Sublist q) (r : List UInt8) : ofN l r ≤ ofN q r := h.countP_le
theorem queueOk_sub : ∀ {q l : List MItem}, l.Sublist q → queueOk q = true → queueOk l = true := by
  intro q l h hq
  have key : ∀ q : List MItem, queueOk q = true ↔ q.length ≤ 10 ∧ (∀ x ∈ q, itemOk x = true ∧ ofN q x.f_Route ≤ 4) ∧ q.Pairwise fun a b => ¬ (0 < b.f_Topic ∧ twin b a = true) := by
    intro q
    rw [queueOk_iff]
    refine and_congr_right fun _ => ?_
    rw [List.pairwise_iff_getElem]
    constructor
    · intro h
      refine ⟨fun x hx => ?_, fun i j hi hj hij => ?_⟩
      · obtain ⟨i, hi, rfl⟩ := List.getElem_of_mem hx
        have := h i hi
        unfold qAt at this
        rw [itAt_eq hi] at this
        simp only [Bool.and_eq_true, decide_eq_true_eq] at this
        exact this.1
      · have := h j hj
        unfold qAt at this
        rw [itAt_eq hj] at this
        simp only [Bool.and_eq_true, Bool.not_eq_true', Bool.and_eq_false_iff, decide_eq_false_iff_not] at this
        rintro ⟨h1, h2⟩
        rcases this.2 with h3 | h3
        · exact h3 h1
        · rw [Bool.eq_false_iff] at h3
          exact h3 (List.any_eq_true.2 ⟨q[i], List.mem_take_iff_getElem.2 ⟨i, by omega, rfl⟩, h2⟩)
    · rintro ⟨h1, h2⟩ i hi
      unfold qAt
      rw [itAt_eq hi]
      have h3 := h1 q[i] (List.getElem_mem hi)
      simp only [Bool.and_eq_true, decide_eq_true_eq, Bool.not_eq_true', Bool.and_eq_false_iff, decide_eq_false_iff_not]
      refine ⟨h3, ?_⟩
      by_cases h4 : 0 < q[i].f_Topic
      · right
        rw [Bool.eq_false_iff]
        intro h5
        obtain ⟨y, hy, h6⟩ := List.any_eq_true.1 h5
        obtain ⟨j, hj, rfl⟩ := List.mem_take_iff_getElem.1 hy
        exact h2 j i (by omega) hi (by omega) ⟨h4, h6⟩
      · exact .inl h4
  rw [key] at hq ⊢
  refine ⟨Nat.le_trans h.length_le hq.1, fun x hx => ?_, hq.2.2.sublist h⟩
  have := hq.2.1 x (h.subset hx)
  exact ⟨this.1, Nat.le_trans (ofN_sub h _) this.2⟩

/-! ### posts that stay right -/
theorem post_grown {p p' : MPost} {l : MLine} (h : postOk p = true) (hl : lineOk l = true) (hq : queueOk (lineStep p.f_Queue p.f_Time l).1 = true) (ht : 0 ≤ (lineStep p.f_Queue p.f_Time l).2 ∧ (lineStep p.f_Queue p.f_Time l).2 ≤ 100000)
    (hf : p.f_Book.length + (lineBytes l).length ≤ 12000) (e : p' = ⟨(lineStep p.f_Queue p.f_Time l).1, (lineStep p.f_Queue p.f_Time l).2, p.f_Book ++ lineBytes l, p.f_Sure⟩) : postOk p' = true := by
  subst e
  obtain ⟨⟨h1, h2, h3, h4⟩, h5⟩ := postOk_iff.1 h
  rw [postOk_iff]
  refine ⟨⟨hq, ht, by dsimp only; rw [List.length_append]; omega, by dsimp only; rw [List.length_append]; omega⟩, ?_⟩
  exact play_app h5 hl
theorem postOk_whole {p : MPost} (h : postOk p = true) : Whole p.f_Book := by
  unfold Whole; rw [(postOk_iff.1 h).2]
/-- A post is as another, or its book has one line more. -/
def Grew (p p' : MPost) : Prop := postOk p' = true ∧ (p' = p ∨ ∃ l, lineOk l = true ∧ p'.f_Book = p.f_Book ++ lineBytes l)
theorem Grew.refl {p : MPost} (h : postOk p = true) : Grew p p := ⟨h, .inl rfl⟩
theorem putLine_ok' {x : MItem} (h : itemOk x = true) : lineOk (putLine x) = true := by
  unfold lineOk putLine itemOf; exact h
theorem takeLine_ok' {r : List UInt8} (h : isRoute r = true) : lineOk (takeLine r) = true := by
  unfold lineOk takeLine; simp [h]
theorem timeLine_ok' {n : Int} (h : 0 ≤ n ∧ n ≤ 100000) : lineOk (timeLine n) = true := by
  unfold lineOk timeLine; simp [h]
theorem drop_grew {p : MPost} (x : MItem) (h : postOk p = true) : Grew p (dropP p x).1 := by
  unfold dropP
  split
  · rename_i h1
    simp only [Bool.and_eq_true, decide_eq_true_eq] at h1
    split
    · rename_i h2
      unfold fits at h2
      simp only [Bool.and_eq_true, decide_eq_true_eq] at h2
      have hp : queueOk (putL p.f_Queue x) = true := by
        have := h2.1; unfold put at this
        split at this
        · assumption
        · cases this
      have e1 : (put p.f_Queue x).1 = putL p.f_Queue x := by unfold put; rw [if_pos hp]
      have e2 : lineStep p.f_Queue p.f_Time (putLine x) = (putL p.f_Queue x, p.f_Time) := by
        unfold lineStep; rw [if_pos (show (putLine x).f_Kind = 1 from rfl), show itemOf (putLine x) = x from rfl, e1]
      refine ⟨post_grown h (putLine_ok' h1.1.2) (by rw [e2]; exact hp) (by rw [e2]; exact (postOk_iff.1 h).1.2.1) h2.2 (by rw [e2, e1]), .inr ⟨_, putLine_ok' h1.1.2, rfl⟩⟩
    · exact .refl h
  · exact .refl h
theorem fetch_grew {p : MPost} (r : List UInt8) (h : postOk p = true) : Grew p (fetchP p r).1 := by
  unfold fetchP
  split
  · rename_i h1
    simp only [Bool.and_eq_true] at h1
    split
    · split
      · rename_i h3
        unfold fits at h3
        simp only [decide_eq_true_eq] at h3
        have e2 : lineStep p.f_Queue p.f_Time (takeLine r) = ((takeQ p.f_Queue r).2.1, p.f_Time) := by
          unfold lineStep; rw [if_neg (show ¬ (takeLine r).f_Kind = 1 from (by decide : ¬ (2 : Int) = 1)), if_pos (show (takeLine r).f_Kind = 2 from rfl)]; rfl
        have hq : queueOk (takeQ p.f_Queue r).2.1 = true := by
          refine queueOk_sub ?_ (postOk_iff.1 h).1.1
          unfold takeQ
          split
          · exact List.eraseIdx_sublist _ _
          · exact List.Sublist.refl _
        refine ⟨post_grown h (takeLine_ok' h1.2) (by rw [e2]; exact hq) (by rw [e2]; exact (postOk_iff.1 h).1.2.1) h3 (by rw [e2]), .inr ⟨_, takeLine_ok' h1.2, rfl⟩⟩
      · exact .refl h
    · exact .refl h
  · exact .refl h
theorem tick_grew {p : MPost} (now : Int) (h : postOk p = true) : Grew p (tickP p now).1 := by
  unfold tickP
  split
  · rename_i h1
    simp only [Bool.and_eq_true, decide_eq_true_eq] at h1
    split
    · rename_i h3
      unfold fits at h3
      simp only [decide_eq_true_eq] at h3
      have ht := (postOk_iff.1 h).1.2.1
      have hn : 0 ≤ now ∧ now ≤ 100000 := by omega
      have e2 : lineStep p.f_Queue p.f_Time (timeLine now) = (due p.f_Queue now, now) := by
        unfold lineStep; rw [if_neg (show ¬ (timeLine now).f_Kind = 1 from (by decide : ¬ (3 : Int) = 1)), if_neg (show ¬ (timeLine now).f_Kind = 2 from (by decide : ¬ (3 : Int) = 2)), if_pos (show (timeLine now).f_Kind = 3 from rfl), if_pos (show p.f_Time ≤ (timeLine now).f_Due from h1.2.1)]; rfl
      have hq : queueOk (due p.f_Queue now) = true := queueOk_sub List.filter_sublist (postOk_iff.1 h).1.1
      refine ⟨post_grown h (timeLine_ok' hn) (by rw [e2]; exact hq) (by rw [e2]; exact hn) h3 (by rw [e2]), .inr ⟨_, timeLine_ok' hn, rfl⟩⟩
    · exact .refl h
  · exact .refl h
theorem sync_ok {p : MPost} (h : postOk p = true) : postOk (syncP p) = true := by
  obtain ⟨⟨h1, h2, h3, h4⟩, h5⟩ := postOk_iff.1 h
  unfold syncP
  rw [if_pos h, postOk_iff]
  exact ⟨⟨h1, h2, h3, by dsimp only; omega⟩, h5⟩
theorem fall_sync {p : MPost} (h : postOk p = true) (keep : Int) : fallP (syncP p) keep = syncP p := by
  have h2 := sync_ok h
  have e : keptB (syncP p) keep = p.f_Book := by
    unfold keptB syncP
    rw [if_pos h]
    dsimp only
    rw [List.take_of_length_le (by omega)]
  have h5 := (postOk_iff.1 h).2
  unfold fallP
  rw [if_pos h2, e, h5]
  unfold syncP
  rw [if_pos h]
  dsimp only
  rw [List.take_length]
theorem syncP_book (p : MPost) : (syncP p).f_Book = p.f_Book := by unfold syncP; split <;> rfl
theorem drop_code {p : MPost} {x : MItem} (h : ¬ (dropP p x).2 = 0) : (dropP p x).1 = p := by
  unfold dropP at h ⊢
  split at h
  · split at h
    · exact absurd rfl h
    · rename_i h1 h2; rw [if_pos h1, if_neg h2]
  · rename_i h1; rw [if_neg h1]
theorem fetch_code {p : MPost} {r : List UInt8} (h : ¬ (fetchP p r).2.2 = 0) : (fetchP p r).1 = p := by
  unfold fetchP at h ⊢
  split at h
  · split at h
    · split at h
      · exact absurd rfl h
      · rename_i h1 h2 h3; rw [if_pos h1, if_pos h2, if_neg h3]
    · rename_i h1 h2; rw [if_pos h1, if_neg h2]
  · rename_i h1; rw [if_neg h1]
theorem tick_code {p : MPost} {now : Int} (h : ¬ (tickP p now).2 = 0) : (tickP p now).1 = p := by
  unfold tickP at h ⊢
  split at h
  · split at h
    · exact absurd rfl h
    · rename_i h1 h2; rw [if_pos h1, if_neg h2]
  · rename_i h1; rw [if_neg h1]
theorem drop_zero {p : MPost} {x : MItem} (h : (dropP p x).2 = 0) : postOk p = true := by
  unfold dropP at h
  split at h
  · rename_i h1; simp only [Bool.and_eq_true] at h1; exact h1.1.1
  · cases h
theorem fetch_zero {p : MPost} {r : List UInt8} (h : (fetchP p r).2.2 = 0) : postOk p = true ∧ (fetchP p r).2.1.f_Route = r := by
  unfold fetchP at h ⊢
  split at h
  · rename_i h1
    have h1' := h1
    simp only [Bool.and_eq_true] at h1'
    split at h
    · rename_i h2
      split at h
      · rename_i h3
        refine ⟨h1'.1, ?_⟩
        rw [if_pos h1, if_pos h2, if_pos h3]
        dsimp only
        unfold takeQ at h2 ⊢
        cases ha : takeAt p.f_Queue r with
        | none => rw [ha] at h2; cases h2
        | some i =>
          unfold takeAt at ha
          obtain ⟨hi, hh, _⟩ := List.findIdx?_eq_some_iff_getElem.1 ha
          dsimp only
          rw [itAt_eq hi]
          unfold hasR at hh
          exact of_decide_eq_true hh
      · cases h
    · cases h
  · cases h
theorem tick_zero {p : MPost} {now : Int} (h : (tickP p now).2 = 0) : postOk p = true ∧ (tickP p now).1.f_Time = now := by
  unfold tickP at h ⊢
  split at h
  · rename_i h1
    have h1' := h1
    simp only [Bool.and_eq_true] at h1'
    split at h
    · rename_i h2
      rw [if_pos h1, if_pos h2]
      exact ⟨h1'.1, rfl⟩
    · cases h
  · cases h
theorem sync_sure {p : MPost} (h : postOk p = true) : (syncP p).f_Sure = ((syncP p).f_Book.length : Int) := by unfold syncP; rw [if_pos h]
/-- The lines of a book that grew. -/
theorem Grew.lines {p p' : MPost} (g : Grew p p') (h : postOk p = true) (hk : (linesOf p.f_Book).length < 40) : linesOf p.f_Book = (linesOf p'.f_Book).take (linesOf p.f_Book).length ∧ (linesOf p.f_Book).length ≤ (linesOf p'.f_Book).length ∧ (linesOf p'.f_Book).length ≤ (linesOf p.f_Book).length + 1 := by
  rcases g.2 with rfl | ⟨l, hl, e⟩
  · exact ⟨by rw [List.take_length], Nat.le_refl _, Nat.le_succ _⟩
  · rw [e, linesOf_app (postOk_whole h) hl hk]
    refine ⟨?_, ?_, ?_⟩
    · rw [List.take_left']; rfl
    · rw [List.length_append]; exact Nat.le_add_right _ _
    · rw [List.length_append]; exact Nat.le_refl _
end Go.Proofs.YtdljbekkckfmnaaGreat.V
