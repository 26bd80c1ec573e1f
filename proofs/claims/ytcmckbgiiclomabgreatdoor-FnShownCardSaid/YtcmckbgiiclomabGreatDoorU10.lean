/- Texts laid by programs, part 10. -/
import Derived.Test.YtcmckbgiiclomabGreatDoorU06
import Derived.Test.YtcmckbgiiclomabGreatDoorU07
import Derived.Test.YtcmckbgiiclomabGreatDoorU09
import Derived.Test.YtcmckbgiiclomabGreatDoorU05
import Derived.Test.YtcmckbgiiclomabGreatDoorU03
import Derived.Test.YtcmckbgiiclomabGreatDoorU08
namespace Go.Proofs.YtcmckbgiiclomabGreatDoor.V
open Go Go.RowKit
set_option maxRecDepth 100000
set_option maxHeartbeats 4000000
set_option linter.unusedSimpArgs false
set_option linter.unusedVariables false
set_option pp.deepTerms false
set_option pp.deepTerms.threshold 3
theorem w4_sum (a b c d : UInt8) : w4 a b c d = ((a.toNat * 16777216 + b.toNat * 65536 + c.toNat * 256 + d.toNat : Nat) : Int) := by
  have ha := a.toNat_lt; have hb := b.toNat_lt; have hc := c.toNat_lt; have hd := d.toNat_lt; unfold w4; rw [ishl_nat (by omega) (by omega), ishl_nat (by omega) (by omega), ishl_nat (by omega) (by omega)]
  have s1 : a.toNat <<< 24 ||| b.toNat <<< 16 = (a.toNat * 256 + b.toNat) <<< 16 := by
    rw [← Nat.shiftLeft_add_eq_or_of_lt (i := 24) (by rw [Nat.shiftLeft_eq]; omega)]; simp only [Nat.shiftLeft_eq]; omega
  have s2 : (a.toNat * 256 + b.toNat) <<< 16 ||| c.toNat <<< 8 = ((a.toNat * 256 + b.toNat) * 256 + c.toNat) <<< 8 := by
    rw [← Nat.shiftLeft_add_eq_or_of_lt (i := 16) (by rw [Nat.shiftLeft_eq]; omega)]; simp only [Nat.shiftLeft_eq]; omega
  have s3 : ((a.toNat * 256 + b.toNat) * 256 + c.toNat) <<< 8 ||| d.toNat = a.toNat * 16777216 + b.toNat * 65536 + c.toNat * 256 + d.toNat := by
    rw [← Nat.shiftLeft_add_eq_or_of_lt (i := 8) (by omega)]; simp only [Nat.shiftLeft_eq]; omega
  have g1 : a.toNat <<< 24 < 9223372036854775808 := by rw [Nat.shiftLeft_eq]; omega
  have g2 : b.toNat <<< 16 < 9223372036854775808 := by rw [Nat.shiftLeft_eq]; omega
  have g3 : c.toNat <<< 8 < 9223372036854775808 := by rw [Nat.shiftLeft_eq]; omega
  have g4 : (a.toNat * 256 + b.toNat) <<< 16 < 9223372036854775808 := by rw [Nat.shiftLeft_eq]; omega
  have g5 : ((a.toNat * 256 + b.toNat) * 256 + c.toNat) <<< 8 < 9223372036854775808 := by rw [Nat.shiftLeft_eq]; omega
  rw [ior_nat g1 g2, s1, ior_nat g4 g3, s2, ior_nat g5 (by omega), s3]
theorem great4 {n : Int} (h : 0 ≤ n) : greatB n 4 = [UInt8.ofNat (n.toNat / 16777216 % 256), UInt8.ofNat (n.toNat / 65536 % 256), UInt8.ofNat (n.toNat / 256 % 256), UInt8.ofNat (n.toNat % 256)] := by
  unfold greatB littleB; rw [if_pos ⟨h, by decide, by decide⟩, show (4 : Int).toNat = 4 from rfl]
  simp [List.range_succ]
theorem great2 {n : Int} (h : 0 ≤ n) : greatB n 2 = [UInt8.ofNat (n.toNat / 256 % 256), UInt8.ofNat (n.toNat % 256)] := by
  unfold greatB littleB; rw [if_pos ⟨h, by decide, by decide⟩, show (2 : Int).toNat = 2 from rfl]
  simp [List.range_succ]
theorem ofNat_nat {k : Nat} (h : k < 256) : (UInt8.ofNat k).toNat = k := by rw [UInt8.toNat_ofNat']; omega
theorem list8 {l : List UInt8} (h : l.length = 8) : ∃ a b c d e f g i, l = [a, b, c, d, e, f, g, i] := by
  match l, h with
  | [a, b, c, d, e, f, g, i], _ => exact ⟨a, b, c, d, e, f, g, i, rfl⟩
theorem lineOk_topic {l : MLine} (h : lineOk l = true) : 0 ≤ l.f_Topic ∧ l.f_Topic ≤ 9 := by
  unfold lineOk at h
  split at h
  · exact (itemOk_iff.1 h).2.1
  · split at h
    · simp only [Bool.and_eq_true, decide_eq_true_eq] at h; omega
    · split at h
      · simp only [Bool.and_eq_true, decide_eq_true_eq] at h; omega
      · cases h
theorem lineOk_back {l : MLine} (h : lineOk l = true) : (if l.f_Kind.toNat = 3 then [] else hexB (lineRoute l)) = l.f_Route := by
  have hk := lineOk_kind h; unfold lineRoute; unfold lineOk at h
  rcases hk with hk | hk | hk
  · rw [if_pos hk] at h
    rw [if_neg (by omega), if_neg (by omega)]; exact hex_unhex (isRoute_len (itemOk_iff.1 h).1).1
  · rw [if_neg (by omega), if_pos hk] at h
    rw [if_neg (by omega), if_neg (by omega)]; simp only [Bool.and_eq_true] at h; exact hex_unhex (isRoute_len h.1.1.1).1
  · rw [if_neg (by omega), if_neg (by omega), if_pos hk] at h
    rw [if_pos (by omega)]; simp only [Bool.and_eq_true, decide_eq_true_eq] at h; exact h.1.1.2.symm
theorem lineAt_bytes {l : MLine} (h : lineOk l = true) (rest : List UInt8) : lineAt (lineBytes l ++ rest) = some (l, (lineBytes l).length) := by
  have hlen := lineBytes_len h; have hb := lineOk_bytes h; have hd := lineOk_due h; have ht := lineOk_topic h; have hk := lineOk_kind h; have hback := lineOk_back h; obtain ⟨r0, r1, r2, r3, r4, r5, r6, r7, hr⟩ := list8 (lineRoute_len h)
  have ex : lineBytes l ++ rest = u8i l.f_Kind :: r0 :: r1 :: r2 :: r3 :: r4 :: r5 :: r6 :: r7 :: u8i l.f_Topic :: UInt8.ofNat (l.f_Due.toNat / 16777216 % 256) :: UInt8.ofNat (l.f_Due.toNat / 65536 % 256) :: UInt8.ofNat (l.f_Due.toNat / 256 % 256) :: UInt8.ofNat (l.f_Due.toNat % 256) :: UInt8.ofNat (l.f_Bytes.length / 256 % 256) :: UInt8.ofNat (l.f_Bytes.length % 256) :: (l.f_Bytes ++ (greatB ((lineHead l).length : Int) 2 ++ rest)) := by
    unfold lineBytes; rw [if_pos h]
    conv => lhs; rw [lineHead, hr, great4 hd.1, great2 (n := (l.f_Bytes.length : Int)) (by omega)]
    simp only [Int.toNat_natCast, List.append_assoc, List.cons_append, List.nil_append]; rw [lineHead, hr, great4 hd.1, great2 (n := (l.f_Bytes.length : Int)) (by omega)]; simp only [Int.toNat_natCast, List.append_assoc, List.cons_append, List.nil_append]
  have hsz : lineSz (lineBytes l ++ rest) = l.f_Bytes.length := by
    rw [ex]; unfold lineSz be; simp only [List.getD_eq_getElem?_getD, List.getElem?_cons_succ, List.getElem?_cons_zero, Option.getD_some]; rw [ofNat_nat (by omega), ofNat_nat (by omega)]; omega
  have hraw : rawLine (lineBytes l ++ rest) = l := by
    unfold rawLine; rw [hsz, ex]; unfold be; simp only [List.getD_eq_getElem?_getD, List.getElem?_cons_succ, List.getElem?_cons_zero, Option.getD_some, List.drop_succ_cons, List.drop_zero, List.take_succ_cons, List.take_zero]; have e1 : (u8i l.f_Kind).toNat = l.f_Kind.toNat := by unfold u8i; rw [ofNat_nat (by omega)]; omega
    have e2 : ((u8i l.f_Topic).toNat : Int) = l.f_Topic := by unfold u8i; rw [ofNat_nat (by omega)]; omega
    have e3 : w4 (UInt8.ofNat (l.f_Due.toNat / 16777216 % 256)) (UInt8.ofNat (l.f_Due.toNat / 65536 % 256)) (UInt8.ofNat (l.f_Due.toNat / 256 % 256)) (UInt8.ofNat (l.f_Due.toNat % 256)) = l.f_Due := by
      rw [w4_sum, ofNat_nat (by omega), ofNat_nat (by omega), ofNat_nat (by omega), ofNat_nat (by omega)]; omega
    have e4 : (l.f_Bytes ++ (greatB ((lineHead l).length : Int) 2 ++ rest)).take l.f_Bytes.length = l.f_Bytes := by rw [List.take_left']; rfl
    rw [e1, e2, e3, e4, ← hr, hback]; have e0 : ((l.f_Kind.toNat : Nat) : Int) = l.f_Kind := by omega
    rw [e0]
  have h2 : lineBytes (rawLine (lineBytes l ++ rest)) = (lineBytes l ++ rest).take (18 + lineSz (lineBytes l ++ rest)) := by
    rw [hraw, hsz, ← hlen, List.take_left']; rfl
  rw [lineAt_yes (by rw [List.length_append]; omega) (by rw [hsz, List.length_append]; omega) h2, hraw, hsz, hlen]
theorem lineAt_more {b : List UInt8} {l : MLine} {n : Nat} (h : lineAt b = some (l, n)) (y : List UInt8) : lineAt (b ++ y) = some (l, n) := by
  obtain ⟨h18, hn, hok, hb⟩ := lineAt_len h; have e : b ++ y = lineBytes l ++ (b.drop n ++ y) := by rw [hb, ← List.append_assoc, List.take_append_drop]
  have e2 : (lineBytes l).length = n := by rw [hb, List.length_take]; omega
  rw [e, lineAt_bytes hok, e2]
theorem lineAt_nil : lineAt [] = none := lineAt_no (by simp)
theorem playGo_app (m : Nat) : ∀ (b y : List UInt8) (q : List MItem) (now : Int) (k : Nat), b.length ≤ m → (playGo b q now k).2.2 = k + b.length →
    playGo (b ++ y) q now k = playGo y (playGo b q now k).1 (playGo b q now k).2.1 (k + b.length) := by
  induction m with
  | zero =>
    intro b y q now k hm hw; obtain rfl : b = [] := List.length_eq_zero_iff.1 (by omega); rw [playGo_none lineAt_nil]; rfl
  | succ m ih =>
    intro b y q now k hm hw
    cases h : lineAt b with
    | none =>
      rw [playGo_none h] at hw; obtain rfl : b = [] := List.length_eq_zero_iff.1 (by dsimp only at hw; omega); rw [playGo_none lineAt_nil]; rfl
    | some ln =>
      obtain ⟨l, n⟩ := ln; obtain ⟨h18, hn, _, _⟩ := lineAt_len h; rw [playGo_some h] at hw ⊢; rw [playGo_some (lineAt_more h y), List.drop_append_of_le_length hn, ih (b.drop n) y _ _ _ (by rw [List.length_drop]; omega) (by rw [hw, List.length_drop]; omega)]; rw [List.length_drop, show k + n + (b.length - n) = k + b.length by omega]
theorem play_app {b : List UInt8} {q : List MItem} {now : Int} (h : play b = (q, now, b.length)) {l : MLine} (hl : lineOk l = true) :
    play (b ++ lineBytes l) = ((lineStep q now l).1, (lineStep q now l).2, (b ++ lineBytes l).length) := by
  unfold play at h ⊢; rw [playGo_app b.length b _ _ _ _ (Nat.le_refl _) (by rw [h]; simp), h]; have e := lineAt_bytes hl []; rw [List.append_nil] at e; rw [playGo_some e, List.drop_length, playGo_none lineAt_nil, List.length_append]
  simp
theorem playGo_at (m : Nat) : ∀ (b : List UInt8) (q q' : List MItem) (now now' : Int) (k k' : Nat), b.length ≤ m → (playGo b q now k).2.2 = k + b.length → (playGo b q' now' k').2.2 = k' + b.length := by
  induction m with
  | zero =>
    intro b q q' now now' k k' hm hw; obtain rfl : b = [] := List.length_eq_zero_iff.1 (by omega); rw [playGo_none lineAt_nil]; rfl
  | succ m ih =>
    intro b q q' now now' k k' hm hw
    cases h : lineAt b with
    | none =>
      rw [playGo_none h] at hw; obtain rfl : b = [] := List.length_eq_zero_iff.1 (by dsimp only at hw; omega); rw [playGo_none lineAt_nil]; rfl
    | some ln =>
      obtain ⟨l, n⟩ := ln; obtain ⟨h18, hn, _, _⟩ := lineAt_len h; rw [playGo_some h] at hw ⊢; have := ih (b.drop n) (lineStep q now l).1 (lineStep q' now' l).1 (lineStep q now l).2 (lineStep q' now' l).2 (k + n) (k' + n) (by rw [List.length_drop]; omega) (by rw [hw, List.length_drop]; omega); rw [this, List.length_drop]; omega
def Whole (b : List UInt8) : Prop := (play b).2.2 = b.length
theorem Whole.drop {b : List UInt8} {l : MLine} {n : Nat} (hw : Whole b) (h : lineAt b = some (l, n)) : Whole (b.drop n) := by
  unfold Whole play at hw; obtain ⟨h18, hn, _, _⟩ := lineAt_len h; rw [playGo_some h] at hw; have := playGo_at (b.drop n).length (b.drop n) _ [] _ 0 _ 0 (Nat.le_refl _) (by rw [hw, List.length_drop]; omega); unfold Whole play
  omega
theorem Whole.none {b : List UInt8} (hw : Whole b) (h : lineAt b = none) : b = [] := by
  unfold Whole play at hw; rw [playGo_none h] at hw; exact List.length_eq_zero_iff.1 hw.symm
theorem ofN_sub {l q : List MItem} (h : l.Sublist q) (r : List UInt8) : ofN l r ≤ ofN q r := h.countP_le
theorem queueOk_sub : ∀ {q l : List MItem}, l.Sublist q → queueOk q = true → queueOk l = true := by
  intro q l h hq
  have key : ∀ q : List MItem, queueOk q = true ↔ q.length ≤ 10 ∧ (∀ x ∈ q, itemOk x = true ∧ ofN q x.f_Route ≤ 4) ∧ q.Pairwise fun a b => ¬ (0 < b.f_Topic ∧ twin b a = true) := by
    intro q; rw [queueOk_iff]; refine and_congr_right fun _ => ?_; rw [List.pairwise_iff_getElem]
    constructor
    · intro h
      refine ⟨fun x hx => ?_, fun i j hi hj hij => ?_⟩
      · obtain ⟨i, hi, rfl⟩ := List.getElem_of_mem hx
        have := h i hi; unfold qAt at this; rw [itAt_eq hi] at this; simp only [Bool.and_eq_true, decide_eq_true_eq] at this; exact this.1
      · have := h j hj
        unfold qAt at this; rw [itAt_eq hj] at this; simp only [Bool.and_eq_true, Bool.not_eq_true', Bool.and_eq_false_iff, decide_eq_false_iff_not] at this; rintro ⟨h1, h2⟩
        rcases this.2 with h3 | h3
        · exact h3 h1
        · rw [Bool.eq_false_iff] at h3
          exact h3 (List.any_eq_true.2 ⟨q[i], List.mem_take_iff_getElem.2 ⟨i, by omega, rfl⟩, h2⟩)
    · rintro ⟨h1, h2⟩ i hi
      unfold qAt; rw [itAt_eq hi]; have h3 := h1 q[i] (List.getElem_mem hi); simp only [Bool.and_eq_true, decide_eq_true_eq, Bool.not_eq_true', Bool.and_eq_false_iff, decide_eq_false_iff_not]; refine ⟨h3, ?_⟩
      by_cases h4 : 0 < q[i].f_Topic
      · right
        rw [Bool.eq_false_iff]; intro h5; obtain ⟨y, hy, h6⟩ := List.any_eq_true.1 h5; obtain ⟨j, hj, rfl⟩ := List.mem_take_iff_getElem.1 hy; exact h2 j i (by omega) hi (by omega) ⟨h4, h6⟩
      · exact .inl h4
  rw [key] at hq ⊢; refine ⟨Nat.le_trans h.length_le hq.1, fun x hx => ?_, hq.2.2.sublist h⟩; have := hq.2.1 x (h.subset hx); exact ⟨this.1, Nat.le_trans (ofN_sub h _) this.2⟩
theorem post_grown {p p' : MPost} {l : MLine} (h : postOk p = true) (hl : lineOk l = true) (hq : queueOk (lineStep p.f_Queue p.f_Time l).1 = true) (ht : 0 ≤ (lineStep p.f_Queue p.f_Time l).2 ∧ (lineStep p.f_Queue p.f_Time l).2 ≤ 100000)
    (hf : p.f_Book.length + (lineBytes l).length ≤ 12000) (e : p' = ⟨(lineStep p.f_Queue p.f_Time l).1, (lineStep p.f_Queue p.f_Time l).2, p.f_Book ++ lineBytes l, p.f_Sure⟩) : postOk p' = true := by
  subst e; obtain ⟨⟨h1, h2, h3, h4⟩, h5⟩ := postOk_iff.1 h; rw [postOk_iff]; refine ⟨⟨hq, ht, by dsimp only; rw [List.length_append]; omega, by dsimp only; rw [List.length_append]; omega⟩, ?_⟩; exact play_app h5 hl
def Grew (p p' : MPost) : Prop := postOk p' = true ∧ (p' = p ∨ ∃ l, lineOk l = true ∧ p'.f_Book = p.f_Book ++ lineBytes l)
theorem Grew.refl {p : MPost} (h : postOk p = true) : Grew p p := ⟨h, .inl rfl⟩
theorem putLine_ok' {x : MItem} (h : itemOk x = true) : lineOk (putLine x) = true := by
  unfold lineOk putLine itemOf; exact h
theorem takeLine_ok' {r : List UInt8} (h : isRoute r = true) : lineOk (takeLine r) = true := by
  unfold lineOk takeLine; simp [h]
theorem timeLine_ok' {n : Int} (h : 0 ≤ n ∧ n ≤ 100000) : lineOk (timeLine n) = true := by
  unfold lineOk timeLine; simp [h]
theorem drop_grew {p : MPost} (x : MItem) (h : postOk p = true) : Grew p (dropP p x).1 := by
  unfold dropP
  split
  · rename_i h1
    simp only [Bool.and_eq_true, decide_eq_true_eq] at h1
    split
    · rename_i h2
      unfold fits at h2; simp only [Bool.and_eq_true, decide_eq_true_eq] at h2
      have hp : queueOk (putL p.f_Queue x) = true := by
        have := h2.1; unfold put at this
        split at this
        · assumption
        · cases this
      have e1 : (put p.f_Queue x).1 = putL p.f_Queue x := by unfold put; rw [if_pos hp]
      have e2 : lineStep p.f_Queue p.f_Time (putLine x) = (putL p.f_Queue x, p.f_Time) := by
        unfold lineStep; rw [if_pos (show (putLine x).f_Kind = 1 from rfl), show itemOf (putLine x) = x from rfl, e1]
      refine ⟨post_grown h (putLine_ok' h1.1.2) (by rw [e2]; exact hp) (by rw [e2]; exact (postOk_iff.1 h).1.2.1) h2.2 (by rw [e2, e1]), .inr ⟨_, putLine_ok' h1.1.2, rfl⟩⟩
    · exact .refl h
  · exact .refl h
theorem fetch_grew {p : MPost} (r : List UInt8) (h : postOk p = true) : Grew p (fetchP p r).1 := by
  unfold fetchP
  split
  · rename_i h1
    simp only [Bool.and_eq_true] at h1
    split
    · split
      · rename_i h3
        unfold fits at h3; simp only [decide_eq_true_eq] at h3
        have e2 : lineStep p.f_Queue p.f_Time (takeLine r) = ((takeQ p.f_Queue r).2.1, p.f_Time) := by
          unfold lineStep; rw [if_neg (show ¬ (takeLine r).f_Kind = 1 from (by decide : ¬ (2 : Int) = 1)), if_pos (show (takeLine r).f_Kind = 2 from rfl)]; rfl
        have hq : queueOk (takeQ p.f_Queue r).2.1 = true := by
          refine queueOk_sub ?_ (postOk_iff.1 h).1.1; unfold takeQ
          split
          · exact List.eraseIdx_sublist _ _
          · exact List.Sublist.refl _
        refine ⟨post_grown h (takeLine_ok' h1.2) (by rw [e2]; exact hq) (by rw [e2]; exact (postOk_iff.1 h).1.2.1) h3 (by rw [e2]), .inr ⟨_, takeLine_ok' h1.2, rfl⟩⟩
      · exact .refl h
    · exact .refl h
  · exact .refl h
theorem tick_grew {p : MPost} (now : Int) (h : postOk p = true) : Grew p (tickP p now).1 := by
  unfold tickP
  split
  · rename_i h1
    simp only [Bool.and_eq_true, decide_eq_true_eq] at h1
    split
    · rename_i h3
      unfold fits at h3; simp only [decide_eq_true_eq] at h3; have ht := (postOk_iff.1 h).1.2.1; have hn : 0 ≤ now ∧ now ≤ 100000 := by omega
      have e2 : lineStep p.f_Queue p.f_Time (timeLine now) = (due p.f_Queue now, now) := by
        unfold lineStep; rw [if_neg (show ¬ (timeLine now).f_Kind = 1 from (by decide : ¬ (3 : Int) = 1)), if_neg (show ¬ (timeLine now).f_Kind = 2 from (by decide : ¬ (3 : Int) = 2)), if_pos (show (timeLine now).f_Kind = 3 from rfl), if_pos (show p.f_Time ≤ (timeLine now).f_Due from h1.2.1)]; rfl
      have hq : queueOk (due p.f_Queue now) = true := queueOk_sub List.filter_sublist (postOk_iff.1 h).1.1; refine ⟨post_grown h (timeLine_ok' hn) (by rw [e2]; exact hq) (by rw [e2]; exact hn) h3 (by rw [e2]), .inr ⟨_, timeLine_ok' hn, rfl⟩⟩
    · exact .refl h
  · exact .refl h
theorem sync_ok {p : MPost} (h : postOk p = true) : postOk (syncP p) = true := by
  obtain ⟨⟨h1, h2, h3, h4⟩, h5⟩ := postOk_iff.1 h; unfold syncP; rw [if_pos h, postOk_iff]; exact ⟨⟨h1, h2, h3, by dsimp only; omega⟩, h5⟩
theorem drop_zero {p : MPost} {x : MItem} (h : (dropP p x).2 = 0) : postOk p = true := by
  unfold dropP at h
  split at h
  · rename_i h1; simp only [Bool.and_eq_true] at h1; exact h1.1.1
  · cases h
theorem postNew_okD : postOk zPost = true := by
  rw [postOk_iff]; refine ⟨⟨rfl, by decide, by decide, by decide⟩, ?_⟩
  show playGo [] [] 0 0 = _
  rw [playGo_none lineAt_nil]; rfl
theorem postOk_smD {p : MPost} (h : postOk p = true) : smPost p := by
  obtain ⟨⟨h1, h2, h3, h4⟩, h5⟩ := postOk_iff.1 h; have q : QI p.f_Queue := ⟨(queueOk_iff.1 h1).1, queueOk_item h1⟩; unfold smPost; exact ⟨q.sm, by omega⟩
theorem openPost {n : Nat} {w0 w : World} {L : List Ck} {fp : List Nat} {cs : List Value} (x : MPost) (H : Sep n w0 w (Ck.own kPost fp cs x :: L)) :
    ∃ f0 f2 v0 v2, cs = [v0, .int .i64 x.f_Time, v2, .int .i64 x.f_Sure] ∧ Sep n w0 w (Ck.own items f0 [v0] x.f_Queue :: Ck.own (bytes 5) f2 [v2] x.f_Book :: L) := by
  have H0 : Sep n w0 w (Ck.own (Kd.pair items (Kd.pair Kd.i64 (Kd.pair (bytes 5) Kd.i64))) fp cs (x.f_Queue, x.f_Time, x.f_Book, x.f_Sure) :: L) := H
  clear H
  obtain ⟨f0, f1, a0, a1, rfl, rfl, H1⟩ := H0.unpair; have H2 : Sep n w0 w (Ck.own items f0 a0 x.f_Queue :: Ck.own (Kd.pair Kd.i64 (Kd.pair (bytes 5) Kd.i64)) f1 a1 (x.f_Time, x.f_Book, x.f_Sure) :: L) := H1; have H3 := H2.front (c := Ck.own (Kd.pair Kd.i64 (Kd.pair (bytes 5) Kd.i64)) f1 a1 (x.f_Time, x.f_Book, x.f_Sure)) (.there .here); obtain ⟨fT, f3, aT, a3, rfl, rfl, H4⟩ := H3.unpair; have H5 : Sep n w0 w (Ck.own Kd.i64 fT aT x.f_Time :: Ck.own (Kd.pair (bytes 5) Kd.i64) f3 a3 (x.f_Book, x.f_Sure) :: Ck.own items f0 a0 x.f_Queue :: L) := H4; have H6 := H5.front (c := Ck.own (Kd.pair (bytes 5) Kd.i64) f3 a3 (x.f_Book, x.f_Sure)) (.there .here); obtain ⟨f2, fS, a2, aS, rfl, rfl, H7⟩ := H6.unpair; have H : Sep n w0 w (Ck.own (bytes 5) f2 a2 x.f_Book :: Ck.own Kd.i64 fS aS x.f_Sure :: Ck.own Kd.i64 fT aT x.f_Time :: Ck.own items f0 a0 x.f_Queue :: L) := H7
  clear H0 H1 H2 H3 H4 H5 H6 H7
  have eT : Kd.i64.rd w w.heap.size aT x.f_Time := H.own (d := Kd.i64) (fp := fT) (by simp); have eS : Kd.i64.rd w w.heap.size aS x.f_Sure := H.own (d := Kd.i64) (fp := fS) (by simp); have e0 : items.rd w w.heap.size a0 x.f_Queue := H.own (d := items) (fp := f0) (by simp); have e2 : (bytes 5).rd w w.heap.size a2 x.f_Book := H.own (d := bytes 5) (fp := f2) (by simp); obtain ⟨v0, rfl⟩ := sl_one e0; obtain ⟨v2, rfl⟩ := sl_one e2; have h1 := H.front (c := Ck.own (bytes 5) f2 [v2] x.f_Book) .here; have h2 := h1.front (c := Ck.own items f0 [v0] x.f_Queue) (.there (.there (.there .here))); have h3 := h2.drops' (L := [_, _]); have h4 := h3.drops' (L := [_, _]); refine ⟨f0, f2, v0, v2, ?_, h4⟩; rw [eT.1, eS.1]; rfl
theorem specPostNew_new (w : World) : ACalls Tryz.prog 45 #[] w fun r w' => r = .agg #[.slice none 0 0, .int .i64 0, .slice none 0 0, .int .i64 0] ∧ Below w.heap.size w w' := by
  have H := Sep.start w; refine body_of follows Tryz.func45 rfl rfl _ rfl (by kernel_rfl) (vs ?_); refine x_al H st32 fun g1 w1 H => vs ?_; refine x_build bl32 [.slice none 0 0, .int .i64 0, .slice none 0 0, .int .i64 0] ?_; refine vs ?_; refine x_sta H st32 (vs := [.slice none 0 0, .int .i64 0, .slice none 0 0, .int .i64 0]) (h1 := by simp [Value.oneCell']) fun w2 H => vs ?_; exact ⟨_, _, rfl, res_cell H st32, rfl, H.bel⟩
theorem up_9 {k q : Nat} (h : (k : Int) < (q : Int)) (hq : q = 0 ∨ (q : Int) < 9) : w64 ((k : Int) + 1) = ((k + 1 : Nat) : Int) ∧ 9 - (k + 1) < 9 - k := by unfold w64; omega
theorem tm_8 {t : Int} {q : Nat} (h : 0 ≤ t ∧ t ≤ 100000) (hq : q = 0 ∨ (q : Int) < 8) : w64 (t + (q : Int)) = t + (q : Int) ∧ (-9223372036854775808 ≤ t + (q : Int) ∧ t + (q : Int) < 9223372036854775808) := by unfold w64; omega
theorem rt_lo {r : List UInt8} (h : r.length = 16) : r.length ≤ 1048576 := by omega
theorem l15DrawRight_ok {n : Nat} {w0 w : World} {L : List Ck} {g : Nat} {v : Value} {i h : Int} {a : List UInt8} (H : Sep n w0 w (curB g v i h :: L)) (hv : (bytes 5).rd w0 n [v] a) (hi : 0 ≤ i ∧ i ≤ a.length) :
    ACalls Tryz.prog 37 #[.pointer (some ⟨g, 0, none⟩)] w fun r w' => ∃ (cs : List Value) (fp : List Nat) (p : MPost) (i' h' : Int), r = .agg cs.toArray ∧ postOk p = true ∧ (0 ≤ i' ∧ i' ≤ a.length) ∧ Sep n w0 w' (Ck.own kPost fp cs p :: curB g v i' h' :: L) := by
  refine body_of follows Tryz.func37 rfl rfl _ rfl (by kernel_rfl) (vs ?_); refine x_al H st32 fun g2 w1 H => vs ?_; refine x_call (specPostNew_new w1) fun _ w2 ⟨e, hb⟩ => ?_; subst e; have H := H.go hb; have H := H.nothing (kPost_zero w2); refine vs ?_; refine x_al H st32 fun g3 w3 H => vs ?_; refine x_sta H st32 (vs := [.slice none 0 0, .int .i64 0, .slice none 0 0, .int .i64 0]) (h1 := Kd.one _ (H.ow kPost [] [.slice none 0 0, .int .i64 0, .slice none 0 0, .int .i64 0] zPost)) fun w4 H => vs ?_; have H := H.front (c := curB g v i h); have H := H.front (c := Ck.own kPost [] [.slice none 0 0, .int .i64 0, .slice none 0 0, .int .i64 0] zPost); have H := H.front (c := Ck.box g3 [.slice none 0 0, .int .i64 0, .slice none 0 0, .int .i64 0] 32)
  refine loop_at (σ := Nat × MPost × List Value × List Nat × Int × Int) (fun y => [(0, .pointer (some ⟨g, 0, none⟩)), (2, .pointer (some ⟨g2, 0, none⟩)), (3, .pointer (some ⟨g3, 0, none⟩)), (4, .int .i64 (y.1 : Int))])
    (fun y w' => postOk y.2.1 = true ∧ (0 ≤ y.2.2.2.2.1 ∧ y.2.2.2.2.1 ≤ a.length) ∧ Sep n w0 w' (Ck.box g3 y.2.2.1 32 :: Ck.own kPost y.2.2.2.1 y.2.2.1 y.2.1 :: curB g v y.2.2.2.2.1 y.2.2.2.2.2 :: Ck.box g2 [.slice none 0 0, .int .i64 0, .slice none 0 0, .int .i64 0] 32 :: L)) (fun y => 9 - y.1) (0, zPost, [.slice none 0 0, .int .i64 0, .slice none 0 0, .int .i64 0], [], i, h) (vs trivial) ⟨postNew_okD, hi, H⟩ ?_
  rintro ⟨k, p, cs, fp, i1, h1⟩ s w5 ⟨hok, hi1, H⟩; dsimp only at hok hi1 H; have hsm := postOk_smD hok; have hT := (postOk_iff.1 hok).1.2.1; obtain ⟨v1, v2, rfl, _⟩ := kPost_open (H.ow kPost fp cs p); refine vs ?_; have H := H.front (c := curB g v i1 h1); refine x_call (l1Below_ok 9 H hv hi1) fun _ w6 ⟨m, i2, h2, e, hm, hi2, H⟩ => ?_; subst e
  by_cases hlt : (k : Int) < (m : Int)
  rotate_left
  · refine ve hlt ?_
    refine x_lda H st32 ?_; refine vs ?_; refine x_sta H st32 (vs := [v1, .int .i64 p.f_Time, v2, .int .i64 p.f_Sure]) (h1 := Kd.one _ (H.ow kPost fp [v1, .int .i64 p.f_Time, v2, .int .i64 p.f_Sure] p)) fun w7 H => vs ?_; have hres := res_cell H (g := g2) (cs := [v1, .int .i64 p.f_Time, v2, .int .i64 p.f_Sure]) st32; have H := H.front (c := curB g v i2 h2); have H := H.front (c := Ck.own kPost fp [v1, .int .i64 p.f_Time, v2, .int .i64 p.f_Sure] p); have H := H.drops' (L := [_, _]); have H := H.drops' (L := [_, _]); exact ⟨_, _, rfl, hres, _, fp, p, i2, h2, rfl, hok, hi2, H⟩
  obtain ⟨ek, hdec⟩ := up_9 hlt hm; refine ve hlt ?_; refine x_call (l1Below_ok 6 H hv hi2) fun _ w7 ⟨q, i3, h3, e, hq, hi3, H⟩ => ?_; subst e
  by_cases q0 : (q : Int) = 0
  · refine ve q0 ?_
    refine draw_zp [(0, true), (1, true), (2, false), (3, false), (4, true)] 5 [(5, true), (6, true), (7, true), (8, false)] (g3 + 1) (Gb n g3) fun w8 hh hb8 => vs ?_; have H := H.go (hb8 _); have H8 := H; refine q_ldaX H st32 ?_; refine vs ?_; refine x_call (l13DrawRoute_ok H hv hi3) fun _ w9 ⟨R, i4, h4, e, hR, hi4, H⟩ => ?_; subst e; refine vs ?_; refine ⟨kept_box H8 H, ?_⟩; refine x_call (specFetch_ok w9 _ p R (H.ow kPost fp [v1, .int .i64 p.f_Time, v2, .int .i64 p.f_Sure] p) hsm (rt_lo hR)) fun _ w10 ⟨cs2, fp2, ds2, fi2, e, S⟩ => ?_; subst e; have H := H.join S; simp only [List.cons_append, List.nil_append] at H; refine vs ?_; refine ⟨kept_box H8 H, ?_⟩; have gr := fetch_grew R hok; obtain ⟨p2, hp2⟩ : ∃ p2, p2 = (fetchP p R).1 := ⟨_, rfl⟩; rw [← hp2] at H gr; obtain ⟨z1, z2, rfl, _⟩ := kPost_open (H.ow kPost fp2 cs2 p2); refine q_ext ?_; refine vs ?_; refine q_ext ?_; refine vs ?_; refine q_ext ?_; refine vs ?_; refine x_sta H st32 (vs := [z1, .int .i64 p2.f_Time, z2, .int .i64 p2.f_Sure]) (h1 := Kd.one _ (H.ow kPost fp2 [z1, .int .i64 p2.f_Time, z2, .int .i64 p2.f_Sure] p2)) fun w12 H => vs ?_; refine ⟨kept_zero _ _, ?_⟩; have H := H.front (c := Ck.box g2 [.slice none 0 0, .int .i64 0, .slice none 0 0, .int .i64 0] 32); have H := H.front (c := curB g v i4 h4); have H := H.front (c := Ck.own kPost fp2 [z1, .int .i64 p2.f_Time, z2, .int .i64 p2.f_Sure] p2); have H := H.front (c := Ck.box g3 [z1, .int .i64 p2.f_Time, z2, .int .i64 p2.f_Sure] 32); have H := H.drops' (L := [_, _, _, _]); have H := H.drops' (L := [_, _, _, _]); exact ⟨(k + 1, p2, _, fp2, i4, h4), i64_eq ek, ⟨gr.1, hi4, H⟩, hdec⟩
  refine ve q0 ?_
  by_cases q1 : (q : Int) = 1
  · refine ve q1 ?_
    refine draw_zp [(0, true), (1, true), (2, true), (3, true), (4, false), (5, true), (6, false), (7, true)] 8 [(8, true), (9, true), (10, false)] (g3 + 1) (Gb n g3) fun w8 hh hb8 => vs ?_; have H := H.go (hb8 _); have H8 := H; refine q_ldaX H st32 ?_; refine vs ?_; refine q_ldX H sc3 ?_; refine vs ?_; refine x_call (l1Below_ok 8 H hv hi3) fun _ w9 ⟨m2, i4, h4, e, hm2, hi4, H⟩ => ?_; subst e; refine vs ?_; refine ⟨kept_box H8 H, ?_⟩; obtain ⟨e8, r8⟩ := tm_8 hT hm2; refine ve e8 ?_; refine x_call (specTick_ok w9 _ p (p.f_Time + (m2 : Int)) (H.ow kPost fp [v1, .int .i64 p.f_Time, v2, .int .i64 p.f_Sure] p) hsm r8) fun _ w10 ⟨cs2, fp2, e, S⟩ => ?_; subst e; have H := H.join S; simp only [List.cons_append, List.nil_append] at H; refine vs ?_; refine ⟨kept_box H8 H, ?_⟩; have gr := tick_grew (p.f_Time + (m2 : Int)) hok; obtain ⟨p2, hp2⟩ : ∃ p2, p2 = (tickP p (p.f_Time + (m2 : Int))).1 := ⟨_, rfl⟩; rw [← hp2] at H gr; obtain ⟨z1, z2, rfl, _⟩ := kPost_open (H.ow kPost fp2 cs2 p2); refine q_ext ?_; refine vs ?_; refine q_ext ?_; refine vs ?_; refine x_sta H st32 (vs := [z1, .int .i64 p2.f_Time, z2, .int .i64 p2.f_Sure]) (h1 := Kd.one _ (H.ow kPost fp2 [z1, .int .i64 p2.f_Time, z2, .int .i64 p2.f_Sure] p2)) fun w12 H => vs ?_; refine ⟨kept_zero _ _, ?_⟩; have H := H.front (c := Ck.box g2 [.slice none 0 0, .int .i64 0, .slice none 0 0, .int .i64 0] 32); have H := H.front (c := curB g v i4 h4); have H := H.front (c := Ck.own kPost fp2 [z1, .int .i64 p2.f_Time, z2, .int .i64 p2.f_Sure] p2); have H := H.front (c := Ck.box g3 [z1, .int .i64 p2.f_Time, z2, .int .i64 p2.f_Sure] 32); have H := H.drops' (L := [_, _, _, _]); exact ⟨(k + 1, p2, _, fp2, i4, h4), i64_eq ek, ⟨gr.1, hi4, H⟩, hdec⟩
  refine ve q1 ?_
  by_cases q2 : (q : Int) = 2
  · refine ve q2 ?_
    refine x_lda H st32 ?_; refine vs ?_; refine x_call (specSync_ok w7 _ p (H.ow kPost fp [v1, .int .i64 p.f_Time, v2, .int .i64 p.f_Sure] p) hsm) fun _ w10 ⟨cs2, fp2, e, S⟩ => ?_; subst e; have H := H.join S; simp only [List.cons_append, List.nil_append] at H; have gr := And.intro (sync_ok hok) True.intro; obtain ⟨p2, hp2⟩ : ∃ p2, p2 = syncP p := ⟨_, rfl⟩; rw [← hp2] at H gr; obtain ⟨z1, z2, rfl, _⟩ := kPost_open (H.ow kPost fp2 cs2 p2); refine vs ?_; refine x_sta H st32 (vs := [z1, .int .i64 p2.f_Time, z2, .int .i64 p2.f_Sure]) (h1 := Kd.one _ (H.ow kPost fp2 [z1, .int .i64 p2.f_Time, z2, .int .i64 p2.f_Sure] p2)) fun w12 H => vs ?_; have H := H.front (c := Ck.box g2 [.slice none 0 0, .int .i64 0, .slice none 0 0, .int .i64 0] 32); have H := H.front (c := curB g v i3 h3); have H := H.front (c := Ck.own kPost fp2 [z1, .int .i64 p2.f_Time, z2, .int .i64 p2.f_Sure] p2); have H := H.front (c := Ck.box g3 [z1, .int .i64 p2.f_Time, z2, .int .i64 p2.f_Sure] 32); have H := H.drops' (L := [_, _, _, _]); exact ⟨(k + 1, p2, _, fp2, i3, h3), i64_eq ek, ⟨gr.1, hi3, H⟩, hdec⟩
  refine ve q2 ?_; refine draw_zp [(0, true), (1, true), (2, false), (3, false), (4, true)] 5 [(5, true), (6, true), (7, false)] (g3 + 1) (Gb n g3) fun w8 hh hb8 => vs ?_; have H := H.go (hb8 _); have H8 := H; refine q_ldaX H st32 ?_; refine vs ?_; refine x_call (l13DrawItem_ok H hv hi3) fun _ w9 ⟨ds, fd, x, i4, h4, e, hx, hi4, H⟩ => ?_; subst e; refine vs ?_; refine ⟨kept_box H8 H, ?_⟩; refine x_call (specDrop_ok w9 _ p _ x (H.ow kPost fp [v1, .int .i64 p.f_Time, v2, .int .i64 p.f_Sure] p) (H.ow kItem fd ds x) hsm hx.sm) fun _ w10 ⟨cs2, fp2, e, S⟩ => ?_; subst e; have H := H.join S; simp only [List.cons_append, List.nil_append] at H; refine vs ?_; refine ⟨kept_box H8 H, ?_⟩; have gr := drop_grew x hok; obtain ⟨p2, hp2⟩ : ∃ p2, p2 = (dropP p x).1 := ⟨_, rfl⟩; rw [← hp2] at H gr; obtain ⟨z1, z2, rfl, _⟩ := kPost_open (H.ow kPost fp2 cs2 p2); refine q_ext ?_; refine vs ?_; refine q_ext ?_; refine vs ?_; refine x_sta H st32 (vs := [z1, .int .i64 p2.f_Time, z2, .int .i64 p2.f_Sure]) (h1 := Kd.one _ (H.ow kPost fp2 [z1, .int .i64 p2.f_Time, z2, .int .i64 p2.f_Sure] p2)) fun w12 H => vs ?_; refine ⟨kept_zero _ _, ?_⟩; have H := H.front (c := Ck.box g2 [.slice none 0 0, .int .i64 0, .slice none 0 0, .int .i64 0] 32); have H := H.front (c := curB g v i4 h4); have H := H.front (c := Ck.own kPost fp2 [z1, .int .i64 p2.f_Time, z2, .int .i64 p2.f_Sure] p2); have H := H.front (c := Ck.box g3 [z1, .int .i64 p2.f_Time, z2, .int .i64 p2.f_Sure] 32); have H := H.drops' (L := [_, _, _, _]); have H := H.drops' (L := [_, _, _, _]); exact ⟨(k + 1, p2, _, fp2, i4, h4), i64_eq ek, ⟨gr.1, hi4, H⟩, hdec⟩
theorem postOk_bk {p : MPost} (h : postOk p = true) : p.f_Book.length ≤ 12000 := (postOk_iff.1 h).1.2.2.1
theorem postOk_tr {p : MPost} (h : postOk p = true) : -9223372036854775808 ≤ p.f_Time ∧ p.f_Time < 9223372036854775808 := by have := (postOk_iff.1 h).1.2.1; omega
theorem postOk_sr {p : MPost} (h : postOk p = true) : -9223372036854775808 ≤ p.f_Sure ∧ p.f_Sure < 9223372036854775808 := by have := (postOk_iff.1 h).1.2.2; omega
theorem smQ_app {l : List MItem} {x : MItem} (h : smItemS l) (hl : l.length ≤ 10) (hx : smItem x) : smItemS (l ++ [x]) :=
  ⟨by rw [List.length_append, List.length_singleton]; omega, fun y hy => (List.mem_append.1 hy).elim (h.2 y) fun h => by rw [List.mem_singleton.1 h]; exact hx⟩
theorem l15Draw_ok {n : Nat} {w0 w : World} {L : List Ck} {g : Nat} {v : Value} {i h : Int} {a : List UInt8} (H : Sep n w0 w (curB g v i h :: L)) (hv : (bytes 5).rd w0 n [v] a) (hi : 0 ≤ i ∧ i ≤ a.length) :
    ACalls Tryz.prog 31 #[.pointer (some ⟨g, 0, none⟩)] w fun r w' => ∃ (cs : List Value) (fp : List Nat) (p : MPost) (i' h' : Int), r = .agg cs.toArray ∧ smPost p ∧ (0 ≤ i' ∧ i' ≤ a.length) ∧ Sep n w0 w' (Ck.own kPost fp cs p :: curB g v i' h' :: L) := by
  refine body_of follows Tryz.func31 rfl rfl _ rfl (by kernel_rfl) (vs ?_); refine x_al H st32 fun g2 w1 H => vs ?_; have H := H.front (c := curB g v i h); refine x_call (l15DrawRight_ok H hv hi) fun _ w2 ⟨cs, fp, p, i1, h1, e, hok, hi1, H⟩ => ?_; subst e; have hsm := postOk_smD hok; have hbk := postOk_bk hok; have rT := postOk_tr hok; have rS := postOk_sr hok; have HO := openPost p H
  clear H
  obtain ⟨f0, f2, v0, v2, rfl, H⟩ := HO; have o0 := one1 (fp := f0) (x := p.f_Queue) H (.head _); have o2 := one1 (fp := f2) (x := p.f_Book) H (.tail _ (.head _)); refine vs ?_; refine x_al H st32 fun g3 w3 H => vs ?_; refine x_sta H st32 (vs := [v0, .int .i64 p.f_Time, v2, .int .i64 p.f_Sure]) (h1 := one4 o0 o2) fun w4 H => vs ?_; have H := H.front (c := curB g v i1 h1); refine x_call (l1Below_ok 12 H hv hi1) fun _ w5 ⟨q, i2, h2, e, hq, hi2, H⟩ => ?_; subst e
  by_cases q0 : (q : Int) = 0
  · refine ve q0 ?_
    refine x_lst H pl_i64 sl55 [-1, 0, 3, 100001] (by simp) fun g7 w6 H => vs ?_; refine x_call (l1PickInt_ok _ H hv hi2 (by simp)) fun _ w7 ⟨X, i3, h3, e, _, hX, hi3, H⟩ => ?_; subst e; refine vs ?_; refine x_st H sc3 fun w8 H => vs ?_; refine x_lda H st32 ?_; refine vs ?_; refine x_sta H st32 (vs := [v0, .int .i64 X, v2, .int .i64 p.f_Sure]) (h1 := one4 o0 o2) fun w12 H => vs ?_; have hres := res_cell H (g := g2) (cs := [v0, .int .i64 X, v2, .int .i64 p.f_Sure]) st32; have H := H.front (c := curB g v i3 h3); have H := H.front (c := Ck.own (bytes 5) f2 [v2] p.f_Book); have H := H.front (c := Ck.own items f0 [v0] p.f_Queue); obtain ⟨fp, H⟩ := ownPost (⟨p.f_Queue, X, p.f_Book, p.f_Sure⟩ : MPost) H hX rS; have H := H.drops' (L := [_, _]); have H := H.drops' (L := [_, _]); exact ⟨_, _, rfl, hres, _, fp, (⟨p.f_Queue, X, p.f_Book, p.f_Sure⟩ : MPost), i3, h3, rfl, hsm, hi3, H⟩
  refine ve q0 ?_
  by_cases q1 : (q : Int) = 1
  · refine ve q1 ?_
    refine x_lst H pl_i64 sl55 [-1, 0, 99999] (by simp) fun g7 w6 H => vs ?_; refine x_call (l1PickInt_ok _ H hv hi2 (by simp)) fun _ w7 ⟨X, i3, h3, e, _, hX, hi3, H⟩ => ?_; subst e; refine vs ?_; refine x_st H sc3 fun w8 H => vs ?_; refine x_lda H st32 ?_; refine vs ?_; refine x_sta H st32 (vs := [v0, .int .i64 p.f_Time, v2, .int .i64 X]) (h1 := one4 o0 o2) fun w12 H => vs ?_; have hres := res_cell H (g := g2) (cs := [v0, .int .i64 p.f_Time, v2, .int .i64 X]) st32; have H := H.front (c := curB g v i3 h3); have H := H.front (c := Ck.own (bytes 5) f2 [v2] p.f_Book); have H := H.front (c := Ck.own items f0 [v0] p.f_Queue); obtain ⟨fp, H⟩ := ownPost (⟨p.f_Queue, p.f_Time, p.f_Book, X⟩ : MPost) H rT hX; have H := H.drops' (L := [_, _]); have H := H.drops' (L := [_, _]); exact ⟨_, _, rfl, hres, _, fp, (⟨p.f_Queue, p.f_Time, p.f_Book, X⟩ : MPost), i3, h3, rfl, hsm, hi3, H⟩
  refine ve q1 ?_
  by_cases q2 : (q : Int) = 2
  · refine ve q2 ?_
    refine x_ld H sc22 ?_; refine vs ?_; have H := H.front (c := Ck.own (bytes 5) f2 [v2] p.f_Book); refine x_call (l14Dent_ok H hv hi2 (by omega)) fun r w6 ⟨b2, f5, i3, h3, hb2, hi3, H⟩ => ?_; have o5 := one1 (fp := f5) (x := b2) H (.head _); refine vs ?_; refine x_st H sc22 (h1 := o5) fun w8 H => vs ?_; refine x_lda H st32 ?_; refine vs ?_; refine x_sta H st32 (vs := [v0, .int .i64 p.f_Time, r, .int .i64 p.f_Sure]) (h1 := one4 o0 o5) fun w12 H => vs ?_; have hres := res_cell H (g := g2) (cs := [v0, .int .i64 p.f_Time, r, .int .i64 p.f_Sure]) st32; have H := H.front (c := curB g v i3 h3); have H := H.front (c := Ck.own (bytes 5) f5 [r] b2); have H := H.front (c := Ck.own items f0 [v0] p.f_Queue); obtain ⟨fp, H⟩ := ownPost (⟨p.f_Queue, p.f_Time, b2, p.f_Sure⟩ : MPost) H rT rS; have H := H.drops' (L := [_, _]); have H := H.drops' (L := [_, _]); exact ⟨_, _, rfl, hres, _, fp, (⟨p.f_Queue, p.f_Time, b2, p.f_Sure⟩ : MPost), i3, h3, rfl, ⟨hsm.1, by show b2.length ≤ 1048576; omega⟩, hi3, H⟩
  refine ve q2 ?_
  by_cases q3 : (q : Int) = 3
  · refine ve q3 ?_
    refine draw_zn [(0, true), (1, true), (2, true), (3, false), (4, false), (5, false), (6, true)] 7 [7] (g3 + 1) (Gb n g3) fun w6 hh hb6 => vs ?_; have H := H.go (hb6 _); have H6 := H; refine q_ldX H sc30 ?_; refine vs ?_; refine x_call (l13DrawItem_ok H hv hi2) fun _ w7 ⟨ds, fd, x, i3, h3, e, hx, hi3, H⟩ => ?_; subst e; refine vs ?_; refine ⟨kept_box H6 H, ?_⟩; obtain ⟨ux, eds, _⟩ := kItem_open (H.ow kItem fd ds x); subst eds; refine x_lst1 sl30 H rfl rfl fun f8 v8 w8 H => vs ?_; refine ⟨kept_box H6 H, ?_⟩; have H := H.front (c := Ck.own items f0 [v0] p.f_Queue); have H := H.front (c := Ck.own items f8 [v8] [x]); have hl10 := postOk_len hok; refine x_appO sl30 H rfl ?_ ?_ fun f9 v9 w9 H => vs ?_
    · simp only [List.length_cons, List.length_nil]; omega
    · simp only [List.length_cons, List.length_nil]; omega
    refine ⟨kept_box H6 H, ?_⟩; have o9 := one1 (fp := f9) (x := p.f_Queue ++ [x]) H (.head _); refine dl_cons ⟨_, rfl, vs ?_⟩; refine x_st H sc30 (h1 := o9) fun w10 H => ?_; refine dl_nil (vs ?_); refine x_lda H st32 ?_; refine vs ?_; refine x_sta H st32 (vs := [v9, .int .i64 p.f_Time, v2, .int .i64 p.f_Sure]) (h1 := one4 o9 o2) fun w12 H => vs ?_; have hres := res_cell H (g := g2) (cs := [v9, .int .i64 p.f_Time, v2, .int .i64 p.f_Sure]) st32; have H := H.front (c := curB g v i3 h3); have H := H.front (c := Ck.own (bytes 5) f2 [v2] p.f_Book); have H := H.front (c := Ck.own items f9 [v9] (p.f_Queue ++ [x])); obtain ⟨fp, H⟩ := ownPost (⟨p.f_Queue ++ [x], p.f_Time, p.f_Book, p.f_Sure⟩ : MPost) H rT rS; have H := H.drops' (L := [_, _]); have H := H.drops' (L := [_, _]); exact ⟨_, _, rfl, hres, _, fp, (⟨p.f_Queue ++ [x], p.f_Time, p.f_Book, p.f_Sure⟩ : MPost), i3, h3, rfl, ⟨smQ_app hsm.1 hl10 hx.sm, hsm.2⟩, hi3, H⟩
  refine ve q3 ?_; refine x_lda H st32 ?_; refine vs ?_; refine x_sta H st32 (vs := [v0, .int .i64 p.f_Time, v2, .int .i64 p.f_Sure]) (h1 := one4 o0 o2) fun w12 H => vs ?_; have hres := res_cell H (g := g2) (cs := [v0, .int .i64 p.f_Time, v2, .int .i64 p.f_Sure]) st32; have H := H.front (c := curB g v i2 h2); have H := H.front (c := Ck.own (bytes 5) f2 [v2] p.f_Book); have H := H.front (c := Ck.own items f0 [v0] p.f_Queue); obtain ⟨fp, H⟩ := ownPost (⟨p.f_Queue, p.f_Time, p.f_Book, p.f_Sure⟩ : MPost) H rT rS; have H := H.drops' (L := [_, _]); have H := H.drops' (L := [_, _]); exact ⟨_, _, rfl, hres, _, fp, (⟨p.f_Queue, p.f_Time, p.f_Book, p.f_Sure⟩ : MPost), i2, h2, rfl, hsm, hi2, H⟩
def Gb2 (n m m' : Nat) : List (Nat × Nat) := fpG ((List.range' n (max m m' + 1 - n)).filter fun b => decide (b ≠ m ∧ b ≠ m'))
theorem Gb2_not {n m m' b : Nat} (h : b = m ∨ b = m') : ∀ t, (b, t) ∉ Gb2 n m m' := fun t ht => by
  obtain ⟨k, hk, e⟩ := List.mem_map.1 ht; obtain ⟨rfl, _⟩ := Prod.mk.inj e; have h2 := (List.mem_filter.1 hk).2; simp only [decide_eq_true_eq] at h2
  omega
theorem kept_box2 {n m m' : Nat} {w0 w w' : World} {L L' : List Ck} {cs ds : List Value} {t s : TypeId} (H : Sep n w0 w L) (H' : Sep n w0 w' L') (hm : Ck.box m cs t ∈ L := by repeat (first | exact List.mem_cons_self | apply List.mem_cons_of_mem)) (hm' : Ck.box m cs t ∈ L' := by repeat (first | exact List.mem_cons_self | apply List.mem_cons_of_mem))
    (hk : Ck.box m' ds s ∈ L := by repeat (first | exact List.mem_cons_self | apply List.mem_cons_of_mem)) (hk' : Ck.box m' ds s ∈ L' := by repeat (first | exact List.mem_cons_self | apply List.mem_cons_of_mem)) : Kept (max m m' + 1) (Gb2 n m m') w w' := by
  have l1 := H'.lt hm'; have l2 := H'.lt hk'; refine ⟨fun _ => by omega, fun b hb hG => ?_, fun g t hg _ j hj => ?_⟩
  · by_cases h : b < n
    · rw [H'.bel.block b h, H.bel.block b h]
    · by_cases e : b = m
      · subst e
        have h1 : w'.heap[b]? = some (.cells cs.toArray t (0, 0)) := H'.ok _ hm'; have h2 : w.heap[b]? = some (.cells cs.toArray t (0, 0)) := H.ok _ hm; rw [h1, h2]
      · by_cases e2 : b = m'
        · subst e2
          have h1 : w'.heap[b]? = some (.cells ds.toArray s (0, 0)) := H'.ok _ hk'; have h2 : w.heap[b]? = some (.cells ds.toArray s (0, 0)) := H.ok _ hk; rw [h1, h2]
        · exact absurd (fpG_mem (List.mem_filter.2 ⟨List.mem_range'_1.2 ⟨by omega, by omega⟩, by simp [e, e2]⟩)) (hG 0)
  · rw [fpG_zero _ _ hg] at hj; omega
section
variable {P : Program} {n : Nat} {w0 w : World} {L : List Ck} {K : Value → Prop}
theorem q_ldaX2 {m m' b : Nat} {tg : Tg (max m m' + 1, Gb2 n m m', w, K)} (h0 : b = m ∨ b = m') (H : Sep n w0 w L) {cs : List Value} {t e : TypeId} {sz : Nat} {z : Array Value} (HS : StT P e sz z) (h : K (.agg cs.toArray)) (hm : Ck.box b cs t ∈ L := by repeat (first | exact List.mem_cons_self | apply List.mem_cons_of_mem)) (hl : cs.length = sz := by rfl) :
    QS P (max m m' + 1) (Gb2 n m m') w K tg (Instr.loadAt e (.pointer (some ⟨b, 0, none⟩))) := qx_loadAgg HS cs hl (fun j v hj => by rw [Kd.add_plain, H.cell hm]; exact hj) (by show b < max m m' + 1; omega) (Gb2_not h0) h
end

def RestZ (P : Program) (ops : Array Oper) (n : Nat) (G : List (Nat × Nat)) (w0 : World) (K : Sl → World → Prop) (z k : Nat) (listed : Array Bool) (_ : Tg (ops, n, G, w0, K, z, k, listed)) (s : Sl) (w : World) : Prop := Closed ops listed → Kept n G w0 w → adrZ P ops K (Kept n G w0) z k listed s w
section
variable {P : Program} {l : List Oper} {n : Nat} {G : List (Nat × Nat)} {w0 : World} {K : Sl → World → Prop} {s : Sl} {w : World} {listed : Array Bool} {z k : Nat}
theorem fork_zdraw {tg : Tg (l.toArray, K)} (z n : Nat) (G : List (Nat × Nat)) (h : ∀ w1, w1.heap = w.heap → (∀ m, Below m w w1) → RestZ P l.toArray n G w1 K z l.toArray.size (Array.replicate l.toArray.size false) .mk s w1) : Adraw P l.toArray K tg s w := by
  have key := h w.drew rfl (fun m => (Below.refl m w).drew) (closed_none _ _) (Kept.refl ..); exact fun m a ha hok => wpAny_of_Z _ _ _ _ (key m a ha hok)
theorem restz_pre {tg : Tg (l.toArray, n, G, w0, K, z, k, listed)} (pl : List (Nat × Bool)) (k' : Nat) (h : Dpl P l.toArray n G w0 (fun s w => RestZ P l.toArray n G w0 K z k' (planTo pl listed) .mk s w) pl .mk s w)
    (hs : Region.noSelect l.toArray = true := by kernel_rfl) (hp : planPre l.toArray pl listed = true := by kernel_rfl) (hz : planZ l.toArray z pl = true := by kernel_rfl) (hl : pl.length + k' = k := by decide) : RestZ P l.toArray n G w0 K z k listed tg s w := by
  subst hl; intro hcl hS; refine preZ_sound hs pl k' listed s w hcl hp hz hS ?_; exact dpl_mono (fun s w hr hk => hr (closed_plan pl listed hcl hp) hk) pl s w h
theorem restz_fork {tg : Tg (l.toArray, n, G, w0, K, z, k, listed)} (i j : Nat) (k' : Nat)
    (hi : Dpl P l.toArray n G w0 (fun s w => RestZ P l.toArray n G w0 K z k' (listed.setIfInBounds i true) .mk s w) [(i, false)] .mk s w)
    (hj : Dpl P l.toArray n G w0 (fun s w => RestZ P l.toArray n G w0 K z k' (listed.setIfInBounds j true) .mk s w) [(j, false)] .mk s w)
    (hr : (Region.ready .any l.toArray listed == [i, j]) = true := by kernel_rfl) (hk : k = k' + 1 := by rfl) : RestZ P l.toArray n G w0 K z k listed tg s w := by
  subst hk; refine fun hcl hS => adrZ_all [i, j] (beq_iff_eq.1 hr) (by simp) fun q hq => ?_; have hmem : q ∈ Region.ready .any l.toArray listed := by rw [beq_iff_eq.1 hr]; exact hq
  simp only [List.mem_cons, List.not_mem_nil, or_false] at hq
  rcases hq with rfl | rfl
  · exact aopI_mono (aopI_dpl hi) fun s' w' h => ⟨fun _ => h.1, h.2 (closed_set hcl hmem) h.1⟩
  · exact aopI_mono (aopI_dpl hj) fun s' w' h => ⟨fun _ => h.1, h.2 (closed_set hcl hmem) h.1⟩
theorem restz_late {tg : Tg (l.toArray, n, G, w0, K, z, k, listed)} (late : List Nat) (h : DLate P l.toArray K late .mk s w)
    (hq : lateOk l.toArray z late listed = true := by kernel_rfl) (hl : late.length ≤ k := by decide) : RestZ P l.toArray n G w0 K z k listed tg s w := fun _ _ => late_sound late _ _ s w hq hl h
end
section
variable {P : Program} {n : Nat} {w0 w : World} {L : List Ck} {K : Value → Prop}
theorem q_ldX2 {m m' b j : Nat} {tg : Tg (max m m' + 1, Gb2 n m m', w, K)} (h0 : b = m ∨ b = m') (H : Sep n w0 w L) {cs : List Value} {t e : TypeId} {z v : Value} (HS : ScT P e z) (h : K v) (hm : Ck.box b cs t ∈ L := by repeat (first | exact List.mem_cons_self | apply List.mem_cons_of_mem)) (hv : cs[j]? = some v := by rfl) :
    QS P (max m m' + 1) (Gb2 n m m') w K tg (Instr.loadAt e (.pointer (some ⟨b, j, none⟩))) := qx_load HS (by rw [H.cell hm]; exact hv) (by show b < max m m' + 1; omega) (Gb2_not h0) h
end

def seenP (x : MReader) (i : Nat) : Prop := ∃ (h : i < x.f_Seen.length) (h2 : i < x.f_Got.length), x.f_Seen[i].length ≤ 1560 ∧ x.f_Got[i].length ≤ 200 ∧ ∀ k (hk : k < i), ¬ x.f_Seen[k]'(by omega) = x.f_Seen[i]
def readerP (x : MReader) : Prop := x.f_Seed.length = 32 ∧ (0 ≤ x.f_Epoch ∧ x.f_Epoch ≤ 40) ∧ x.f_Seen.length ≤ 20 ∧ x.f_Got.length = x.f_Seen.length ∧ ∀ i, i < x.f_Seen.length → seenP x i
noncomputable def readerOk (x : MReader) : Bool := @decide (readerP x) (Classical.propDecidable _)
theorem readerOk_true {x : MReader} (h : readerP x) : readerOk x = true := @decide_eq_true _ (Classical.propDecidable _) h
theorem readerOk_false {x : MReader} (h : ¬ readerP x) : readerOk x = false := @decide_eq_false _ (Classical.propDecidable _) h
theorem specReaderOk_ok (w : World) (cs : List Value) (x : MReader) (h : kReader.rd w w.heap.size cs x) :
    ACalls Tryz.prog 73 #[.agg cs.toArray] w fun r w' => r = .bool (readerOk x) ∧ Below w.heap.size w w' := by
  obtain ⟨v0, v2, v3, rfl, h0, h1, h2, h3⟩ := kReader_open h; have hl2 := sl_len h2; obtain ⟨A0, c0, rfl, _, _, _⟩ := sl_open h0; obtain ⟨A2, c2, rfl, hc2, hm2, ha2⟩ := sl_open h2; obtain ⟨A3, c3, rfl, hc3, hm3, ha3⟩ := sl_open h3; have H := Sep.start w; refine body_of follows Tryz.func73 rfl rfl _ rfl (by kernel_rfl) (vs ?_); refine x_bx H [_, _, _, _] fun g1 w1 H => vs ?_; refine x_ld H sc22 ?_
  by_cases hA : (x.f_Seed.length : Int) = 32
  · refine ve hA ?_
    refine x_ld H sc3 ?_; refine vs ?_; refine x_callw (l1In_ok w1 _ _ _) ?_
    by_cases hB : 0 ≤ x.f_Epoch ∧ x.f_Epoch ≤ 40
    · refine ve hB ?_
      refine x_ld H sc33 ?_
      by_cases hC : 20 < (x.f_Seen.length : Int)
      · refine ve hC ?_
        exact ⟨by rw [readerOk_false fun h => by have := h.2.2.1; omega], H.bel⟩
      · refine ve hC ?_
        refine x_ld H sc33 ?_; refine vs ?_; refine x_ld H sc33 ?_; refine vs (ways ?_ ?_)
        · refine vh fun hD => ?_
          have hlg : x.f_Got.length = x.f_Seen.length := by omega
          refine loop_at (σ := Nat) (fun k => [(1, .pointer (some ⟨g1, 0, none⟩)), (3, .int .i64 (k : Int))])
            (fun k w' => k ≤ x.f_Seen.length ∧ (∀ i, i < k → seenP x i) ∧ Sep w.heap.size w w' [Ck.box g1 [.slice A0 x.f_Seed.length c0, .int .i64 x.f_Epoch, .slice A2 x.f_Seen.length c2, .slice A3 x.f_Got.length c3] 35]) (fun k => x.f_Seen.length - k) 0 (vs trivial) ⟨Nat.zero_le _, fun i h => absurd h (Nat.not_lt_zero i), H⟩ ?_
          rintro k s w2 ⟨hk, hall, H⟩; refine vs ?_; refine x_ld H sc33 ?_; refine vs (ways ?_ ?_)
          · refine vh fun hlt => ?_
            have hk2 : k < x.f_Seen.length := by omega
            have hbad : ¬ seenP x k → readerOk x = false := fun hn => readerOk_false fun hp => hn (hp.2.2.2.2 k hk2); refine x_ld H sc33 ?_; refine vs ?_; refine x_elg sl33 rfl (ha2.mono H.bel) (by omega) hlt fun ad es hb hr hc => vs ?_; have hr : (bytes 5).rd w2 w.heap.size es x.f_Seen[k] := hr; obtain ⟨u, rfl⟩ := sl_one hr; obtain ⟨B, cb, rfl, _, _, _⟩ := sl_open hr; refine x_ld1 sc22 hc rfl (vs ?_)
            by_cases hE : 1560 < (x.f_Seen[k].length : Int)
            · refine ve hE ?_
              exact ⟨by rw [hbad fun ⟨_, _, h, _⟩ => by omega], H.bel⟩
            · refine ve hE ?_
              refine x_ld H sc33 ?_; refine vs ?_; refine x_elg sl33 rfl (ha3.mono H.bel) (by omega) (by omega) fun ad2 es2 hb2 hr2 hc2' => vs ?_; have hr2 : (bytes 5).rd w2 w.heap.size es2 (x.f_Got[k]'(by omega)) := hr2; obtain ⟨u2, rfl⟩ := sl_one hr2; obtain ⟨B2, cb2, rfl, _, _, _⟩ := sl_open hr2; refine x_ld1 sc22 hc2' rfl (vs ?_); refine ways ?_ ?_
              · refine vh fun hF => ?_
                exact ⟨by rw [hbad fun ⟨_, _, _, h, _⟩ => by omega], H.bel⟩
              · refine vh fun hF => ?_
                refine loop_at (σ := Nat) (fun j => [(1, .pointer (some ⟨g1, 0, none⟩)), (3, .int .i64 (k : Int)), (4, .int .i64 (j : Int))])
                  (fun j w' => j ≤ k ∧ (∀ i (hi : i < k), i < j → ¬ x.f_Seen[i]'(by omega) = x.f_Seen[k]) ∧ Sep w.heap.size w w' [Ck.box g1 [.slice A0 x.f_Seed.length c0, .int .i64 x.f_Epoch, .slice A2 x.f_Seen.length c2, .slice A3 x.f_Got.length c3] 35]) (fun j => k - j) 0 (vs trivial) ⟨Nat.zero_le _, fun i _ h => absurd h (Nat.not_lt_zero i), H⟩ ?_
                rintro j s3 w3 ⟨hj, hne, H⟩; refine vs (ways ?_ ?_)
                · refine vh fun hjk => ?_
                  refine draw_at [(0, true), (1, true), (2, true), (3, true), (4, true), (5, true), (6, true), (7, true), (8, true), (9, true), (10, false)] fun w4 hh hb4 => vs ?_; have H := H.go (hb4 _); refine q_ld H sc33 ?_; refine vs ?_; refine q_elg sl33 rfl (ha2.mono H.bel) (by omega) (by omega) fun ad3 es3 hb3 hr3 hc3' => vs ?_; have hr3 : (bytes 5).rd w4 w.heap.size es3 (x.f_Seen[j]'(by omega)) := hr3; obtain ⟨u3, rfl⟩ := sl_one hr3; refine q_ld1 sc22 hc3' rfl (Nat.lt_of_lt_of_le hb3 H.ns) (vs ?_); refine q_ld H sc33 ?_; refine vs ?_; refine q_elg sl33 rfl (ha2.mono H.bel) (by omega) (by omega) fun ad5 es5 hb5 hr5 hc5' => vs ?_; have hr5 : (bytes 5).rd w4 w.heap.size es5 x.f_Seen[k] := hr5; obtain ⟨u5, rfl⟩ := sl_one hr5; refine q_ld1 sc22 hc5' rfl (Nat.lt_of_lt_of_le hb5 H.ns) (vs ?_); refine x_callw (specSame_ok w4 u3 u5 _ _ (Kd.le _ hr3 H.ns) (Kd.le _ hr5 H.ns)) ?_; refine vs ?_; refine ⟨Kept.refl .., ?_⟩; refine ways ?_ ?_
                  · refine vh fun hS => ?_
                    exact ⟨by rw [hbad fun ⟨_, _, _, _, h⟩ => h j (by omega) hS], H.bel⟩
                  · refine vh fun hS => ?_
                    refine ⟨j + 1, i64_eq (by unfold w64; omega), ⟨by omega, fun i hi h => ?_, H⟩, by omega⟩
                    by_cases h2 : i = j
                    · subst h2; exact hS
                    · exact hne i hi (by omega)
                · refine vh fun hjk => ?_
                  refine ⟨k + 1, i64_eq (by unfold w64; omega), ⟨hk2, fun i h => ?_, H⟩, by omega⟩
                  by_cases h2 : i = k
                  · subst h2; exact ⟨hk2, by omega, by omega, by omega, fun q hq => hne q hq (by omega)⟩
                  · exact hall i (by omega)
          · refine vh fun hlt => ?_
            exact ⟨by rw [readerOk_true ⟨by omega, hB, by omega, hlg, fun i hi => hall i (by omega)⟩], H.bel⟩
        · refine vh fun hD => ?_
          exact ⟨by rw [readerOk_false fun h => by have := h.2.2.2.1; omega], H.bel⟩
    · refine ve hB ?_
      exact ⟨by rw [readerOk_false fun h => hB h.2.1], H.bel⟩
  · refine ve hA ?_
    exact ⟨by rw [readerOk_false fun h => hA (by have := h.1; omega)], H.bel⟩
theorem l16Lists_ok (w : World) (v : Value) (l : List (List UInt8)) (h : (Kd.slice 22 (bytes 5)).rd w w.heap.size [v] l) (hs : smByteSS l) :
    ACalls Tryz.prog 76 #[v] w fun r w' => ∃ fp, Sep w.heap.size w w' [Ck.own (Kd.slice 22 (bytes 5)) fp [r] l] := by
  have hlm := sl_len h; have hs0 := hs.1; obtain ⟨A, c, rfl, hc1, hc2, ha⟩ := sl_open h; refine body_of follows Tryz.func76 rfl rfl _ rfl (by kernel_rfl) (vs ?_); refine x_empO (d := bytes 5) (Sep.start w) sl33 fun g w1 H => vs ?_
  refine loop_at (σ := Nat × Value × List Nat) (fun x => [(0, .slice A l.length c), (3, x.2.1), (4, .int .i64 (x.1 : Int))])
    (fun x w' => x.1 ≤ l.length ∧ Sep w.heap.size w w' [Ck.own (Kd.slice 22 (bytes 5)) x.2.2 [x.2.1] (l.take x.1)]) (fun x => l.length - x.1) (0, _, _) (vs trivial) ⟨Nat.zero_le _, H⟩ ?_
  rintro ⟨k, v', fp⟩ s w2 ⟨hk, H⟩; dsimp only at hk H; refine vs (ways ?_ ?_)
  · refine vh fun hlt => ?_
    have hk2 : k < l.length := by omega
    have hsm := hs.2 l[k] (List.getElem_mem hk2); refine x_emp H pl_u8 sl22 fun g w1 H => vs ?_; refine x_ele H sl33 rfl k hk2 ha rfl fun ad es hb hr hc => vs ?_; obtain ⟨u, rfl⟩ := sl_one hr; refine x_ld1 sc22 hc rfl (vs ?_); refine x_app H pl_u8 sl22 (H.rd hr) ?_ ?_ fun f2 v2 w3 H => vs ?_
    · simp only [List.length_nil]; omega
    · simp only [List.length_nil]; omega
    refine x_lst1 sl33 H (cells_one (Kd.one _ (H.own (.head _)) _ (by simp))) rfl fun f3 v3 w4 H => vs ?_; refine x_appO sl33 H rfl ?_ ?_ fun f5 v5 w5 H => vs ?_
    · simp only [List.length_take, List.length_cons, List.length_nil]; omega
    · simp only [List.length_take, List.length_cons, List.length_nil]; omega
    refine ⟨(k + 1, v5, f5), ⟨rfl, i64_eq (by show w64 ((k : Int) + 1) = ((k + 1 : Nat) : Int); unfold w64; omega)⟩, ⟨hk2, ?_⟩, by show l.length - (k + 1) < l.length - k; omega⟩
    show Sep _ _ _ [Ck.own _ f5 [v5] (l.take (k + 1))]
    rw [List.take_succ_eq_append_getElem hk2]; exact H
  · refine vh fun hlt => ?_
    obtain rfl : k = l.length := by omega
    rw [List.take_length] at H; exact ⟨_, H⟩
theorem l16Copy_ok (w : World) (cs : List Value) (x : MReader) (h : kReader.rd w w.heap.size cs x) (hs : smReader x) :
    ACalls Tryz.prog 54 #[.agg cs.toArray] w fun r w' => ∃ cs' fp, r = .agg cs'.toArray ∧ Sep w.heap.size w w' [Ck.own kReader fp cs' x] := by
  unfold smReader at hs; obtain ⟨v0, v2, v3, rfl, h0, h1, h2, h3⟩ := kReader_open h; have H := Sep.start w; refine body_of follows Tryz.func54 rfl rfl _ rfl (by kernel_rfl) (vs ?_); refine x_bx H [v0, .int .i64 x.f_Epoch, v2, v3] fun g1 w1 H => vs ?_; have J := Sep.start w1; refine x_al J st35 fun g2 w2 J => vs ?_; refine draw_of [(1, true), (2, true), (4, true), (5, true), (6, true), (7, true), (9, true), (10, true), (0, false), (3, false), (8, false), (11, false), (12, true), (13, false)] w1.heap.size [] fun w3 hh hb3 => vs ?_; have J := J.go (hb3 _); have J3 := J; refine q_ldB H J3 sc22 ?_; refine vs ?_; refine q_ldB H J3 sc3 ?_; refine vs ?_; refine q_ldB H J3 sc33 ?_; refine vs ?_; refine q_ldB H J3 sc33 ?_; refine vs ?_; refine x_emp J pl_u8 sl22 fun g4 w4 J => vs ?_; refine ⟨kept_base J3 J, ?_⟩; refine x_app J pl_u8 sl22 (J.rd (H.rd h0)) ?_ ?_ fun f0 r0 w5 J => vs ?_
  · simp only [List.length_nil]; omega
  · simp only [List.length_nil]; omega
  refine ⟨kept_base J3 J, ?_⟩; refine x_callf J (l16Lists_ok w5 v2 _ (J.rd (H.rd h2)) hs.2.1) fun r2 f2 w6 J => vs ?_; refine ⟨kept_base J3 J, ?_⟩; refine x_callf J (l16Lists_ok w6 v3 _ (J.rd (H.rd h3)) hs.2.2) fun r3 f3 w7 J => vs ?_; refine ⟨kept_base J3 J, ?_⟩; obtain ⟨A0, c0, rfl, _⟩ := sl_open (J.own (.tail _ (.tail _ (.head _)))); obtain ⟨A2, c2, rfl, _⟩ := sl_open (J.own (.tail _ (.head _))); obtain ⟨A3, c3, rfl, _⟩ := sl_open (J.own (.head _)); refine q_bld bl35 [_, _, _, _] ?_; refine vs ?_; have J := (J.front (c := Ck.own (Kd.slice 22 (bytes 5)) f2 [.slice A2 x.f_Seen.length c2] x.f_Seen)).front (h := .there (.there .here)); obtain ⟨fp, J⟩ := ownReader x J h1; refine x_sta J st35 (h1 := Kd.one _ (J.own (.head _))) fun w7 J => vs ?_; refine ⟨kept_base J3 J, ?_⟩; have H := H.join J; simp only [List.cons_append, List.nil_append] at H; exact ⟨_, _, rfl, res_cell H st35, _, _, rfl, H.head⟩
def readerZ (a : List UInt8) : MReader := ⟨a, 0, [], []⟩
noncomputable def readerNew (a : List UInt8) : MReader := if readerOk (readerZ a) = true then readerZ a else zReader
theorem specReaderNew_ok (w : World) (v : Value) (a : List UInt8) (h : (bytes 5).rd w w.heap.size [v] a) (hl : a.length ≤ 1099511627776) :
    ACalls Tryz.prog 51 #[v] w fun r w' => ∃ cs fp, r = .tuple #[.agg cs.toArray, .bool (readerOk (readerZ a))] ∧ Sep w.heap.size w w' [Ck.own kReader fp cs (readerNew a)] := by
  have H := Sep.start w; refine body_of follows Tryz.func51 rfl rfl _ rfl (by kernel_rfl) (vs ?_); refine x_al H st35 fun g1 w1 H => vs ?_; refine x_emp H pl_u8 sl22 fun g2 w1 H => vs ?_; refine x_app H pl_u8 sl22 (H.rd h) ?_ ?_ fun f0 r0 w2 H => vs ?_
  · simp only [List.length_nil]; omega
  · simp only [List.length_nil]; omega
  obtain ⟨A0, c0, rfl, _⟩ := sl_open (H.own (.head _)); refine x_build bl35 [_, .int .i64 0, .slice none 0 0, .slice none 0 0] ?_; refine vs ?_; have H := ((H.nothing (d := Kd.slice 22 (bytes 5)) (sl_zero w2)).nothing (d := Kd.slice 22 (bytes 5)) (sl_zero w2)).front (h := .there (.there .here)); obtain ⟨fp, H⟩ := ownReader (readerZ a) H (by show (-9223372036854775808 : Int) ≤ 0 ∧ (0 : Int) < 9223372036854775808; decide); refine x_al H st35 fun g3 w3 H => vs ?_; refine x_sta H st35 (h1 := Kd.one _ (H.own (.tail _ (.head _)))) fun w4 H => vs ?_; refine x_lda H st35 ?_; refine vs ?_; refine x_callb H (specReaderOk_ok w4 _ _ (H.own (.tail _ (.head _)))) fun w5 H => ?_
  cases hok : readerOk (readerZ a) with
  | true =>
    refine vs ?_; refine x_lda H st35 ?_; refine vs ?_; refine x_sta H st35 (h1 := Kd.one _ (H.own (.tail _ (.head _)))) fun w6 H => vs ?_; have e : readerNew a = readerZ a := by unfold readerNew; rw [if_pos hok]
    rw [e]; exact ⟨_, _, rfl, res_cell H st35, _, _, rfl, H.only⟩
  | false =>
    refine vs ?_; refine x_build bl35 [.slice none 0 0, .int .i64 0, .slice none 0 0, .slice none 0 0] ?_; refine vs ?_; have H := H.nothing (kReader_zero w5); refine x_sta H st35 (h1 := Kd.one _ (H.own (.head _))) fun w6 H => vs ?_; have e : readerNew a = zReader := by unfold readerNew; rw [if_neg (by rw [hok]; decide)]
    rw [e]; exact ⟨_, _, rfl, res_cell H st35, _, _, rfl, H.head⟩
def nextE (x : MReader) : MReader := { x with f_Epoch := w64 (x.f_Epoch + 1) }
noncomputable def nextOk (x : MReader) : Bool := readerOk x && readerOk (nextE x)
noncomputable def nextX (x : MReader) : MReader := if nextOk x = true then nextE x else x
theorem readerOk_epoch {x : MReader} (h : readerOk x = true) : 0 ≤ x.f_Epoch ∧ x.f_Epoch ≤ 40 := by
  have h1 : readerP x := by
    by_cases hp : readerP x
    · exact hp
    · rw [readerOk_false hp] at h; cases h
  exact h1.2.1
theorem w64_range (n : Int) : -9223372036854775808 ≤ w64 n ∧ w64 n < 9223372036854775808 := by unfold w64; omega
theorem l1Min_ok (w : World) (a b : Int) : ACalls Tryz.prog 22 #[.int .i64 a, .int .i64 b] w fun r w' => r = .int .i64 (min a b) ∧ w' = w := by
  refine body_of follows Tryz.func22 rfl rfl _ rfl (by kernel_rfl) (vs (ways ?_ ?_))
  · refine vh fun h => ?_
    exact i64_eq (by omega)
  · refine vh fun h => ?_
    exact i64_eq (by omega)
theorem specNext_ok (w : World) (cs : List Value) (x : MReader) (h : kReader.rd w w.heap.size cs x) (hs : smReader x) :
    ACalls Tryz.prog 83 #[.agg cs.toArray] w fun r w' => ∃ cs' fp, r = .tuple #[.agg cs'.toArray, .bool (nextOk x)] ∧ Sep w.heap.size w w' [Ck.own kReader fp cs' (nextX x)] := by
  obtain ⟨v0, v2, v3, rfl, h0, h1, h2, h3⟩ := kReader_open h; obtain ⟨m, hm, hm0, hm1, hm2⟩ : ∃ m : Int, m = min x.f_Epoch 40 ∧ -9223372036854775808 ≤ m ∧ m ≤ 40 ∧ (x.f_Epoch ≤ 40 → m = x.f_Epoch) := ⟨_, rfl, by omega, by omega, by omega⟩; have H := Sep.start w; refine body_of follows Tryz.func83 rfl rfl _ rfl (by kernel_rfl) (vs ?_); refine x_bx H [v0, .int .i64 x.f_Epoch, v2, v3] fun g1 w1 H => vs ?_; refine x_al H st35 fun g2 w2 H => vs ?_; refine x_lda H st35 ?_; refine vs ?_; refine x_call (l16Copy_ok w2 _ _ (H.rd h) hs) fun _ w3 ⟨cs2, fp2, e, S⟩ => ?_; subst e; have H := H.join S; simp only [List.cons_append, List.nil_append] at H; have hone := Kd.one _ (H.own (.head _)); obtain ⟨u0, u2, u3, f0, f2, f3, rfl, r1, H⟩ := apartReader H; refine vs ?_; refine x_al H st35 fun g4 w3 H => vs ?_; refine x_sta H st35 (h1 := hone) fun w3 H => vs ?_; refine x_ld H sc3 ?_; refine vs ?_; refine x_callw (l1Min_ok w3 _ _) ?_; rw [← hm]; refine vs ?_; refine x_st H sc3 fun w4 H => vs ?_; have H := ((H.front (c := Ck.own (Kd.slice 22 (bytes 5)) f3 [u3] x.f_Got)).front (c := Ck.own (Kd.slice 22 (bytes 5)) f2 [u2] x.f_Seen)).front (c := Ck.own (bytes 5) f0 [u0] x.f_Seed); obtain ⟨fp3, H⟩ := ownReader ({ x with f_Epoch := w64 (m + 1) }) H (w64_range _); refine x_lda H st35 ?_; refine vs ?_; refine x_callb H (specReaderOk_ok w4 _ _ (H.rd h)) fun w5 H => ?_
  cases hok : readerOk x with
  | false =>
    refine vs ?_; refine x_lda H st35 ?_; refine vs ?_; refine x_call (l16Copy_ok w5 _ _ (H.rd h) hs) fun _ w6 ⟨cs6, fp6, e, S⟩ => ?_; subst e; have H := H.join S; simp only [List.cons_append, List.nil_append] at H; obtain ⟨t0, t2, t3, rfl, _⟩ := kReader_open (H.own (.head _)); refine vs ?_; refine x_sta H st35 (h1 := Kd.one _ (H.own (.head _))) fun w7 H => vs ?_; have e1 : nextOk x = false := by unfold nextOk; rw [hok]; rfl
    have e2 : nextX x = x := by unfold nextX; rw [if_neg (by rw [e1]; decide)]
    rw [e1, e2]; exact ⟨_, _, rfl, res_cell H st35, _, _, rfl, H.only⟩
  | true =>
    have hme := hm2 (readerOk_epoch hok).2
    clear hm
    subst hme; refine vs ?_; refine x_lda H st35 ?_; refine vs ?_; refine x_callb H (specReaderOk_ok w5 _ (nextE x) (H.own (.head _))) fun w6 H => ?_
    cases hok2 : readerOk (nextE x) with
    | false =>
      refine vs ?_; refine x_lda H st35 ?_; refine vs ?_; refine x_call (l16Copy_ok w6 _ _ (H.rd h) hs) fun _ w6 ⟨cs6, fp6, e, S⟩ => ?_; subst e; have H := H.join S; simp only [List.cons_append, List.nil_append] at H; obtain ⟨t0, t2, t3, rfl, _⟩ := kReader_open (H.own (.head _)); refine vs ?_; refine x_sta H st35 (h1 := Kd.one _ (H.own (.head _))) fun w7 H => vs ?_; have e1 : nextOk x = false := by unfold nextOk; rw [hok, hok2]; rfl
      have e2 : nextX x = x := by unfold nextX; rw [if_neg (by rw [e1]; decide)]
      rw [e1, e2]; exact ⟨_, _, rfl, res_cell H st35, _, _, rfl, H.only⟩
    | true =>
      refine vs ?_; refine x_lda H st35 ?_; refine vs ?_; refine x_sta H st35 (h1 := Kd.one _ (H.own (.head _))) fun w7 H => vs ?_; have e1 : nextOk x = true := by unfold nextOk; rw [hok, hok2]; rfl
      have e2 : nextX x = nextE x := by unfold nextX; rw [if_pos e1]
      rw [e1, e2]; exact ⟨_, _, rfl, res_cell H st35, _, _, rfl, H.only⟩
def noItem (x : MItem) : Bool := decide (x.f_Route = []) && decide (x.f_Topic = 0) && decide (x.f_Due = 0) && decide (x.f_Bytes.length = 0)
def wireOk (x : MWire) : Bool := if x.f_ToPost = true then itemOk x.f_Item && decide (x.f_Bytes.length = 0) else noItem x.f_Item && decide (x.f_Bytes.length ≤ 1560)
def sentOk (s : MSent) : Bool := decide (s.f_Note.length ≤ 200) && isRoute s.f_Route && decide (s.f_Bytes.length ≤ 1560) && decide (0 ≤ s.f_Epoch ∧ s.f_Epoch ≤ 40)
theorem wireOk_post {x : MWire} (h : x.f_ToPost = true) : wireOk x = (itemOk x.f_Item && decide (x.f_Bytes.length = 0)) := by unfold wireOk; rw [if_pos h]
theorem wireOk_read {x : MWire} (h : x.f_ToPost = false) : wireOk x = (noItem x.f_Item && decide (x.f_Bytes.length ≤ 1560)) := by unfold wireOk; rw [if_neg (by rw [h]; decide)]
theorem sentOk_iff {s : MSent} : sentOk s = true ↔ s.f_Note.length ≤ 200 ∧ isRoute s.f_Route = true ∧ s.f_Bytes.length ≤ 1560 ∧ (0 ≤ s.f_Epoch ∧ s.f_Epoch ≤ 40) := by
  unfold sentOk; simp only [Bool.and_eq_true, decide_eq_true_eq, and_assoc]
noncomputable def worldOk (x : MWorld) : Bool := decide (x.f_Seed.length = 32) && decide (0 ≤ x.f_Count ∧ x.f_Count ≤ 12) && decide (0 ≤ x.f_Known ∧ x.f_Known ≤ 40) && postOk x.f_Post && readerOk x.f_Reader && decide (x.f_Net.length ≤ 12) && decide ((x.f_Sent.length : Int) = x.f_Count) && x.f_Net.all wireOk && x.f_Sent.all sentOk
theorem worldOk_iff {x : MWorld} : worldOk x = true ↔ x.f_Seed.length = 32 ∧ (0 ≤ x.f_Count ∧ x.f_Count ≤ 12) ∧ (0 ≤ x.f_Known ∧ x.f_Known ≤ 40) ∧ postOk x.f_Post = true ∧ readerOk x.f_Reader = true ∧ x.f_Net.length ≤ 12 ∧ (x.f_Sent.length : Int) = x.f_Count ∧ x.f_Net.all wireOk = true ∧ x.f_Sent.all sentOk = true := by
  unfold worldOk; simp only [Bool.and_eq_true, decide_eq_true_eq, and_assoc]
theorem worldOk_no {x : MWorld} (h : ¬ (x.f_Seed.length = 32 ∧ (0 ≤ x.f_Count ∧ x.f_Count ≤ 12) ∧ (0 ≤ x.f_Known ∧ x.f_Known ≤ 40) ∧ postOk x.f_Post = true ∧ readerOk x.f_Reader = true ∧ x.f_Net.length ≤ 12 ∧ (x.f_Sent.length : Int) = x.f_Count ∧ x.f_Net.all wireOk = true ∧ x.f_Sent.all sentOk = true)) : worldOk x = false := by
  rw [Bool.eq_false_iff]; exact fun hs => h (worldOk_iff.1 hs)
abbrev wires : Kd (List MWire) := Kd.slice 64 kWire
abbrev sents : Kd (List MSent) := Kd.slice 66 kSent
abbrev wC (c k : Int) (p : MPost) (r : MReader) (v0 p0 p2 q0 q2 q3 n s : Value) : List Value := [v0, .int .i64 c, .int .i64 k, p0, .int .i64 p.f_Time, p2, .int .i64 p.f_Sure, q0, .int .i64 r.f_Epoch, q2, q3, n, s]
abbrev wX (x : MWorld) : Value → Value → Value → Value → Value → Value → Value → Value → List Value := wC x.f_Count x.f_Known x.f_Post x.f_Reader
abbrev wB (g : Nat) (cs : List Value) : Ck := Ck.box g cs 39
abbrev pC (p : MPost) (a b : Value) : List Value := [a, .int .i64 p.f_Time, b, .int .i64 p.f_Sure]
abbrev rC (r : MReader) (a b c : Value) : List Value := [a, .int .i64 r.f_Epoch, b, c]
abbrev iC (x : MItem) (v : Value) : List Value := [.string ⟨(x.f_Route).toArray⟩, .int .i64 x.f_Topic, .int .i64 x.f_Due, v]
abbrev tC (x : MWire) (v u : Value) : List Value := [.bool x.f_ToPost, .string ⟨(x.f_Item.f_Route).toArray⟩, .int .i64 x.f_Item.f_Topic, .int .i64 x.f_Item.f_Due, v, u]
abbrev dC (k a b : Int) (v : Value) : List Value := [.int .i64 k, .int .i64 a, .int .i64 b, v]
abbrev oB (f : List Nat) (v : Value) (l : List UInt8) : Ck := Ck.own (bytes 5) f [v] l
abbrev oP (f : List Nat) (p : MPost) (a b : Value) : Ck := Ck.own kPost f (pC p a b) p
abbrev oR (f : List Nat) (r : MReader) (a b c : Value) : Ck := Ck.own kReader f (rC r a b c) r
abbrev oI (f : List Nat) (x : MItem) (v : Value) : Ck := Ck.own kItem f (iC x v) x
abbrev oN (f : List Nat) (v : Value) (l : List MWire) : Ck := Ck.own wires f [v] l
abbrev oS (f : List Nat) (v : Value) (l : List MSent) : Ck := Ck.own sents f [v] l
abbrev zW : List Value := [.slice none 0 0, .int .i64 0, .int .i64 0, .slice none 0 0, .int .i64 0, .slice none 0 0, .int .i64 0, .slice none 0 0, .int .i64 0, .slice none 0 0, .slice none 0 0, .slice none 0 0, .slice none 0 0]
end Go.Proofs.YtcmckbgiiclomabGreatDoor.V
