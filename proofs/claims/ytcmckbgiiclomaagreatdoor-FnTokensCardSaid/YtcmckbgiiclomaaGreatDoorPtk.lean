/- What is issued is known again, and nothing that is longer or shorter by one. -/
import Derived.Test.YtcmckbgiiclomaaGreatDoorWton
import Derived.Test.YtcmckbgiiclomaaGreatDoorPtv
namespace Go.Proofs.YtcmckbgiiclomaaGreatDoor.V
open Go Go.RowKit
set_option maxRecDepth 100000
set_option maxHeartbeats 2000000
set_option linter.unusedSimpArgs false
set_option linter.unusedVariables false

theorem sixes_free (a : List UInt8) : ∀ c ∈ sixes a, ¬ c = 46 := by
  intro c hc e
  have := sixes_sign a c hc
  subst e
  revert this
  decide
theorem pairs_all : ∀ (s : List UInt8), s.length % 2 = 0 → (pairs s).all pairOk = true → ∀ c ∈ s, 0 ≤ hx c
  | [], _, _, c, hc => absurd hc (by simp)
  | [_], h, _, _, _ => absurd h (by simp)
  | a :: b :: l, h, hp, c, hc => by
    simp only [pairs, List.all_cons, Bool.and_eq_true, pairOk, decide_eq_true_eq] at hp
    simp only [List.length_cons] at h
    rcases List.mem_cons.1 hc with rfl | hc
    · exact hp.1.1
    rcases List.mem_cons.1 hc with rfl | hc
    · exact hp.1.2
    exact pairs_all l (by omega) hp.2 c hc
theorem route_free {s : List UInt8} (h : isRoute s = true) : ∀ c ∈ s, ¬ c = 46 := by
  intro c hc e
  unfold isRoute unhexOk at h
  simp only [Bool.and_eq_true, decide_eq_true_eq] at h
  have := pairs_all s h.1.1 h.1.2 c hc
  subst e
  revert this
  decide
theorem digs_free {n : Int} (h : 0 ≤ n) : ∀ c ∈ Go.Lib.itoa n, ¬ c = 46 := by
  intro c hc e
  have := List.all_eq_true.1 (itoa_dig h).1 c hc
  subst e
  revert this
  decide
theorem tokenText_ne {x : MToken} (h : tokenText x ≠ []) : isRoute x.f_Route = true ∧ (0 ≤ x.f_Until ∧ x.f_Until ≤ 100000) := by
  cases h1 : isRoute x.f_Route with
  | false => exact absurd (tokenText_1 h1) h
  | true =>
    by_cases h2 : 0 ≤ x.f_Until ∧ x.f_Until ≤ 100000
    · exact ⟨rfl, h2⟩
    · exact absurd (tokenText_2 h2) h
theorem issue_parts {k : List UInt8} {x : MToken} (h : ¬ issue k x = []) : isRoute x.f_Route = true ∧ (0 ≤ x.f_Until ∧ x.f_Until ≤ 100000) ∧ ∃ m : List UInt8, m.length = 32 ∧ issue k x = x.f_Route ++ 46 :: (Go.Lib.itoa x.f_Until ++ 46 :: sixes m) := by
  by_cases h1 : tokenText x ≠ [] ∧ k.length = 32
  · obtain ⟨h2, h3⟩ := tokenText_ne h1.1
    refine ⟨h2, h3, mac k (tokenText x), mac_len32 (by have := tokenText_len x; omega) (by omega), ?_⟩
    rw [issue_ok h1.1 h1.2]
    generalize sixes (mac k (tokenText x)) = z
    rw [tokenText_3 h2 h3]
    simp
  · exact absurd (issue_no h1) h
theorem split_three {a b c : List UInt8} (ha : ∀ z ∈ a, ¬ z = 46) (hb : ∀ z ∈ b, ¬ z = 46) (hc : ∀ z ∈ c, ¬ z = 46) : splitD (a ++ 46 :: (b ++ 46 :: c)) = [a, b, c] := by
  rw [splitD_dot _ _ ha, splitD_dot _ _ hb, splitD_end _ hc]
theorem told_three {a b c : List UInt8} (ha : ∀ z ∈ a, ¬ z = 46) (hb : ∀ z ∈ b, ¬ z = 46) (hc : ∀ z ∈ c, ¬ z = 46) {n : Int} (hn : number b = (n, true)) :
    (splitD (a ++ 46 :: (b ++ 46 :: c))).length = 3 ∧ (number (part (a ++ 46 :: (b ++ 46 :: c)) 1)).2 = true ∧ told (a ++ 46 :: (b ++ 46 :: c)) = ⟨a, n⟩ := by
  unfold told part
  rw [split_three ha hb hc]
  show [a, b, c].length = 3 ∧ (number b).2 = true ∧ (⟨a, (number b).1⟩ : MToken) = ⟨a, n⟩
  rw [hn]
  exact ⟨rfl, rfl, rfl⟩
/-- What is issued is known again. -/
theorem tokenOf_issue {k : List UInt8} {x : MToken} (h : ¬ issue k x = []) : tokenOf k (issue k x) = (x, true) := by
  obtain ⟨h1, h2, m, hm, e⟩ := issue_parts h
  have hn : number (Go.Lib.itoa x.f_Until) = (x.f_Until, true) := number_itoa ⟨h2.1, by omega⟩ rfl (itoa_len6 ⟨h2.1, by omega⟩)
  obtain ⟨t1, t2, t3⟩ := told_three (route_free h1) (digs_free h2.1) (sixes_free m) hn
  rw [← e] at t1 t2 t3
  rw [tokenOf_yes ⟨t1, t2, by rw [t3]⟩, t3]
theorem tokenOf_else {k : List UInt8} {x : MToken} {c : List UInt8} (h1 : isRoute x.f_Route = true) (h2 : 0 ≤ x.f_Until ∧ x.f_Until ≤ 100000) (hc : ∀ z ∈ c, ¬ z = 46) (hne : ¬ issue k x = x.f_Route ++ 46 :: (Go.Lib.itoa x.f_Until ++ 46 :: c)) :
    (tokenOf k (x.f_Route ++ 46 :: (Go.Lib.itoa x.f_Until ++ 46 :: c))).2 = false := by
  have hn : number (Go.Lib.itoa x.f_Until) = (x.f_Until, true) := number_itoa ⟨h2.1, by omega⟩ rfl (itoa_len6 ⟨h2.1, by omega⟩)
  obtain ⟨t1, t2, t3⟩ := told_three (route_free h1) (digs_free h2.1) hc hn
  rw [tokenOf_no]
  rintro ⟨_, _, e⟩
  rw [t3] at e
  exact hne e
theorem tokenOf_more {k : List UInt8} {x : MToken} (h : ¬ issue k x = []) : (tokenOf k (issue k x ++ [65])).2 = false := by
  obtain ⟨h1, h2, m, hm, e⟩ := issue_parts h
  have e2 : issue k x ++ [65] = x.f_Route ++ 46 :: (Go.Lib.itoa x.f_Until ++ 46 :: (sixes m ++ [65])) := by rw [e]; simp
  rw [e2]
  refine tokenOf_else h1 h2 (fun z hz => ?_) ?_
  · rcases List.mem_append.1 hz with hz | hz
    · exact sixes_free m z hz
    · rw [List.mem_singleton.1 hz]; decide
  · rw [← e2]
    intro he
    have := congrArg List.length he
    simp at this
theorem tokenOf_cut {k : List UInt8} {x : MToken} (h : ¬ issue k x = []) : (tokenOf k ((issue k x).take ((issue k x).length - 1))).2 = false := by
  obtain ⟨h1, h2, m, hm, e⟩ := issue_parts h
  have h6 := sixes_six m
  rw [hm] at h6
  have hp : 0 < (issue k x).length := List.length_pos_iff.2 h
  have e2 : (issue k x).take ((issue k x).length - 1) = x.f_Route ++ 46 :: (Go.Lib.itoa x.f_Until ++ 46 :: ((sixes m).take 42)) := by
    rw [e]
    have e3 : x.f_Route ++ 46 :: (Go.Lib.itoa x.f_Until ++ 46 :: sixes m) = (x.f_Route ++ 46 :: (Go.Lib.itoa x.f_Until ++ [46])) ++ sixes m := by simp
    have e4 : x.f_Route ++ 46 :: (Go.Lib.itoa x.f_Until ++ 46 :: ((sixes m).take 42)) = (x.f_Route ++ 46 :: (Go.Lib.itoa x.f_Until ++ [46])) ++ (sixes m).take 42 := by simp
    rw [e3, e4, List.length_append, h6, show ∀ q : Nat, q + (8 * 32 + 5) / 6 - 1 = q + 42 by omega, List.take_length_add_append]
  rw [e2]
  refine tokenOf_else h1 h2 (fun z hz => sixes_free m z (List.mem_of_mem_take hz)) ?_
  rw [← e2]
  intro he
  have := congrArg List.length he
  rw [List.length_take] at this
  omega
theorem tokenOf_nil (k : List UInt8) : (tokenOf k []).2 = false := by
  rw [tokenOf_no]
  rintro ⟨h, _⟩
  exact splitD_nil3 h rfl
theorem tokenOf_true {k s : List UInt8} (h : (tokenOf k s).2 = true) : issue k (tokenOf k s).1 = s := by
  by_cases h1 : (splitD s).length = 3 ∧ (number (part s 1)).2 = true ∧ issue k (told s) = s
  · rw [tokenOf_yes h1]; exact h1.2.2
  · rw [tokenOf_no h1] at h; cases h
theorem mayFetch_issue {k : List UInt8} {x : MToken} (h : ¬ issue k x = []) : mayFetch k (issue k x) x.f_Route x.f_Until = true ∧ mayFetch k (issue k x) x.f_Route (x.f_Until + 1) = false := by
  unfold mayFetch
  rw [tokenOf_issue h]
  refine ⟨by simp, ?_⟩
  simp
  omega
end Go.Proofs.YtcmckbgiiclomaaGreatDoor.V
