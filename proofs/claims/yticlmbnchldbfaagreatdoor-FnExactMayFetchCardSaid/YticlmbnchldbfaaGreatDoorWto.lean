/- Tokens known again, what may be fetched: both sides. Laid by a program. -/
import Derived.Test.YticlmbnchldbfaaGreatDoorWtn
import Derived.Test.YticlmbnchldbfaaGreatDoorVq
namespace Go.Proofs.YticlmbnchldbfaaGreatDoor.V
open Go Go.RowKit
set_option maxRecDepth 100000
set_option maxHeartbeats 4000000
set_option linter.unusedSimpArgs false
set_option linter.unusedVariables false
set_option pp.deepTerms false
set_option pp.deepTerms.threshold 3

def part (s : List UInt8) (i : Nat) : List UInt8 := (splitD s).getD i []
theorem part_eq {s : List UInt8} {i : Nat} (h : i < (splitD s).length) : (splitD s)[i] = part s i := by unfold part; rw [List.getD_eq_getElem?_getD, List.getElem?_eq_getElem h, Option.getD_some]
theorem part_len (s : List UInt8) (i : Nat) : (part s i).length ≤ s.length := by
  by_cases h : i < (splitD s).length
  · rw [← part_eq h]; exact splitD_mem _ (List.getElem_mem h)
  · unfold part; rw [List.getD_eq_getElem?_getD, List.getElem?_eq_none (by omega)]; simp
def told (s : List UInt8) : MToken := ⟨part s 0, (number (part s 1)).1⟩
def tokenOf (k s : List UInt8) : MToken × Bool := if (splitD s).length = 3 ∧ (number (part s 1)).2 = true ∧ issue k (told s) = s then (told s, true) else (zToken, false)
theorem tokenOf_no {k s : List UInt8} (h : ¬ ((splitD s).length = 3 ∧ (number (part s 1)).2 = true ∧ issue k (told s) = s)) : tokenOf k s = (zToken, false) := by unfold tokenOf; rw [if_neg h]
theorem tokenOf_yes {k s : List UInt8} (h : (splitD s).length = 3 ∧ (number (part s 1)).2 = true ∧ issue k (told s) = s) : tokenOf k s = (told s, true) := by unfold tokenOf; rw [if_pos h]
theorem tokenOf_sm {k s : List UInt8} (hs : s.length ≤ 1048576) : (tokenOf k s).1.f_Route.length ≤ 1048576 ∧ (-9223372036854775808 ≤ (tokenOf k s).1.f_Until ∧ (tokenOf k s).1.f_Until < 9223372036854775808) := by
  unfold tokenOf
  split
  · have h1 := part_len s 0
    have h2 := number_range (part s 1)
    exact ⟨by show (part s 0).length ≤ _; omega, by show _ ≤ (number (part s 1)).1 ∧ (number (part s 1)).1 < _; omega⟩
  · exact ⟨by decide, by decide⟩
theorem kToken_of {w : World} {n : Nat} (x : MToken) (h1 : x.f_Route.length ≤ 9223372036854775807) (h2 : -9223372036854775808 ≤ x.f_Until ∧ x.f_Until < 9223372036854775808) : kToken.rd w n [.string ⟨x.f_Route.toArray⟩, .int .i64 x.f_Until] x := ⟨[_], _, rfl, ⟨rfl, h1⟩, ⟨rfl, h2⟩⟩
theorem oneT {a : ByteArray} {n : Int} : ∀ v ∈ [Value.string a, .int .i64 n], v.oneCell' = true := by
  intro v hv
  simp only [List.mem_cons, List.not_mem_nil, or_false] at hv
  rcases hv with rfl | rfl <;> rfl
theorem splitD_nil3 {s : List UInt8} (h : (splitD s).length = 3) : ¬ s = [] := fun e => by subst e; simp [splitD] at h
def mayFetch (k s r : List UInt8) (now : Int) : Bool := (tokenOf k s).2 && decide ((tokenOf k s).1.f_Route = r) && decide (now ≤ (tokenOf k s).1.f_Until)
theorem implTokenOf_ok (w : World) (v : Value) (k : List UInt8) (s : List UInt8) (hk : (bytes 5).rd w w.heap.size [v] k) (hs : s.length ≤ 1048576) (ht : Libs w) :
    ACalls Tryz.prog 11 #[v, .string ⟨s.toArray⟩] w fun r w' => r = .tuple #[.agg [.string ⟨(tokenOf k s).1.f_Route.toArray⟩, .int .i64 (tokenOf k s).1.f_Until].toArray, .bool (tokenOf k s).2] ∧ Below w.heap.size w w' := by
  have hk9 := hk
  obtain ⟨Ak, ck, rfl, _⟩ := sl_open hk
  have H := Sep.start w
  refine body_of follows Tryz.func11 rfl rfl _ rfl (by kernel_rfl) (vs ?_)
  refine x_al H st25 fun g4 w1 H => vs ?_
  refine x_call (stringsSplit_ok w1 s hs (ht.below H.bel).lim) fun _ w2 ⟨⟨u, e, hu⟩, hb⟩ => ?_
  subst e
  have H := H.go hb
  have ht2 := ht.below H.bel
  have hul := sl_len hu
  obtain ⟨A, c, rfl, hc1, hc2, ha⟩ := sl_open hu
  by_cases h3 : ((splitD s).length : Int) = 3
  rotate_left
  · refine ve h3 ?_
    refine x_build bl25 [.string ⟨#[]⟩, .int .i64 0] ?_
    refine vs ?_
    refine x_sta H st25 (vs := [.string ⟨#[]⟩, .int .i64 0]) (h1 := oneT) fun wz H => vs ?_
    rw [tokenOf_no fun hh => h3 (by have := hh.1; omega)]
    exact ⟨_, _, rfl, res_cell H st25, rfl, H.bel⟩
  have h3' : (splitD s).length = 3 := by omega
  have hne := splitD_nil3 h3'
  refine ve h3 ?_
  have J := Sep.start w2
  refine x_ele J sl69 rfl 1 (by omega) ha rfl fun ad es hb1 hr hc => vs ?_
  have hr : Kd.str.rd w2 w2.heap.size es (splitD s)[1] := hr
  obtain ⟨rfl, _⟩ := hr
  refine x_load sc9 (hc 0 (by decide)) ?_
  rw [part_eq (by omega : 1 < (splitD s).length)]
  refine vs ?_
  refine x_callb J (implNumber_ok w2 (part s 1) (by have := part_len s 1; omega) ht2) fun w3 J => vs ?_
  refine x_ele J sl69 rfl 0 (by omega) ha rfl fun ad es hb1 hr hc => vs ?_
  have hr : Kd.str.rd w2 w2.heap.size es (splitD s)[0] := hr
  obtain ⟨rfl, _⟩ := hr
  refine x_load sc9 (hc 0 (by decide)) ?_
  rw [part_eq (by omega : 0 < (splitD s).length)]
  refine vs ?_
  refine x_build bl25 [.string ⟨(part s 0).toArray⟩, .int .i64 (number (part s 1)).1] ?_
  refine vs ?_
  refine x_al J st25 fun g9 w4 J => vs ?_
  refine x_sta J st25 (vs := [.string ⟨(part s 0).toArray⟩, .int .i64 (number (part s 1)).1]) (h1 := oneT) fun w5 J => vs ?_
  have hp0 := part_len s 0
  have hp1 := part_len s 1
  have hnr := number_range (part s 1)
  cases hn : (number (part s 1)).2 with
  | false =>
    refine vs ?_
    have H := H.join J
    simp only [List.cons_append, List.nil_append] at H
    refine x_build bl25 [.string ⟨#[]⟩, .int .i64 0] ?_
    refine vs ?_
    refine x_sta H st25 (vs := [.string ⟨#[]⟩, .int .i64 0]) (h1 := oneT) fun wz H => vs ?_
    rw [tokenOf_no fun hh => by have := hh.2.1; rw [hn] at this; cases this]
    exact ⟨_, _, rfl, res_cell H st25, rfl, H.bel⟩
  | true =>
    refine vs ?_
    refine x_lda J st25 ?_
    refine vs ?_
    refine x_callb J (implIssue_ok _ _ k _ (told s) (J.rd (H.rd hk9)) (kToken_of (told s) (by show (part s 0).length ≤ _; omega) (by show _ ≤ (number (part s 1)).1 ∧ (number (part s 1)).1 < _; omega)) (by show (part s 0).length ≤ _; omega) (ht2.tab.below J.bel)) fun w6 J => ?_
    have H := H.join J
    simp only [List.cons_append, List.nil_append] at H
    by_cases he : issue k (told s) = s
    rotate_left
    · refine ve he ?_
      refine x_build bl25 [.string ⟨#[]⟩, .int .i64 0] ?_
      refine vs ?_
      refine x_sta H st25 (vs := [.string ⟨#[]⟩, .int .i64 0]) (h1 := oneT) fun wz H => vs ?_
      rw [tokenOf_no fun hh => he hh.2.2]
      exact ⟨_, _, rfl, res_cell H st25, rfl, H.bel⟩
    refine ve he ?_
    refine x_lda H st25 ?_
    refine vs ?_
    refine x_sta H st25 (vs := [.string ⟨(part s 0).toArray⟩, .int .i64 (number (part s 1)).1]) (h1 := oneT) fun wz H => vs ?_
    rw [tokenOf_yes ⟨h3', hn, he⟩]
    exact ⟨_, _, rfl, res_cell H st25, rfl, H.bel⟩
theorem implMayFetch_ok (w : World) (v : Value) (k : List UInt8) (s r : List UInt8) (now : Int) (hk : (bytes 5).rd w w.heap.size [v] k) (hs : s.length ≤ 1048576) (ht : Libs w) :
    ACalls Tryz.prog 16 #[v, .string ⟨s.toArray⟩, .string ⟨r.toArray⟩, .int .i64 now] w fun b w' => b = .bool (mayFetch k s r now) ∧ Below w.heap.size w w' := by
  have hk9 := hk
  obtain ⟨Ak, ck, rfl, _⟩ := sl_open hk
  have H := Sep.start w
  refine body_of follows Tryz.func16 rfl rfl _ rfl (by kernel_rfl) (vs ?_)
  refine x_callb H (implTokenOf_ok w _ k s hk9 hs ht) fun w1 H => vs ?_
  refine x_al H st25 fun g9 w2 H => vs ?_
  refine x_sta H st25 (vs := [.string ⟨(tokenOf k s).1.f_Route.toArray⟩, .int .i64 (tokenOf k s).1.f_Until]) (h1 := oneT) fun w3 H => vs ?_
  cases ho : (tokenOf k s).2 with
  | false =>
    refine vs ?_
    have e : mayFetch k s r now = false := by unfold mayFetch; rw [ho]; rfl
    rw [e]
    first | exact ⟨rfl, H.bel⟩ | exact H.bel
  | true =>
    refine vs ?_
    refine x_ld H sc9 ?_
    by_cases hr : (tokenOf k s).1.f_Route = r
    rotate_left
    · refine ve hr ?_
      have e : mayFetch k s r now = false := by unfold mayFetch; rw [decide_eq_false hr]; simp
      rw [e]
      first | exact ⟨rfl, H.bel⟩ | exact H.bel
    have er : ((tokenOf k s).1.f_Route = r) = True := eq_true hr
    refine ve er ?_
    refine x_ld H sc3 ?_
    refine ve er ?_
    have e : mayFetch k s r now = decide (now ≤ (tokenOf k s).1.f_Until) := by unfold mayFetch; rw [ho, decide_eq_true hr]; rfl
    rw [e]
    first | exact ⟨rfl, H.bel⟩ | exact H.bel
theorem specTokenOf_ok (w : World) (v : Value) (k : List UInt8) (s : List UInt8) (hk : (bytes 5).rd w w.heap.size [v] k) (hs : s.length ≤ 1048576) (ht : Libs w) :
    ACalls Tryz.prog 12 #[v, .string ⟨s.toArray⟩] w fun r w' => r = .tuple #[.agg [.string ⟨(tokenOf k s).1.f_Route.toArray⟩, .int .i64 (tokenOf k s).1.f_Until].toArray, .bool (tokenOf k s).2] ∧ Below w.heap.size w w' := by
  have hk9 := hk
  obtain ⟨Ak, ck, rfl, _⟩ := sl_open hk
  have H := Sep.start w
  refine body_of follows Tryz.func12 rfl rfl _ rfl (by kernel_rfl) (vs ?_)
  refine x_al H st25 fun g4 w1 H => vs ?_
  refine x_call (specSplit_ok w1 s hs) fun _ w2 ⟨⟨u, e, hu⟩, hb⟩ => ?_
  subst e
  have H := H.go hb
  have ht2 := ht.below H.bel
  have hul := sl_len hu
  obtain ⟨A, c, rfl, hc1, hc2, ha⟩ := sl_open hu
  by_cases h3 : ((splitD s).length : Int) = 3
  rotate_left
  · refine ve h3 ?_
    refine x_build bl25 [.string ⟨#[]⟩, .int .i64 0] ?_
    refine vs ?_
    refine x_sta H st25 (vs := [.string ⟨#[]⟩, .int .i64 0]) (h1 := oneT) fun wz H => vs ?_
    rw [tokenOf_no fun hh => h3 (by have := hh.1; omega)]
    exact ⟨_, _, rfl, res_cell H st25, rfl, H.bel⟩
  have h3' : (splitD s).length = 3 := by omega
  have hne := splitD_nil3 h3'
  refine ve h3 ?_
  have J := Sep.start w2
  refine x_ele J sl69 rfl 1 (by omega) ha rfl fun ad es hb1 hr hc => vs ?_
  have hr : Kd.str.rd w2 w2.heap.size es (splitD s)[1] := hr
  obtain ⟨rfl, _⟩ := hr
  refine x_load sc9 (hc 0 (by decide)) ?_
  rw [part_eq (by omega : 1 < (splitD s).length)]
  refine vs ?_
  refine x_callb J (specNumber_ok w2 (part s 1) (by have := part_len s 1; omega)) fun w3 J => vs ?_
  refine x_ele J sl69 rfl 0 (by omega) ha rfl fun ad es hb1 hr hc => vs ?_
  have hr : Kd.str.rd w2 w2.heap.size es (splitD s)[0] := hr
  obtain ⟨rfl, _⟩ := hr
  refine x_load sc9 (hc 0 (by decide)) ?_
  rw [part_eq (by omega : 0 < (splitD s).length)]
  refine vs ?_
  refine x_build bl25 [.string ⟨(part s 0).toArray⟩, .int .i64 (number (part s 1)).1] ?_
  refine vs ?_
  refine x_al J st25 fun g9 w4 J => vs ?_
  refine x_sta J st25 (vs := [.string ⟨(part s 0).toArray⟩, .int .i64 (number (part s 1)).1]) (h1 := oneT) fun w5 J => vs ?_
  have hp0 := part_len s 0
  have hp1 := part_len s 1
  have hnr := number_range (part s 1)
  cases hn : (number (part s 1)).2 with
  | false =>
    refine vs ?_
    have H := H.join J
    simp only [List.cons_append, List.nil_append] at H
    refine x_build bl25 [.string ⟨#[]⟩, .int .i64 0] ?_
    refine vs ?_
    refine x_sta H st25 (vs := [.string ⟨#[]⟩, .int .i64 0]) (h1 := oneT) fun wz H => vs ?_
    rw [tokenOf_no fun hh => by have := hh.2.1; rw [hn] at this; cases this]
    exact ⟨_, _, rfl, res_cell H st25, rfl, H.bel⟩
  | true =>
    refine ve hne ?_
    refine x_lda J st25 ?_
    refine ve hne ?_
    refine x_callb J (specIssue_ok _ _ k _ (told s) (J.rd (H.rd hk9)) (kToken_of (told s) (by show (part s 0).length ≤ _; omega) (by show _ ≤ (number (part s 1)).1 ∧ (number (part s 1)).1 < _; omega)) (by show (part s 0).length ≤ _; omega) (ht2.tab.below J.bel)) fun w6 J => ?_
    have H := H.join J
    simp only [List.cons_append, List.nil_append] at H
    by_cases he : issue k (told s) = s
    rotate_left
    · refine ve (And.intro he hne) ?_
      refine x_build bl25 [.string ⟨#[]⟩, .int .i64 0] ?_
      refine vs ?_
      refine x_sta H st25 (vs := [.string ⟨#[]⟩, .int .i64 0]) (h1 := oneT) fun wz H => vs ?_
      rw [tokenOf_no fun hh => he hh.2.2]
      exact ⟨_, _, rfl, res_cell H st25, rfl, H.bel⟩
    refine ve (And.intro he hne) ?_
    refine x_lda H st25 ?_
    refine vs ?_
    refine x_sta H st25 (vs := [.string ⟨(part s 0).toArray⟩, .int .i64 (number (part s 1)).1]) (h1 := oneT) fun wz H => vs ?_
    rw [tokenOf_yes ⟨h3', hn, he⟩]
    exact ⟨_, _, rfl, res_cell H st25, rfl, H.bel⟩
theorem specMayFetch_ok (w : World) (v : Value) (k : List UInt8) (s r : List UInt8) (now : Int) (hk : (bytes 5).rd w w.heap.size [v] k) (hs : s.length ≤ 1048576) (ht : Libs w) :
    ACalls Tryz.prog 17 #[v, .string ⟨s.toArray⟩, .string ⟨r.toArray⟩, .int .i64 now] w fun b w' => b = .bool (mayFetch k s r now) ∧ Below w.heap.size w w' := by
  have hk9 := hk
  obtain ⟨Ak, ck, rfl, _⟩ := sl_open hk
  have H := Sep.start w
  refine body_of follows Tryz.func17 rfl rfl _ rfl (by kernel_rfl) (vs ?_)
  refine x_callb H (specTokenOf_ok w _ k s hk9 hs ht) fun w1 H => vs ?_
  refine x_al H st25 fun g9 w2 H => vs ?_
  refine x_sta H st25 (vs := [.string ⟨(tokenOf k s).1.f_Route.toArray⟩, .int .i64 (tokenOf k s).1.f_Until]) (h1 := oneT) fun w3 H => vs ?_
  cases ho : (tokenOf k s).2 with
  | false =>
    refine vs ?_
    have e : mayFetch k s r now = false := by unfold mayFetch; rw [ho]; rfl
    rw [e]
    first | exact ⟨rfl, H.bel⟩ | exact H.bel
  | true =>
    refine vs ?_
    refine x_ld H sc9 ?_
    by_cases hr : (tokenOf k s).1.f_Route = r
    rotate_left
    · refine ve hr ?_
      have e : mayFetch k s r now = false := by unfold mayFetch; rw [decide_eq_false hr]; simp
      rw [e]
      first | exact ⟨rfl, H.bel⟩ | exact H.bel
    have er : ((tokenOf k s).1.f_Route = r) = True := eq_true hr
    refine ve er ?_
    refine x_ld H sc3 ?_
    refine ve er ?_
    have e : mayFetch k s r now = decide (now ≤ (tokenOf k s).1.f_Until) := by unfold mayFetch; rw [ho, decide_eq_true hr]; rfl
    rw [e]
    first | exact ⟨rfl, H.bel⟩ | exact H.bel
end Go.Proofs.YticlmbnchldbfaaGreatDoor.V
