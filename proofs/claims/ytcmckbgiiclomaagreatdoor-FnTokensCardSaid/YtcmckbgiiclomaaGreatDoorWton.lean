/- Tokens issued: both sides. Laid by a program. Numbers read, tokens known again: both sides. Tokens known again, what may be fetched: both sides. Laid by a program. -/
import Derived.Test.YtcmckbgiiclomaaGreatDoorWqx
import Derived.Test.YtcmckbgiiclomaaGreatDoorWmb
import Derived.Test.YtcmckbgiiclomaaGreatDoorWb
import Derived.Test.YtcmckbgiiclomaaGreatDoorWsb
import Derived.Test.YtcmckbgiiclomaaGreatDoorWtk
import Derived.Test.YtcmckbgiiclomaaGreatDoorVq
namespace Go.Proofs.YtcmckbgiiclomaaGreatDoor.V
open Go Go.RowKit
set_option maxRecDepth 100000
set_option maxHeartbeats 2000000
set_option linter.unusedSimpArgs false
set_option linter.unusedVariables false
set_option pp.deepTerms false
set_option pp.deepTerms.threshold 3

def issue (k : List UInt8) (x : MToken) : List UInt8 := if tokenText x ≠ [] ∧ k.length = 32 then tokenText x ++ [46] ++ sixes (mac k (tokenText x)) else []
theorem issue_no {k : List UInt8} {x : MToken} (h : ¬ (tokenText x ≠ [] ∧ k.length = 32)) : issue k x = [] := by unfold issue; rw [if_neg h]
theorem issue_ok {k : List UInt8} {x : MToken} (h : tokenText x ≠ []) (h2 : k.length = 32) : issue k x = tokenText x ++ [46] ++ sixes (mac k (tokenText x)) := by unfold issue; rw [if_pos ⟨h, h2⟩]
theorem issue_len (k : List UInt8) (x : MToken) : (issue k x).length ≤ 104 := by
  unfold issue
  split
  · have h1 := tokenText_len x
    have h2 := sixes_len (mac k (tokenText x))
    have h3 := mac_len k (tokenText x)
    simp only [List.length_append, List.length_cons, List.length_nil]; omega
  · simp
theorem implIssue_ok (w : World) (v : Value) (k : List UInt8) (cs : List Value) (x : MToken) (hk : (bytes 5).rd w w.heap.size [v] k) (h : kToken.rd w w.heap.size cs x) (hs : smToken x) (ht : Tab w) :
    ACalls Tryz.prog 6 #[v, .agg cs.toArray] w fun r w' => r = .string ⟨(issue k x).toArray⟩ ∧ Below w.heap.size w w' := by
  have hk9 := hk
  have hkm := sl_len hk
  have h9 := h
  have h1 := tokenText_len x
  have h2 := sixes_len (mac k (tokenText x))
  have h3 := mac_len k (tokenText x)
  obtain ⟨A, c, rfl, _⟩ := sl_open hk
  obtain ⟨_, rfl, _⟩ := kToken_open h
  have H := Sep.start w
  refine body_of follows Tryz.func6 rfl rfl _ rfl (by kernel_rfl) (vs ?_)
  refine x_bx H [.string ⟨x.f_Route.toArray⟩, .int .i64 x.f_Until] fun g1 w1 H => vs ?_
  refine x_lda H st25 ?_
  refine vs ?_
  refine x_callb H (implTokenText_ok w1 _ x (H.rd h9) hs (ht.below H.bel)) fun w2 H => vs ?_
  generalize hT : tokenText x = T at *
  have hz : (Value.string (⟨#[]⟩ : ByteArray)) = .string ⟨([] : List UInt8).toArray⟩ := rfl
  by_cases he : T = []
  · have et := issue_no (k := k) (x := x) (fun hh => hh.1 (by rw [hT]; exact he))
    refine ve he ?_
    rw [et]
    exact ⟨rfl, H.bel⟩
  refine ve he ?_
  by_cases hl : (k.length : Int) = 32
  rotate_left
  · have et := issue_no (k := k) (x := x) (fun hh => hl (by omega))
    refine ve hl ?_
    rw [et]
    exact ⟨rfl, H.bel⟩
  have et := issue_ok (k := k) (x := x) (by rw [hT]; exact he) (by omega)
  rw [hT] at et
  refine ve hl ?_
  refine x_sadd (a := T) (b := [46]) (by simp only [List.length_cons, List.length_nil]; omega) ?_
  refine vs ?_
  refine x_sbytes Tryz.underlying9 Tryz.underlying22 Tryz.underlying5 H (by omega) fun v3 w3 H hv3 => vs ?_
  refine x_callf H (implMac_ok w3 _ k _ T (H.rd hk9) hv3) fun r4 f4 w4 H => vs ?_
  refine x_callb H (implSixes_ok w4 _ (mac k T) (H.own (.head _)) (by omega)) fun w5 H => vs ?_
  refine x_sadd (a := T ++ [46]) (b := sixes (mac k T)) (by simp only [List.length_append, List.length_cons, List.length_nil]; omega) ?_
  refine vs ?_
  rw [et]
  exact ⟨rfl, H.bel⟩
theorem specIssue_ok (w : World) (v : Value) (k : List UInt8) (cs : List Value) (x : MToken) (hk : (bytes 5).rd w w.heap.size [v] k) (h : kToken.rd w w.heap.size cs x) (hs : smToken x) (ht : Tab w) :
    ACalls Tryz.prog 12 #[v, .agg cs.toArray] w fun r w' => r = .string ⟨(issue k x).toArray⟩ ∧ Below w.heap.size w w' := by
  have hk9 := hk
  have hkm := sl_len hk
  have h9 := h
  have h1 := tokenText_len x
  have h2 := sixes_len (mac k (tokenText x))
  have h3 := mac_len k (tokenText x)
  obtain ⟨A, c, rfl, _⟩ := sl_open hk
  obtain ⟨_, rfl, _⟩ := kToken_open h
  have H := Sep.start w
  refine body_of follows Tryz.func12 rfl rfl _ rfl (by kernel_rfl) (vs ?_)
  refine x_bx H [.string ⟨x.f_Route.toArray⟩, .int .i64 x.f_Until] fun g1 w1 H => vs ?_
  refine x_lda H st25 ?_
  refine vs ?_
  refine x_callb H (specTokenText_ok w1 _ x (H.rd h9) hs (ht.below H.bel)) fun w2 H => vs ?_
  generalize hT : tokenText x = T at *
  have hz : (Value.string (⟨#[]⟩ : ByteArray)) = .string ⟨([] : List UInt8).toArray⟩ := rfl
  by_cases he : T = []
  · have et := issue_no (k := k) (x := x) (fun hh => hh.1 (by rw [hT]; exact he))
    refine ve he ?_
    rw [et]
    exact ⟨rfl, H.bel⟩
  refine ve he ?_
  by_cases hl : (k.length : Int) = 32
  rotate_left
  · have et := issue_no (k := k) (x := x) (fun hh => hl (by omega))
    refine ve hl ?_
    rw [et]
    exact ⟨rfl, H.bel⟩
  have et := issue_ok (k := k) (x := x) (by rw [hT]; exact he) (by omega)
  rw [hT] at et
  refine ve hl ?_
  refine x_sadd (a := T) (b := [46]) (by simp only [List.length_cons, List.length_nil]; omega) ?_
  refine vs ?_
  refine x_sbytes Tryz.underlying9 Tryz.underlying22 Tryz.underlying5 H (by omega) fun v3 w3 H hv3 => vs ?_
  refine x_callf H (specMac_ok w3 _ k _ T (H.rd hk9) hv3) fun r4 f4 w4 H => vs ?_
  refine x_callb H (specSixes_ok w4 _ (mac k T) (H.own (.head _)) (by omega)) fun w5 H => vs ?_
  refine x_sadd (a := T ++ [46]) (b := sixes (mac k T)) (by simp only [List.length_append, List.length_cons, List.length_nil]; omega) ?_
  refine vs ?_
  rw [et]
  exact ⟨rfl, H.bel⟩

section
variable {P : Program} {w : World} {K : Value → World → Prop} {tg : Tg K} {t : TypeId} {x : Operand} {c : Value}
theorem x_held {u : TypeId} {v : Value} (h : P.underlying t = some (.interface (P.methodsAt t))) (hk : K (.bool true) w) : Bin P K tg .neq t x (.const c) (.iface u v) .nilIface w := by
  unfold Bin
  refine vS_run (v := .bool true) ?_ hk
  rw [eqGuard_at_iface]
  simp [run_neq_held_nil w t u v h]
theorem x_nilI (h : P.underlying t = some (.interface (P.methodsAt t))) (hk : K (.bool false) w) : Bin P K tg .neq t x (.const c) .nilIface .nilIface w := by
  unfold Bin
  refine vS_run (v := .bool false) ?_ hk
  rw [eqGuard_nil_constR]
  simp [run_neq_nil_nil w t h]
end
theorem strB {a b : List UInt8} : ((⟨a.toArray⟩ : ByteArray) = ⟨b.toArray⟩) = (a = b) := propext ⟨fun h => by
  have := congrArg (fun b : ByteArray => b.data.toList) h
  simpa using this, fun h => by rw [h]⟩
theorem implNumber_ok (w : World) (s : List UInt8) (hs : s.length ≤ 1048576) (ht : Libs w) :
    ACalls Tryz.prog 24 #[.string ⟨s.toArray⟩] w fun r w' => r = .tuple #[.int .i64 (number s).1, .bool (number s).2] ∧ Below w.heap.size w w' := by
  have H := Sep.start w
  refine body_of follows Tryz.func24 rfl rfl _ rfl (by kernel_rfl) (vs ?_)
  refine x_call (atoi_ok w s hs ht) fun _ w1 ⟨hr, hb⟩ => ?_
  have H := H.go hb
  rcases hr with ⟨v, hv, rfl⟩ | ⟨hv, v, t, p, rfl⟩
  · have en := number_ok hv
    have hrg := Lib.atoiAll_bounds hv
    refine vs ?_
    refine x_nilI (by kernel_rfl) ?_
    refine vs ?_
    refine x_callw (in_ok w1 _ _ _) ?_
    by_cases hc : 0 ≤ v ∧ v ≤ 999999
    rotate_left
    · refine ve hc ?_
      rw [en, if_neg fun hh => hc ⟨hh.1, hh.2.1⟩]
      exact ⟨rfl, H.bel⟩
    refine ve hc ?_
    refine x_callb H (implDigits_ok w1 v (by omega) (ht.tab.below H.bel)) fun w2 H => ?_
    by_cases he : Lib.itoa v = s
    rotate_left
    · refine ve (And.intro he hc) ?_
      rw [en, if_neg fun hh => he hh.2.2]
      exact ⟨rfl, H.bel⟩
    refine ve (And.intro he hc) ?_
    rw [en, if_pos ⟨hc.1, hc.2, he⟩]
    exact ⟨rfl, H.bel⟩
  · have en := number_bad hv
    refine vs ?_
    refine x_held (by kernel_rfl) ?_
    refine vs ?_
    rw [en]
    exact ⟨rfl, H.bel⟩
theorem decV_take {s : List UInt8} {k : Nat} (hk : k < s.length) : decV 0 (s.take (k + 1)) = dstep (decV 0 (s.take k)) s[k] := by
  rw [List.take_succ_eq_append_getElem hk, decV_app]; rfl
theorem decV_lo {s : List UInt8} {k : Nat} (h : (s.take k).all isDig = true) (hk : k ≤ 6) : decV 0 (s.take k) ≤ 999999 := by
  have h1 := decV_lt (s.take k) 0 0 h (by decide)
  have h2 : 0 + (s.take k).length ≤ 6 := by rw [List.length_take]; omega
  have h3 : 10 ^ (0 + (s.take k).length) ≤ 10 ^ 6 := Nat.pow_le_pow_right (by decide) h2
  have h4 : (10 : Nat) ^ 6 = 1000000 := by decide
  omega
theorem dig_step {a : Nat} {c : UInt8} (ha : a ≤ 999999) (hc : 48 ≤ c.toNat ∧ c.toNat ≤ 57) : w64 (w64 (w64 (10 * (a : Int)) + (c.toNat : Int)) - 48) = ((dstep a c : Nat) : Int) := by
  unfold dstep w64; omega
theorem specNumber_ok (w : World) (s : List UInt8) (hs : s.length ≤ 1048576) :
    ACalls Tryz.prog 26 #[.string ⟨s.toArray⟩] w fun r w' => r = .tuple #[.int .i64 (number s).1, .bool (number s).2] ∧ Below w.heap.size w w' := by
  have H := Sep.start w
  refine body_of follows Tryz.func26 rfl rfl _ rfl (by kernel_rfl) (vs ?_)
  by_cases h1 : (s.length : Int) < 1
  · refine ve h1 ?_
    rw [number_no fun hh => by omega]
    exact ⟨rfl, H.bel⟩
  by_cases h6 : (6 : Int) < (s.length : Int)
  · refine ve (And.intro h1 h6) ?_
    rw [number_no fun hh => by omega]
    exact ⟨rfl, H.bel⟩
  refine ve (And.intro h1 h6) ?_
  refine loop_at (σ := Nat × Nat) (fun y => [(0, .string ⟨s.toArray⟩), (4, .int .i64 (y.2 : Int)), (5, .int .i64 (y.1 : Int))])
    (fun y w' => y.1 ≤ s.length ∧ y.2 = decV 0 (s.take y.1) ∧ (s.take y.1).all isDig = true ∧ Sep w.heap.size w w' []) (fun y => s.length - y.1) (0, 0) (vs trivial) ⟨Nat.zero_le _, rfl, rfl, H⟩ ?_
  rintro ⟨k, a⟩ s2 w2 ⟨hk, ha, hd, H⟩
  dsimp only at hk ha hd H
  subst ha
  refine vs (ways ?_ ?_)
  · refine vh fun hlt => ?_
    have hk2 : k < s.length := by omega
    have bad : ¬ (48 ≤ s[k].toNat ∧ s[k].toNat ≤ 57) → number s = (0, false) := fun hb => number_no fun hh => hb (by
      have := List.all_eq_true.1 hh.1 _ (List.getElem_mem hk2)
      unfold isDig at this
      exact of_decide_eq_true this)
    refine x_sidx Tryz.underlying9 (Int.natCast_nonneg _) (by omega) ?_
    rw [Int.toNat_natCast, sidx_lo hk2]
    by_cases hb : (s[k].toNat : Int) < 48
    · refine ve hb ?_
      rw [bad (by omega)]
      exact ⟨rfl, H.bel⟩
    refine ve hb ?_
    refine x_sidx Tryz.underlying9 (Int.natCast_nonneg _) (by omega) ?_
    rw [Int.toNat_natCast, sidx_lo hk2]
    by_cases hc : (57 : Int) < (s[k].toNat : Int)
    · refine ve (And.intro hb hc) ?_
      rw [bad (by omega)]
      exact ⟨rfl, H.bel⟩
    refine ve (And.intro hb hc) ?_
    refine x_sidx Tryz.underlying9 (Int.natCast_nonneg _) (by omega) ?_
    rw [Int.toNat_natCast, sidx_lo hk2]
    refine vs ?_
    have hlo := decV_lo hd (by omega)
    have hst := dig_step (a := decV 0 (s.take k)) (c := s[k]) hlo ⟨by omega, by omega⟩
    refine ⟨(k + 1, dstep (decV 0 (s.take k)) s[k]), ⟨i64_eq hst, i64_eq (w64_s (by omega : k ≤ 6) (by omega))⟩, ⟨hk2, (decV_take hk2).symm, ?_, H⟩, by dsimp only; omega⟩
    · rw [List.take_succ_eq_append_getElem hk2, List.all_append, hd]
      simp only [List.all_cons, List.all_nil, Bool.and_true, Bool.true_and]
      unfold isDig
      exact decide_eq_true ⟨by omega, by omega⟩
  · refine vh fun hlt => ?_
    obtain rfl : k = s.length := by omega
    have hlo := decV_lo hd (by omega)
    rw [List.take_length] at hd hlo ⊢
    refine x_callb H (specDigits_ok w2 ((decV 0 s : Nat) : Int) (by omega)) fun w3 H => ?_
    by_cases he : Lib.itoa ((decV 0 s : Nat) : Int) = s
    rotate_left
    · refine ve he ?_
      rw [number_no fun hh => he hh.2.2.2]
      exact ⟨rfl, H.bel⟩
    refine ve he ?_
    rw [number_yes ⟨hd, by omega, by omega, he⟩]
    exact ⟨rfl, H.bel⟩

def part (s : List UInt8) (i : Nat) : List UInt8 := (splitD s).getD i []
theorem part_eq {s : List UInt8} {i : Nat} (h : i < (splitD s).length) : (splitD s)[i] = part s i := by unfold part; rw [List.getD_eq_getElem?_getD, List.getElem?_eq_getElem h, Option.getD_some]
theorem part_len (s : List UInt8) (i : Nat) : (part s i).length ≤ s.length := by
  by_cases h : i < (splitD s).length
  · rw [← part_eq h]; exact splitD_mem _ (List.getElem_mem h)
  · unfold part; rw [List.getD_eq_getElem?_getD, List.getElem?_eq_none (by omega)]; simp
def told (s : List UInt8) : MToken := ⟨part s 0, (number (part s 1)).1⟩
def tokenOf (k s : List UInt8) : MToken × Bool := if (splitD s).length = 3 ∧ (number (part s 1)).2 = true ∧ issue k (told s) = s then (told s, true) else (zToken, false)
theorem tokenOf_no {k s : List UInt8} (h : ¬ ((splitD s).length = 3 ∧ (number (part s 1)).2 = true ∧ issue k (told s) = s)) : tokenOf k s = (zToken, false) := by unfold tokenOf; rw [if_neg h]
theorem tokenOf_yes {k s : List UInt8} (h : (splitD s).length = 3 ∧ (number (part s 1)).2 = true ∧ issue k (told s) = s) : tokenOf k s = (told s, true) := by unfold tokenOf; rw [if_pos h]
theorem tokenOf_sm {k s : List UInt8} (hs : s.length ≤ 1048576) : (tokenOf k s).1.f_Route.length ≤ 1048576 ∧ (-9223372036854775808 ≤ (tokenOf k s).1.f_Until ∧ (tokenOf k s).1.f_Until < 9223372036854775808) := by
  unfold tokenOf
  split
  · have h1 := part_len s 0
    have h2 := number_range (part s 1)
    exact ⟨by show (part s 0).length ≤ _; omega, by show _ ≤ (number (part s 1)).1 ∧ (number (part s 1)).1 < _; omega⟩
  · exact ⟨by decide, by decide⟩
theorem kToken_of {w : World} {n : Nat} (x : MToken) (h1 : x.f_Route.length ≤ 9223372036854775807) (h2 : -9223372036854775808 ≤ x.f_Until ∧ x.f_Until < 9223372036854775808) : kToken.rd w n [.string ⟨x.f_Route.toArray⟩, .int .i64 x.f_Until] x := ⟨[_], _, rfl, ⟨rfl, h1⟩, ⟨rfl, h2⟩⟩
theorem oneT {a : ByteArray} {n : Int} : ∀ v ∈ [Value.string a, .int .i64 n], v.oneCell' = true := by
  intro v hv
  simp only [List.mem_cons, List.not_mem_nil, or_false] at hv
  rcases hv with rfl | rfl <;> rfl
theorem splitD_nil3 {s : List UInt8} (h : (splitD s).length = 3) : ¬ s = [] := fun e => by subst e; simp [splitD] at h
def mayFetch (k s r : List UInt8) (now : Int) : Bool := (tokenOf k s).2 && decide ((tokenOf k s).1.f_Route = r) && decide (now ≤ (tokenOf k s).1.f_Until)
theorem implTokenOf_ok (w : World) (v : Value) (k : List UInt8) (s : List UInt8) (hk : (bytes 5).rd w w.heap.size [v] k) (hs : s.length ≤ 1048576) (ht : Libs w) :
    ACalls Tryz.prog 8 #[v, .string ⟨s.toArray⟩] w fun r w' => r = .tuple #[.agg [.string ⟨(tokenOf k s).1.f_Route.toArray⟩, .int .i64 (tokenOf k s).1.f_Until].toArray, .bool (tokenOf k s).2] ∧ Below w.heap.size w w' := by
  have hk9 := hk
  obtain ⟨Ak, ck, rfl, _⟩ := sl_open hk
  have H := Sep.start w
  refine body_of follows Tryz.func8 rfl rfl _ rfl (by kernel_rfl) (vs ?_)
  refine x_al H st25 fun g4 w1 H => vs ?_
  refine x_call (stringsSplit_ok w1 s hs (ht.below H.bel).lim) fun _ w2 ⟨⟨u, e, hu⟩, hb⟩ => ?_
  subst e
  have H := H.go hb
  have ht2 := ht.below H.bel
  have hul := sl_len hu
  obtain ⟨A, c, rfl, hc1, hc2, ha⟩ := sl_open hu
  by_cases h3 : ((splitD s).length : Int) = 3
  rotate_left
  · refine ve h3 ?_
    refine x_build bl25 [.string ⟨#[]⟩, .int .i64 0] ?_
    refine vs ?_
    refine x_sta H st25 (vs := [.string ⟨#[]⟩, .int .i64 0]) (h1 := oneT) fun wz H => vs ?_
    rw [tokenOf_no fun hh => h3 (by have := hh.1; omega)]
    exact ⟨_, _, rfl, res_cell H st25, rfl, H.bel⟩
  have h3' : (splitD s).length = 3 := by omega
  have hne := splitD_nil3 h3'
  refine ve h3 ?_
  have J := Sep.start w2
  refine x_ele J sl45 rfl 1 (by omega) ha rfl fun ad es hb1 hr hc => vs ?_
  have hr : Kd.str.rd w2 w2.heap.size es (splitD s)[1] := hr
  obtain ⟨rfl, _⟩ := hr
  refine x_load sc9 (hc 0 (by decide)) ?_
  rw [part_eq (by omega : 1 < (splitD s).length)]
  refine vs ?_
  refine x_callb J (implNumber_ok w2 (part s 1) (by have := part_len s 1; omega) ht2) fun w3 J => vs ?_
  refine x_ele J sl45 rfl 0 (by omega) ha rfl fun ad es hb1 hr hc => vs ?_
  have hr : Kd.str.rd w2 w2.heap.size es (splitD s)[0] := hr
  obtain ⟨rfl, _⟩ := hr
  refine x_load sc9 (hc 0 (by decide)) ?_
  rw [part_eq (by omega : 0 < (splitD s).length)]
  refine vs ?_
  refine x_build bl25 [.string ⟨(part s 0).toArray⟩, .int .i64 (number (part s 1)).1] ?_
  refine vs ?_
  refine x_al J st25 fun g9 w4 J => vs ?_
  refine x_sta J st25 (vs := [.string ⟨(part s 0).toArray⟩, .int .i64 (number (part s 1)).1]) (h1 := oneT) fun w5 J => vs ?_
  have hp0 := part_len s 0
  have hp1 := part_len s 1
  have hnr := number_range (part s 1)
  cases hn : (number (part s 1)).2 with
  | false =>
    refine vs ?_
    have H := H.join J
    simp only [List.cons_append, List.nil_append] at H
    refine x_build bl25 [.string ⟨#[]⟩, .int .i64 0] ?_
    refine vs ?_
    refine x_sta H st25 (vs := [.string ⟨#[]⟩, .int .i64 0]) (h1 := oneT) fun wz H => vs ?_
    rw [tokenOf_no fun hh => by have := hh.2.1; rw [hn] at this; cases this]
    exact ⟨_, _, rfl, res_cell H st25, rfl, H.bel⟩
  | true =>
    refine vs ?_
    refine x_lda J st25 ?_
    refine vs ?_
    refine x_callb J (implIssue_ok _ _ k _ (told s) (J.rd (H.rd hk9)) (kToken_of (told s) (by show (part s 0).length ≤ _; omega) (by show _ ≤ (number (part s 1)).1 ∧ (number (part s 1)).1 < _; omega)) (by show (part s 0).length ≤ _; omega) (ht2.tab.below J.bel)) fun w6 J => ?_
    have H := H.join J
    simp only [List.cons_append, List.nil_append] at H
    by_cases he : issue k (told s) = s
    rotate_left
    · refine ve he ?_
      refine x_build bl25 [.string ⟨#[]⟩, .int .i64 0] ?_
      refine vs ?_
      refine x_sta H st25 (vs := [.string ⟨#[]⟩, .int .i64 0]) (h1 := oneT) fun wz H => vs ?_
      rw [tokenOf_no fun hh => he hh.2.2]
      exact ⟨_, _, rfl, res_cell H st25, rfl, H.bel⟩
    refine ve he ?_
    refine x_lda H st25 ?_
    refine vs ?_
    refine x_sta H st25 (vs := [.string ⟨(part s 0).toArray⟩, .int .i64 (number (part s 1)).1]) (h1 := oneT) fun wz H => vs ?_
    rw [tokenOf_yes ⟨h3', hn, he⟩]
    exact ⟨_, _, rfl, res_cell H st25, rfl, H.bel⟩
theorem implMayFetch_ok (w : World) (v : Value) (k : List UInt8) (s r : List UInt8) (now : Int) (hk : (bytes 5).rd w w.heap.size [v] k) (hs : s.length ≤ 1048576) (ht : Libs w) :
    ACalls Tryz.prog 13 #[v, .string ⟨s.toArray⟩, .string ⟨r.toArray⟩, .int .i64 now] w fun b w' => b = .bool (mayFetch k s r now) ∧ Below w.heap.size w w' := by
  have hk9 := hk
  obtain ⟨Ak, ck, rfl, _⟩ := sl_open hk
  have H := Sep.start w
  refine body_of follows Tryz.func13 rfl rfl _ rfl (by kernel_rfl) (vs ?_)
  refine x_callb H (implTokenOf_ok w _ k s hk9 hs ht) fun w1 H => vs ?_
  refine x_al H st25 fun g9 w2 H => vs ?_
  refine x_sta H st25 (vs := [.string ⟨(tokenOf k s).1.f_Route.toArray⟩, .int .i64 (tokenOf k s).1.f_Until]) (h1 := oneT) fun w3 H => vs ?_
  cases ho : (tokenOf k s).2 with
  | false =>
    refine vs ?_
    have e : mayFetch k s r now = false := by unfold mayFetch; rw [ho]; rfl
    rw [e]
    first | exact ⟨rfl, H.bel⟩ | exact H.bel
  | true =>
    refine vs ?_
    refine x_ld H sc9 ?_
    by_cases hr : (tokenOf k s).1.f_Route = r
    rotate_left
    · refine ve hr ?_
      have e : mayFetch k s r now = false := by unfold mayFetch; rw [decide_eq_false hr]; simp
      rw [e]
      first | exact ⟨rfl, H.bel⟩ | exact H.bel
    have er : ((tokenOf k s).1.f_Route = r) = True := eq_true hr
    refine ve er ?_
    refine x_ld H sc3 ?_
    refine ve er ?_
    have e : mayFetch k s r now = decide (now ≤ (tokenOf k s).1.f_Until) := by unfold mayFetch; rw [ho, decide_eq_true hr]; rfl
    rw [e]
    first | exact ⟨rfl, H.bel⟩ | exact H.bel
theorem specTokenOf_ok (w : World) (v : Value) (k : List UInt8) (s : List UInt8) (hk : (bytes 5).rd w w.heap.size [v] k) (hs : s.length ≤ 1048576) (ht : Libs w) :
    ACalls Tryz.prog 9 #[v, .string ⟨s.toArray⟩] w fun r w' => r = .tuple #[.agg [.string ⟨(tokenOf k s).1.f_Route.toArray⟩, .int .i64 (tokenOf k s).1.f_Until].toArray, .bool (tokenOf k s).2] ∧ Below w.heap.size w w' := by
  have hk9 := hk
  obtain ⟨Ak, ck, rfl, _⟩ := sl_open hk
  have H := Sep.start w
  refine body_of follows Tryz.func9 rfl rfl _ rfl (by kernel_rfl) (vs ?_)
  refine x_al H st25 fun g4 w1 H => vs ?_
  refine x_call (specSplit_ok w1 s hs) fun _ w2 ⟨⟨u, e, hu⟩, hb⟩ => ?_
  subst e
  have H := H.go hb
  have ht2 := ht.below H.bel
  have hul := sl_len hu
  obtain ⟨A, c, rfl, hc1, hc2, ha⟩ := sl_open hu
  by_cases h3 : ((splitD s).length : Int) = 3
  rotate_left
  · refine ve h3 ?_
    refine x_build bl25 [.string ⟨#[]⟩, .int .i64 0] ?_
    refine vs ?_
    refine x_sta H st25 (vs := [.string ⟨#[]⟩, .int .i64 0]) (h1 := oneT) fun wz H => vs ?_
    rw [tokenOf_no fun hh => h3 (by have := hh.1; omega)]
    exact ⟨_, _, rfl, res_cell H st25, rfl, H.bel⟩
  have h3' : (splitD s).length = 3 := by omega
  have hne := splitD_nil3 h3'
  refine ve h3 ?_
  have J := Sep.start w2
  refine x_ele J sl45 rfl 1 (by omega) ha rfl fun ad es hb1 hr hc => vs ?_
  have hr : Kd.str.rd w2 w2.heap.size es (splitD s)[1] := hr
  obtain ⟨rfl, _⟩ := hr
  refine x_load sc9 (hc 0 (by decide)) ?_
  rw [part_eq (by omega : 1 < (splitD s).length)]
  refine vs ?_
  refine x_callb J (specNumber_ok w2 (part s 1) (by have := part_len s 1; omega)) fun w3 J => vs ?_
  refine x_ele J sl45 rfl 0 (by omega) ha rfl fun ad es hb1 hr hc => vs ?_
  have hr : Kd.str.rd w2 w2.heap.size es (splitD s)[0] := hr
  obtain ⟨rfl, _⟩ := hr
  refine x_load sc9 (hc 0 (by decide)) ?_
  rw [part_eq (by omega : 0 < (splitD s).length)]
  refine vs ?_
  refine x_build bl25 [.string ⟨(part s 0).toArray⟩, .int .i64 (number (part s 1)).1] ?_
  refine vs ?_
  refine x_al J st25 fun g9 w4 J => vs ?_
  refine x_sta J st25 (vs := [.string ⟨(part s 0).toArray⟩, .int .i64 (number (part s 1)).1]) (h1 := oneT) fun w5 J => vs ?_
  have hp0 := part_len s 0
  have hp1 := part_len s 1
  have hnr := number_range (part s 1)
  cases hn : (number (part s 1)).2 with
  | false =>
    refine vs ?_
    have H := H.join J
    simp only [List.cons_append, List.nil_append] at H
    refine x_build bl25 [.string ⟨#[]⟩, .int .i64 0] ?_
    refine vs ?_
    refine x_sta H st25 (vs := [.string ⟨#[]⟩, .int .i64 0]) (h1 := oneT) fun wz H => vs ?_
    rw [tokenOf_no fun hh => by have := hh.2.1; rw [hn] at this; cases this]
    exact ⟨_, _, rfl, res_cell H st25, rfl, H.bel⟩
  | true =>
    refine ve hne ?_
    refine x_lda J st25 ?_
    refine ve hne ?_
    refine x_callb J (specIssue_ok _ _ k _ (told s) (J.rd (H.rd hk9)) (kToken_of (told s) (by show (part s 0).length ≤ _; omega) (by show _ ≤ (number (part s 1)).1 ∧ (number (part s 1)).1 < _; omega)) (by show (part s 0).length ≤ _; omega) (ht2.tab.below J.bel)) fun w6 J => ?_
    have H := H.join J
    simp only [List.cons_append, List.nil_append] at H
    by_cases he : issue k (told s) = s
    rotate_left
    · refine ve (And.intro he hne) ?_
      refine x_build bl25 [.string ⟨#[]⟩, .int .i64 0] ?_
      refine vs ?_
      refine x_sta H st25 (vs := [.string ⟨#[]⟩, .int .i64 0]) (h1 := oneT) fun wz H => vs ?_
      rw [tokenOf_no fun hh => he hh.2.2]
      exact ⟨_, _, rfl, res_cell H st25, rfl, H.bel⟩
    refine ve (And.intro he hne) ?_
    refine x_lda H st25 ?_
    refine vs ?_
    refine x_sta H st25 (vs := [.string ⟨(part s 0).toArray⟩, .int .i64 (number (part s 1)).1]) (h1 := oneT) fun wz H => vs ?_
    rw [tokenOf_yes ⟨h3', hn, he⟩]
    exact ⟨_, _, rfl, res_cell H st25, rfl, H.bel⟩
theorem specMayFetch_ok (w : World) (v : Value) (k : List UInt8) (s r : List UInt8) (now : Int) (hk : (bytes 5).rd w w.heap.size [v] k) (hs : s.length ≤ 1048576) (ht : Libs w) :
    ACalls Tryz.prog 14 #[v, .string ⟨s.toArray⟩, .string ⟨r.toArray⟩, .int .i64 now] w fun b w' => b = .bool (mayFetch k s r now) ∧ Below w.heap.size w w' := by
  have hk9 := hk
  obtain ⟨Ak, ck, rfl, _⟩ := sl_open hk
  have H := Sep.start w
  refine body_of follows Tryz.func14 rfl rfl _ rfl (by kernel_rfl) (vs ?_)
  refine x_callb H (specTokenOf_ok w _ k s hk9 hs ht) fun w1 H => vs ?_
  refine x_al H st25 fun g9 w2 H => vs ?_
  refine x_sta H st25 (vs := [.string ⟨(tokenOf k s).1.f_Route.toArray⟩, .int .i64 (tokenOf k s).1.f_Until]) (h1 := oneT) fun w3 H => vs ?_
  cases ho : (tokenOf k s).2 with
  | false =>
    refine vs ?_
    have e : mayFetch k s r now = false := by unfold mayFetch; rw [ho]; rfl
    rw [e]
    first | exact ⟨rfl, H.bel⟩ | exact H.bel
  | true =>
    refine vs ?_
    refine x_ld H sc9 ?_
    by_cases hr : (tokenOf k s).1.f_Route = r
    rotate_left
    · refine ve hr ?_
      have e : mayFetch k s r now = false := by unfold mayFetch; rw [decide_eq_false hr]; simp
      rw [e]
      first | exact ⟨rfl, H.bel⟩ | exact H.bel
    have er : ((tokenOf k s).1.f_Route = r) = True := eq_true hr
    refine ve er ?_
    refine x_ld H sc3 ?_
    refine ve er ?_
    have e : mayFetch k s r now = decide (now ≤ (tokenOf k s).1.f_Until) := by unfold mayFetch; rw [ho, decide_eq_true hr]; rfl
    rw [e]
    first | exact ⟨rfl, H.bel⟩ | exact H.bel
end Go.Proofs.YtcmckbgiiclomaaGreatDoor.V
