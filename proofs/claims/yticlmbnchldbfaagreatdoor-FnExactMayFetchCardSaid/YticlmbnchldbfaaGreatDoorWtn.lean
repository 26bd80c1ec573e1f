/- Numbers read, tokens known again: both sides. -/
import Derived.Test.YticlmbnchldbfaaGreatDoorWtk
import Derived.Test.YticlmbnchldbfaaGreatDoorWta
namespace Go.Proofs.YticlmbnchldbfaaGreatDoor.V
open Go Go.RowKit
set_option maxRecDepth 100000
set_option maxHeartbeats 4000000
set_option linter.unusedSimpArgs false
set_option linter.unusedVariables false
set_option pp.deepTerms false
set_option pp.deepTerms.threshold 3

section
variable {P : Program} {w : World} {K : Value → World → Prop} {tg : Tg K} {t : TypeId} {x : Operand} {c : Value}
theorem x_held {u : TypeId} {v : Value} (h : P.underlying t = some (.interface (P.methodsAt t))) (hk : K (.bool true) w) : Bin P K tg .neq t x (.const c) (.iface u v) .nilIface w := by
  unfold Bin
  refine vS_run (v := .bool true) ?_ hk
  rw [eqGuard_at_iface]
  simp [run_neq_held_nil w t u v h]
theorem x_nilI (h : P.underlying t = some (.interface (P.methodsAt t))) (hk : K (.bool false) w) : Bin P K tg .neq t x (.const c) .nilIface .nilIface w := by
  unfold Bin
  refine vS_run (v := .bool false) ?_ hk
  rw [eqGuard_nil_constR]
  simp [run_neq_nil_nil w t h]
end
theorem strB {a b : List UInt8} : ((⟨a.toArray⟩ : ByteArray) = ⟨b.toArray⟩) = (a = b) := propext ⟨fun h => by
  have := congrArg (fun b : ByteArray => b.data.toList) h
  simpa using this, fun h => by rw [h]⟩
theorem implNumber_ok (w : World) (s : List UInt8) (hs : s.length ≤ 1048576) (ht : Libs w) :
    ACalls Tryz.prog 39 #[.string ⟨s.toArray⟩] w fun r w' => r = .tuple #[.int .i64 (number s).1, .bool (number s).2] ∧ Below w.heap.size w w' := by
  have H := Sep.start w
  refine body_of follows Tryz.func39 rfl rfl _ rfl (by kernel_rfl) (vs ?_)
  refine x_call (atoi_ok w s hs ht) fun _ w1 ⟨hr, hb⟩ => ?_
  have H := H.go hb
  rcases hr with ⟨v, hv, rfl⟩ | ⟨hv, v, t, p, rfl⟩
  · have en := number_ok hv
    have hrg := Lib.atoiAll_bounds hv
    refine vs ?_
    refine x_nilI (by kernel_rfl) ?_
    refine vs ?_
    refine x_callw (in_ok w1 _ _ _) ?_
    by_cases hc : 0 ≤ v ∧ v ≤ 999999
    rotate_left
    · refine ve hc ?_
      rw [en, if_neg fun hh => hc ⟨hh.1, hh.2.1⟩]
      exact ⟨rfl, H.bel⟩
    refine ve hc ?_
    refine x_callb H (implDigits_ok w1 v (by omega) (ht.tab.below H.bel)) fun w2 H => ?_
    by_cases he : Lib.itoa v = s
    rotate_left
    · refine ve (And.intro he hc) ?_
      rw [en, if_neg fun hh => he hh.2.2]
      exact ⟨rfl, H.bel⟩
    refine ve (And.intro he hc) ?_
    rw [en, if_pos ⟨hc.1, hc.2, he⟩]
    exact ⟨rfl, H.bel⟩
  · have en := number_bad hv
    refine vs ?_
    refine x_held (by kernel_rfl) ?_
    refine vs ?_
    rw [en]
    exact ⟨rfl, H.bel⟩
theorem decV_take {s : List UInt8} {k : Nat} (hk : k < s.length) : decV 0 (s.take (k + 1)) = dstep (decV 0 (s.take k)) s[k] := by
  rw [List.take_succ_eq_append_getElem hk, decV_app]; rfl
theorem decV_lo {s : List UInt8} {k : Nat} (h : (s.take k).all isDig = true) (hk : k ≤ 6) : decV 0 (s.take k) ≤ 999999 := by
  have h1 := decV_lt (s.take k) 0 0 h (by decide)
  have h2 : 0 + (s.take k).length ≤ 6 := by rw [List.length_take]; omega
  have h3 : 10 ^ (0 + (s.take k).length) ≤ 10 ^ 6 := Nat.pow_le_pow_right (by decide) h2
  have h4 : (10 : Nat) ^ 6 = 1000000 := by decide
  omega
theorem dig_step {a : Nat} {c : UInt8} (ha : a ≤ 999999) (hc : 48 ≤ c.toNat ∧ c.toNat ≤ 57) : w64 (w64 (w64 (10 * (a : Int)) + (c.toNat : Int)) - 48) = ((dstep a c : Nat) : Int) := by
  unfold dstep w64; omega
theorem specNumber_ok (w : World) (s : List UInt8) (hs : s.length ≤ 1048576) :
    ACalls Tryz.prog 41 #[.string ⟨s.toArray⟩] w fun r w' => r = .tuple #[.int .i64 (number s).1, .bool (number s).2] ∧ Below w.heap.size w w' := by
  have H := Sep.start w
  refine body_of follows Tryz.func41 rfl rfl _ rfl (by kernel_rfl) (vs ?_)
  by_cases h1 : (s.length : Int) < 1
  · refine ve h1 ?_
    rw [number_no fun hh => by omega]
    exact ⟨rfl, H.bel⟩
  by_cases h6 : (6 : Int) < (s.length : Int)
  · refine ve (And.intro h1 h6) ?_
    rw [number_no fun hh => by omega]
    exact ⟨rfl, H.bel⟩
  refine ve (And.intro h1 h6) ?_
  refine loop_at (σ := Nat × Nat) (fun y => [(0, .string ⟨s.toArray⟩), (4, .int .i64 (y.2 : Int)), (5, .int .i64 (y.1 : Int))])
    (fun y w' => y.1 ≤ s.length ∧ y.2 = decV 0 (s.take y.1) ∧ (s.take y.1).all isDig = true ∧ Sep w.heap.size w w' []) (fun y => s.length - y.1) (0, 0) (vs trivial) ⟨Nat.zero_le _, rfl, rfl, H⟩ ?_
  rintro ⟨k, a⟩ s2 w2 ⟨hk, ha, hd, H⟩
  dsimp only at hk ha hd H
  subst ha
  refine vs (ways ?_ ?_)
  · refine vh fun hlt => ?_
    have hk2 : k < s.length := by omega
    have bad : ¬ (48 ≤ s[k].toNat ∧ s[k].toNat ≤ 57) → number s = (0, false) := fun hb => number_no fun hh => hb (by
      have := List.all_eq_true.1 hh.1 _ (List.getElem_mem hk2)
      unfold isDig at this
      exact of_decide_eq_true this)
    refine x_sidx Tryz.underlying9 (Int.natCast_nonneg _) (by omega) ?_
    rw [Int.toNat_natCast, sidx_lo hk2]
    by_cases hb : (s[k].toNat : Int) < 48
    · refine ve hb ?_
      rw [bad (by omega)]
      exact ⟨rfl, H.bel⟩
    refine ve hb ?_
    refine x_sidx Tryz.underlying9 (Int.natCast_nonneg _) (by omega) ?_
    rw [Int.toNat_natCast, sidx_lo hk2]
    by_cases hc : (57 : Int) < (s[k].toNat : Int)
    · refine ve (And.intro hb hc) ?_
      rw [bad (by omega)]
      exact ⟨rfl, H.bel⟩
    refine ve (And.intro hb hc) ?_
    refine x_sidx Tryz.underlying9 (Int.natCast_nonneg _) (by omega) ?_
    rw [Int.toNat_natCast, sidx_lo hk2]
    refine vs ?_
    have hlo := decV_lo hd (by omega)
    have hst := dig_step (a := decV 0 (s.take k)) (c := s[k]) hlo ⟨by omega, by omega⟩
    refine ⟨(k + 1, dstep (decV 0 (s.take k)) s[k]), ⟨i64_eq hst, i64_eq (w64_s (by omega : k ≤ 6) (by omega))⟩, ⟨hk2, (decV_take hk2).symm, ?_, H⟩, by dsimp only; omega⟩
    · rw [List.take_succ_eq_append_getElem hk2, List.all_append, hd]
      simp only [List.all_cons, List.all_nil, Bool.and_true, Bool.true_and]
      unfold isDig
      exact decide_eq_true ⟨by omega, by omega⟩
  · refine vh fun hlt => ?_
    obtain rfl : k = s.length := by omega
    have hlo := decV_lo hd (by omega)
    rw [List.take_length] at hd hlo ⊢
    refine x_callb H (specDigits_ok w2 ((decV 0 s : Nat) : Int) (by omega)) fun w3 H => ?_
    by_cases he : Lib.itoa ((decV 0 s : Nat) : Int) = s
    rotate_left
    · refine ve he ?_
      rw [number_no fun hh => he hh.2.2.2]
      exact ⟨rfl, H.bel⟩
    refine ve he ?_
    rw [number_yes ⟨hd, by omega, by omega, he⟩]
    exact ⟨rfl, H.bel⟩
end Go.Proofs.YticlmbnchldbfaaGreatDoor.V
