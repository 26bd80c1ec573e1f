/- Tokens as text: both sides. Laid by a program. -/
import Derived.Test.YtcmckbgiiclomaaGreatDoorWq
import Derived.Test.YtcmckbgiiclomaaGreatDoorWhx
import Derived.Test.YtcmckbgiiclomaaGreatDoorVh
namespace Go.Proofs.YtcmckbgiiclomaaGreatDoor.V
open Go Go.RowKit
set_option maxRecDepth 100000
set_option maxHeartbeats 2000000
set_option linter.unusedSimpArgs false
set_option linter.unusedVariables false
set_option pp.deepTerms false
set_option pp.deepTerms.threshold 3

def tokenText (x : MToken) : List UInt8 := if (isRoute x.f_Route && decide (0 ≤ x.f_Until ∧ x.f_Until ≤ 100000)) = true then x.f_Route ++ [46] ++ Lib.itoa x.f_Until else []
theorem tokenText_1 {x : MToken} (h : isRoute x.f_Route = false) : tokenText x = [] := by unfold tokenText; rw [h]; rfl
theorem tokenText_2 {x : MToken} (h : ¬ (0 ≤ x.f_Until ∧ x.f_Until ≤ 100000)) : tokenText x = [] := by unfold tokenText; rw [decide_eq_false h, Bool.and_false]; rfl
theorem tokenText_3 {x : MToken} (h : isRoute x.f_Route = true) (h2 : 0 ≤ x.f_Until ∧ x.f_Until ≤ 100000) : tokenText x = x.f_Route ++ [46] ++ Lib.itoa x.f_Until := by unfold tokenText; rw [h, decide_eq_true h2]; rfl
theorem tokenText_len (x : MToken) : (tokenText x).length ≤ 38 := by
  unfold tokenText
  split
  · rename_i h
    unfold isRoute at h
    simp only [Bool.and_eq_true, decide_eq_true_eq] at h
    have := itoa_len (n := x.f_Until) (by omega)
    simp only [List.length_append, List.length_cons, List.length_nil]; omega
  · simp
theorem implTokenText_ok (w : World) (cs : List Value) (x : MToken) (h : kToken.rd w w.heap.size cs x) (hs : smToken x) (ht : Tab w) :
    ACalls Tryz.prog 15 #[.agg cs.toArray] w fun r w' => r = .string ⟨(tokenText x).toArray⟩ ∧ Below w.heap.size w w' := by
  unfold smToken at hs
  obtain ⟨_, rfl, h0, h1⟩ := kToken_open h
  have H := Sep.start w
  refine body_of follows Tryz.func15 rfl rfl _ rfl (by kernel_rfl) (vs ?_)
  refine x_bx H [.string ⟨x.f_Route.toArray⟩, .int .i64 x.f_Until] fun g1 w1 H => vs ?_
  refine x_ld H sc9 ?_
  refine vs ?_
  refine x_callb H (implIsRoute_ok w1 x.f_Route (by omega)) fun w2 H => ?_
  cases hr : isRoute x.f_Route with
  | false =>
    have et := tokenText_1 hr
    refine vs ?_
    rw [et]
    exact ⟨rfl, H.bel⟩
  | true =>
    refine vs ?_
    refine x_ld H sc3 ?_
    refine vs ?_
    refine x_callw (in_ok w2 _ _ _) ?_
    by_cases hu : 0 ≤ x.f_Until ∧ x.f_Until ≤ 100000
    rotate_left
    · have et := tokenText_2 hu
      refine ve hu ?_
      rw [et]
      exact ⟨rfl, H.bel⟩
    refine ve hu ?_
    have et := tokenText_3 hr hu
    have ht1 := ht.below H.bel
    have J := Sep.start w2
    have l1 := itoa_len h1
    refine draw_of [(0, true), (1, true), (2, true), (3, true), (4, true), (5, false), (6, true), (7, true)] w2.heap.size [] fun w3 hh hb3 => vs ?_
    have J := J.go (hb3 _)
    have J3 := J
    refine q_ldB H J3 sc9 ?_
    refine vs ?_
    refine qx_sadd (a := x.f_Route) (b := [46]) (by simp only [List.length_cons, List.length_nil]; omega) ?_
    refine vs ?_
    refine q_ldB H J3 sc3 ?_
    refine vs ?_
    refine x_callb J (implDigits_ok w3 x.f_Until h1 (ht1.below J.bel)) fun w4 J => vs ?_
    refine ⟨kept_base J3 J, ?_⟩
    refine qx_sadd (a := x.f_Route ++ [46]) (b := Lib.itoa x.f_Until) (by simp only [List.length_append, List.length_cons, List.length_nil]; omega) ?_
    refine vs ?_
    have H := H.join J
    rw [et]
    exact ⟨rfl, H.bel⟩
theorem specTokenText_ok (w : World) (cs : List Value) (x : MToken) (h : kToken.rd w w.heap.size cs x) (hs : smToken x) (ht : Tab w) :
    ACalls Tryz.prog 16 #[.agg cs.toArray] w fun r w' => r = .string ⟨(tokenText x).toArray⟩ ∧ Below w.heap.size w w' := by
  unfold smToken at hs
  obtain ⟨_, rfl, h0, h1⟩ := kToken_open h
  have H := Sep.start w
  refine body_of follows Tryz.func16 rfl rfl _ rfl (by kernel_rfl) (vs ?_)
  refine x_bx H [.string ⟨x.f_Route.toArray⟩, .int .i64 x.f_Until] fun g1 w1 H => vs ?_
  refine x_ld H sc9 ?_
  refine vs ?_
  refine x_callb H (specIsRoute_ok w1 x.f_Route (by omega)) fun w2 H => ?_
  cases hr : isRoute x.f_Route with
  | false =>
    have et := tokenText_1 hr
    refine vs ?_
    rw [et]
    exact ⟨rfl, H.bel⟩
  | true =>
    refine vs ?_
    refine x_ld H sc3 ?_
    refine vs ?_
    refine x_callw (l1In_ok w2 _ _ _) ?_
    by_cases hu : 0 ≤ x.f_Until ∧ x.f_Until ≤ 100000
    rotate_left
    · have et := tokenText_2 hu
      refine ve hu ?_
      rw [et]
      exact ⟨rfl, H.bel⟩
    refine ve hu ?_
    have et := tokenText_3 hr hu
    have ht1 := ht.below H.bel
    have J := Sep.start w2
    have l1 := itoa_len h1
    refine draw_of [(0, true), (1, true), (2, true), (3, true), (4, true), (5, false), (6, true), (7, true)] w2.heap.size [] fun w3 hh hb3 => vs ?_
    have J := J.go (hb3 _)
    have J3 := J
    refine q_ldB H J3 sc9 ?_
    refine vs ?_
    refine qx_sadd (a := x.f_Route) (b := [46]) (by simp only [List.length_cons, List.length_nil]; omega) ?_
    refine vs ?_
    refine q_ldB H J3 sc3 ?_
    refine vs ?_
    refine x_callb J (specDigits_ok w3 x.f_Until h1) fun w4 J => vs ?_
    refine ⟨kept_base J3 J, ?_⟩
    refine qx_sadd (a := x.f_Route ++ [46]) (b := Lib.itoa x.f_Until) (by simp only [List.length_append, List.length_cons, List.length_nil]; omega) ?_
    refine vs ?_
    have H := H.join J
    rw [et]
    exact ⟨rfl, H.bel⟩
end Go.Proofs.YtcmckbgiiclomaaGreatDoor.V
