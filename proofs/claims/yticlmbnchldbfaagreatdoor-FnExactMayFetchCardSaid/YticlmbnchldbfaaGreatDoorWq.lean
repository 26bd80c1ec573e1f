/- An item as text: both sides. -/
import Derived.Test.YticlmbnchldbfaaGreatDoorWi
import Derived.Test.YticlmbnchldbfaaGreatDoorWt
namespace Go.Proofs.YticlmbnchldbfaaGreatDoor.V
open Go Go.RowKit
set_option maxRecDepth 100000
set_option maxHeartbeats 400000
set_option linter.unusedSimpArgs false
set_option linter.unusedVariables false
set_option pp.deepTerms false
set_option pp.deepTerms.threshold 3

theorem itoa_len {n : Int} (h : -9223372036854775808 ≤ n ∧ n < 9223372036854775808) : (Lib.itoa n).length ≤ 21 := by
  by_cases h0 : n = 0
  · subst h0; rw [itoa_zero]; decide
  have h1 := ddig_len 20 n.natAbs (by omega)
  by_cases hn : n < 0
  · rw [itoa_neg hn, List.length_cons]; omega
  · rw [itoa_pos (by omega)]; omega
def itemText (x : MItem) : List UInt8 := x.f_Route ++ [32] ++ Lib.itoa x.f_Topic ++ [32] ++ Lib.itoa x.f_Due ++ [32] ++ Lib.itoa (x.f_Bytes.length : Int)
theorem implItemText_ok (w : World) (cs : List Value) (x : MItem) (h : kItem.rd w w.heap.size cs x) (hs : smItem x) (ht : Tab w) :
    ACalls Tryz.prog 29 #[.agg cs.toArray] w fun r w' => r = .string ⟨(itemText x).toArray⟩ ∧ Below w.heap.size w w' := by
  unfold smItem at hs
  obtain ⟨v3, rfl, h0, h1, h2, h3⟩ := kItem_open h
  have hb := h3
  obtain ⟨A3, c3, rfl, _⟩ := sl_open h3
  have H := Sep.start w
  refine body_of follows Tryz.func29 rfl rfl _ rfl (by kernel_rfl) (vs ?_)
  refine x_bx H [.string ⟨x.f_Route.toArray⟩, .int .i64 x.f_Topic, .int .i64 x.f_Due, .slice A3 x.f_Bytes.length c3] fun g1 w1 H => vs ?_
  have ht1 := ht.below H.bel
  have J := Sep.start w1
  have l1 := itoa_len h1
  have l2 := itoa_len h2
  have l3 := itoa_len (n := (x.f_Bytes.length : Int)) (by omega)
  refine draw_of [(0, true), (1, true), (2, true), (3, true), (4, true), (8, true), (9, true), (13, true), (14, true), (15, true), (5, false), (6, true), (7, true), (10, false), (11, true), (12, true), (16, false), (17, true), (18, true)] w1.heap.size [] fun w2 hh hb2 => vs ?_
  have J := J.go (hb2 _)
  have J3 := J
  refine q_ldB H J3 sc9 ?_
  refine vs ?_
  refine qx_sadd (a := x.f_Route) (b := [32]) (by simp only [List.length_cons, List.length_nil]; omega) ?_
  refine vs ?_
  refine q_ldB H J3 sc3 ?_
  refine vs ?_
  refine q_ldB H J3 sc3 ?_
  refine vs ?_
  refine q_ldB H J3 sc22 ?_
  refine vs ?_
  refine x_callb J (implDigits_ok w2 x.f_Topic h1 (ht1.below J.bel)) fun w3 J => vs ?_
  refine ⟨kept_base J3 J, ?_⟩
  refine qx_sadd (a := x.f_Route ++ [32]) (b := Lib.itoa x.f_Topic) (by simp only [List.length_append, List.length_cons, List.length_nil]; omega) ?_
  refine vs ?_
  refine qx_sadd (a := x.f_Route ++ [32] ++ Lib.itoa x.f_Topic) (b := [32]) (by simp only [List.length_append, List.length_cons, List.length_nil]; omega) ?_
  refine vs ?_
  refine x_callb J (implDigits_ok w3 x.f_Due h2 (ht1.below J.bel)) fun w4 J => vs ?_
  refine ⟨kept_base J3 J, ?_⟩
  refine qx_sadd (a := x.f_Route ++ [32] ++ Lib.itoa x.f_Topic ++ [32]) (b := Lib.itoa x.f_Due) (by simp only [List.length_append, List.length_cons, List.length_nil]; omega) ?_
  refine vs ?_
  refine qx_sadd (a := x.f_Route ++ [32] ++ Lib.itoa x.f_Topic ++ [32] ++ Lib.itoa x.f_Due) (b := [32]) (by simp only [List.length_append, List.length_cons, List.length_nil]; omega) ?_
  refine vs ?_
  refine x_callb J (implDigits_ok w4 (x.f_Bytes.length : Int) (by omega) (ht1.below J.bel)) fun w5 J => vs ?_
  refine ⟨kept_base J3 J, ?_⟩
  refine qx_sadd (a := x.f_Route ++ [32] ++ Lib.itoa x.f_Topic ++ [32] ++ Lib.itoa x.f_Due ++ [32]) (b := Lib.itoa (x.f_Bytes.length : Int)) (by simp only [List.length_append, List.length_cons, List.length_nil]; omega) ?_
  refine vs ?_
  exact ⟨rfl, (H.join J).bel⟩
theorem specItemText_ok (w : World) (cs : List Value) (x : MItem) (h : kItem.rd w w.heap.size cs x) (hs : smItem x) (ht : Tab w) :
    ACalls Tryz.prog 30 #[.agg cs.toArray] w fun r w' => r = .string ⟨(itemText x).toArray⟩ ∧ Below w.heap.size w w' := by
  unfold smItem at hs
  obtain ⟨v3, rfl, h0, h1, h2, h3⟩ := kItem_open h
  have hb := h3
  obtain ⟨A3, c3, rfl, _⟩ := sl_open h3
  have H := Sep.start w
  refine body_of follows Tryz.func30 rfl rfl _ rfl (by kernel_rfl) (vs ?_)
  refine x_bx H [.string ⟨x.f_Route.toArray⟩, .int .i64 x.f_Topic, .int .i64 x.f_Due, .slice A3 x.f_Bytes.length c3] fun g1 w1 H => vs ?_
  have ht1 := ht.below H.bel
  have J := Sep.start w1
  have l1 := itoa_len h1
  have l2 := itoa_len h2
  have l3 := itoa_len (n := (x.f_Bytes.length : Int)) (by omega)
  refine draw_of [(0, true), (1, true), (2, true), (3, true), (4, true), (8, true), (9, true), (13, true), (14, true), (15, true), (5, false), (6, true), (7, true), (10, false), (11, true), (12, true), (16, false), (17, true), (18, true)] w1.heap.size [] fun w2 hh hb2 => vs ?_
  have J := J.go (hb2 _)
  have J3 := J
  refine q_ldB H J3 sc9 ?_
  refine vs ?_
  refine qx_sadd (a := x.f_Route) (b := [32]) (by simp only [List.length_cons, List.length_nil]; omega) ?_
  refine vs ?_
  refine q_ldB H J3 sc3 ?_
  refine vs ?_
  refine q_ldB H J3 sc3 ?_
  refine vs ?_
  refine q_ldB H J3 sc22 ?_
  refine vs ?_
  refine x_callb J (specDigits_ok w2 x.f_Topic h1) fun w3 J => vs ?_
  refine ⟨kept_base J3 J, ?_⟩
  refine qx_sadd (a := x.f_Route ++ [32]) (b := Lib.itoa x.f_Topic) (by simp only [List.length_append, List.length_cons, List.length_nil]; omega) ?_
  refine vs ?_
  refine qx_sadd (a := x.f_Route ++ [32] ++ Lib.itoa x.f_Topic) (b := [32]) (by simp only [List.length_append, List.length_cons, List.length_nil]; omega) ?_
  refine vs ?_
  refine x_callb J (specDigits_ok w3 x.f_Due h2) fun w4 J => vs ?_
  refine ⟨kept_base J3 J, ?_⟩
  refine qx_sadd (a := x.f_Route ++ [32] ++ Lib.itoa x.f_Topic ++ [32]) (b := Lib.itoa x.f_Due) (by simp only [List.length_append, List.length_cons, List.length_nil]; omega) ?_
  refine vs ?_
  refine qx_sadd (a := x.f_Route ++ [32] ++ Lib.itoa x.f_Topic ++ [32] ++ Lib.itoa x.f_Due) (b := [32]) (by simp only [List.length_append, List.length_cons, List.length_nil]; omega) ?_
  refine vs ?_
  refine x_callb J (specDigits_ok w4 (x.f_Bytes.length : Int) (by omega)) fun w5 J => vs ?_
  refine ⟨kept_base J3 J, ?_⟩
  refine qx_sadd (a := x.f_Route ++ [32] ++ Lib.itoa x.f_Topic ++ [32] ++ Lib.itoa x.f_Due ++ [32]) (b := Lib.itoa (x.f_Bytes.length : Int)) (by simp only [List.length_append, List.length_cons, List.length_nil]; omega) ?_
  refine vs ?_
  exact ⟨rfl, (H.join J).bel⟩
end Go.Proofs.YticlmbnchldbfaaGreatDoor.V
