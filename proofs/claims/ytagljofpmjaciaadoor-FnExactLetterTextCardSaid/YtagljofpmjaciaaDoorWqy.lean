/- Letters as text: both sides. Laid by a program. -/
import Derived.Test.YtagljofpmjaciaaDoorWq
import Derived.Test.YtagljofpmjaciaaDoorWhx
import Derived.Test.YtagljofpmjaciaaDoorVh
namespace Go.Proofs.YtagljofpmjaciaaDoor.V
open Go Go.RowKit
set_option maxRecDepth 100000
set_option maxHeartbeats 2000000
set_option linter.unusedSimpArgs false
set_option linter.unusedVariables false
set_option pp.deepTerms false
set_option pp.deepTerms.threshold 3

def fromB (x : MLetter) : List UInt8 := x.f_From.take (min 4 x.f_From.length)
theorem fromB_len (x : MLetter) : (fromB x).length ≤ 4 := by unfold fromB; rw [List.length_take]; omega
def letterText (x : MLetter) : List UInt8 := Lib.itoa x.f_Epoch ++ [32] ++ hexB (fromB x) ++ [32] ++ Lib.itoa (x.f_Box.length : Int)
theorem min_4 (n : Nat) : min (4 : Int) (n : Int) = ((min 4 n : Nat) : Int) := by omega
section
variable {P : Program} {w : World} {K : Value → World → Prop} {tg : Tg K}
theorem x_minB {ts : Array TypeId} {ty : TypeId} {a b : Int} (h : K (.int .i64 (min a b)) w) : Builtin' P K tg .min ts ty [.int .i64 a, .int .i64 b] w := by
  show vS P (Builtin.min_ ts ty #[.int .i64 a, .int .i64 b]) w K
  refine vS_run (v := .int .i64 (min a b)) ?_ h
  by_cases hab : b < a
  · have : ¬ (a ≤ b) := by omega
    simp [Builtin.min_, Builtin.min2, Int.min_def, hab, this]
  · have : a ≤ b := by omega
    simp [Builtin.min_, Builtin.min2, Int.min_def, hab, this]
end
theorem l1MinB_ok (w : World) (a b : Int) : ACalls Tryd.prog 30 #[.int .i64 a, .int .i64 b] w fun r w' => r = .int .i64 (min a b) ∧ w' = w := by
  refine body_of follows Tryd.func30 rfl rfl _ rfl (by kernel_rfl) (vs (ways ?_ ?_))
  · refine vh fun h => ?_
    exact i64_eq (by omega)
  · refine vh fun h => ?_
    exact i64_eq (by omega)
theorem implLetterText_ok (w : World) (cs : List Value) (x : MLetter) (h : kLetter.rd w w.heap.size cs x) (hs : smLetter x) (ht : Tab w) :
    ACalls Tryd.prog 18 #[.agg cs.toArray] w fun r w' => r = .string ⟨(letterText x).toArray⟩ ∧ Below w.heap.size w w' := by
  unfold smLetter at hs
  obtain ⟨v1, v2, rfl, h0, h1, h2⟩ := kLetter_open h
  have hm1 := sl_len h1
  have hm2 := sl_len h2
  obtain ⟨A1, c1, rfl, _⟩ := sl_open h1
  obtain ⟨A2, c2, rfl, _⟩ := sl_open h2
  have H := Sep.start w
  refine body_of follows Tryd.func18 rfl rfl _ rfl (by kernel_rfl) (vs ?_)
  refine x_bx H [.int .i64 x.f_Epoch, .slice A1 x.f_From.length c1, .slice A2 x.f_Box.length c2] fun g1 w1 H => vs ?_
  have ht1 := ht.below H.bel
  have J := Sep.start w1
  have l1 := itoa_len h0
  have l2 := itoa_len (n := (x.f_Box.length : Int)) (by omega)
  have l3 : (hexB (fromB x)).length ≤ 8 := by have := fromB_len x; rw [hexB_len]; omega
  refine fork_draw w1.heap.size [] fun w2 hh hb2 => ?_
  have J := J.go (hb2 _)
  have J3 := J
  refine rest_pre [(0, true), (1, true), (4, true), (5, true), (6, true), (7, true), (8, true), (14, true), (15, true), (16, true)] 10 ?_
  refine vs ?_
  refine q_ldB H J3 sc3 ?_
  refine vs ?_
  refine q_ldB H J3 sc22 ?_
  refine vs ?_
  refine q_ldB H J3 sc22 ?_
  refine vs ?_
  refine q_ldB H J3 sc22 ?_
  refine vs ?_
  refine rest_fork 2 9 9 ?_ ?_
  · refine vs ?_
    refine x_callb J (implDigits_ok _ x.f_Epoch h0 (ht1.below J.bel)) fun wa J => vs ?_
    refine ⟨kept_base J3 J, ?_⟩
    refine rest_end [(3, true), (9, false), (10, true), (11, false), (12, true), (13, true), (17, false), (18, true), (19, true)] ?_
    refine vs ?_
    refine qx_sadd (a := Lib.itoa x.f_Epoch) (b := [32]) (by simp only [List.length_append, List.length_cons, List.length_nil]; omega) ?_
    refine vs ?_
    refine x_minB ?_
    refine ve (min_4 x.f_From.length) ?_
    refine ⟨kept_base J3 J, ?_⟩
    refine q_toN sl22 rfl (min 4 x.f_From.length) h1 rfl (by omega) fun v4 hv4 => vs ?_
    have hv4 : (bytes 5).rd w w.heap.size [v4] (fromB x) := hv4
    refine x_callb J (implHex_ok _ v4 (fromB x) (J.rd (H.rd hv4)) (by have := fromB_len x; omega)) fun wb J => vs ?_
    refine ⟨kept_base J3 J, ?_⟩
    refine qx_sadd (a := Lib.itoa x.f_Epoch ++ [32]) (b := hexB (fromB x)) (by simp only [List.length_append, List.length_cons, List.length_nil]; omega) ?_
    refine vs ?_
    refine qx_sadd (a := Lib.itoa x.f_Epoch ++ [32] ++ hexB (fromB x)) (b := [32]) (by simp only [List.length_append, List.length_cons, List.length_nil]; omega) ?_
    refine vs ?_
    refine x_callb J (implDigits_ok _ (x.f_Box.length : Int) (by omega) (ht1.below J.bel)) fun wc J => vs ?_
    refine ⟨kept_base J3 J, ?_⟩
    refine qx_sadd (a := Lib.itoa x.f_Epoch ++ [32] ++ hexB (fromB x) ++ [32]) (b := Lib.itoa (x.f_Box.length : Int)) (by simp only [List.length_append, List.length_cons, List.length_nil]; omega) ?_
    refine vs ?_
    have H := H.join J
    exact ⟨rfl, H.bel⟩
  · refine vs ?_
    refine x_minB ?_
    refine ve (min_4 x.f_From.length) ?_
    refine ⟨kept_base J3 J, ?_⟩
    refine rest_end [(10, true), (2, false), (3, true), (11, false), (12, true), (13, true), (17, false), (18, true), (19, true)] ?_
    refine vs ?_
    refine q_toN sl22 rfl (min 4 x.f_From.length) h1 rfl (by omega) fun v4 hv4 => vs ?_
    have hv4 : (bytes 5).rd w w.heap.size [v4] (fromB x) := hv4
    refine x_callb J (implDigits_ok _ x.f_Epoch h0 (ht1.below J.bel)) fun wa J => vs ?_
    refine ⟨kept_base J3 J, ?_⟩
    refine qx_sadd (a := Lib.itoa x.f_Epoch) (b := [32]) (by simp only [List.length_append, List.length_cons, List.length_nil]; omega) ?_
    refine vs ?_
    refine x_callb J (implHex_ok _ v4 (fromB x) (J.rd (H.rd hv4)) (by have := fromB_len x; omega)) fun wb J => vs ?_
    refine ⟨kept_base J3 J, ?_⟩
    refine qx_sadd (a := Lib.itoa x.f_Epoch ++ [32]) (b := hexB (fromB x)) (by simp only [List.length_append, List.length_cons, List.length_nil]; omega) ?_
    refine vs ?_
    refine qx_sadd (a := Lib.itoa x.f_Epoch ++ [32] ++ hexB (fromB x)) (b := [32]) (by simp only [List.length_append, List.length_cons, List.length_nil]; omega) ?_
    refine vs ?_
    refine x_callb J (implDigits_ok _ (x.f_Box.length : Int) (by omega) (ht1.below J.bel)) fun wc J => vs ?_
    refine ⟨kept_base J3 J, ?_⟩
    refine qx_sadd (a := Lib.itoa x.f_Epoch ++ [32] ++ hexB (fromB x) ++ [32]) (b := Lib.itoa (x.f_Box.length : Int)) (by simp only [List.length_append, List.length_cons, List.length_nil]; omega) ?_
    refine vs ?_
    have H := H.join J
    exact ⟨rfl, H.bel⟩
theorem specLetterText_ok (w : World) (cs : List Value) (x : MLetter) (h : kLetter.rd w w.heap.size cs x) (hs : smLetter x) (ht : Tab w) :
    ACalls Tryd.prog 16 #[.agg cs.toArray] w fun r w' => r = .string ⟨(letterText x).toArray⟩ ∧ Below w.heap.size w w' := by
  unfold smLetter at hs
  obtain ⟨v1, v2, rfl, h0, h1, h2⟩ := kLetter_open h
  have hm1 := sl_len h1
  have hm2 := sl_len h2
  obtain ⟨A1, c1, rfl, _⟩ := sl_open h1
  obtain ⟨A2, c2, rfl, _⟩ := sl_open h2
  have H := Sep.start w
  refine body_of follows Tryd.func16 rfl rfl _ rfl (by kernel_rfl) (vs ?_)
  refine x_bx H [.int .i64 x.f_Epoch, .slice A1 x.f_From.length c1, .slice A2 x.f_Box.length c2] fun g1 w1 H => vs ?_
  have ht1 := ht.below H.bel
  have J := Sep.start w1
  have l1 := itoa_len h0
  have l2 := itoa_len (n := (x.f_Box.length : Int)) (by omega)
  have l3 : (hexB (fromB x)).length ≤ 8 := by have := fromB_len x; rw [hexB_len]; omega
  refine fork_draw w1.heap.size [] fun w2 hh hb2 => ?_
  have J := J.go (hb2 _)
  have J3 := J
  refine rest_pre [(0, true), (1, true), (4, true), (5, true), (6, true), (7, true), (8, true), (14, true), (15, true), (16, true)] 10 ?_
  refine vs ?_
  refine q_ldB H J3 sc3 ?_
  refine vs ?_
  refine q_ldB H J3 sc22 ?_
  refine vs ?_
  refine q_ldB H J3 sc22 ?_
  refine vs ?_
  refine q_ldB H J3 sc22 ?_
  refine vs ?_
  refine rest_end [(2, false), (3, true), (9, false), (10, true), (11, false), (12, true), (13, true), (17, false), (18, true), (19, true)] ?_
  refine vs ?_
  refine x_callb J (specDigits_ok _ x.f_Epoch h0) fun wa J => vs ?_
  refine ⟨kept_base J3 J, ?_⟩
  refine qx_sadd (a := Lib.itoa x.f_Epoch) (b := [32]) (by simp only [List.length_append, List.length_cons, List.length_nil]; omega) ?_
  refine vs ?_
  refine x_callw (l1MinB_ok _ _ _) ?_
  refine ve (min_4 x.f_From.length) ?_
  refine ⟨kept_base J3 J, ?_⟩
  refine q_toN sl22 rfl (min 4 x.f_From.length) h1 rfl (by omega) fun v4 hv4 => vs ?_
  have hv4 : (bytes 5).rd w w.heap.size [v4] (fromB x) := hv4
  refine x_callb J (specHex_ok _ v4 (fromB x) (J.rd (H.rd hv4)) (by have := fromB_len x; omega)) fun wb J => vs ?_
  refine ⟨kept_base J3 J, ?_⟩
  refine qx_sadd (a := Lib.itoa x.f_Epoch ++ [32]) (b := hexB (fromB x)) (by simp only [List.length_append, List.length_cons, List.length_nil]; omega) ?_
  refine vs ?_
  refine qx_sadd (a := Lib.itoa x.f_Epoch ++ [32] ++ hexB (fromB x)) (b := [32]) (by simp only [List.length_append, List.length_cons, List.length_nil]; omega) ?_
  refine vs ?_
  refine x_callb J (specDigits_ok _ (x.f_Box.length : Int) (by omega)) fun wc J => vs ?_
  refine ⟨kept_base J3 J, ?_⟩
  refine qx_sadd (a := Lib.itoa x.f_Epoch ++ [32] ++ hexB (fromB x) ++ [32]) (b := Lib.itoa (x.f_Box.length : Int)) (by simp only [List.length_append, List.length_cons, List.length_nil]; omega) ?_
  refine vs ?_
  have H := H.join J
  exact ⟨rfl, H.bel⟩
end Go.Proofs.YtagljofpmjaciaaDoor.V
