/- Chains begun and gone on: both sides. -/
import Derived.Test.YtagljofpmjaciaaWmd
import Derived.Test.YtagljofpmjaciaaWc
import Derived.Test.YtagljofpmjaciaaWx
namespace Go.Proofs.Ytagljofpmjaciaa.V
open Go Go.RowKit
set_option maxRecDepth 100000
set_option maxHeartbeats 4000000
set_option linter.unusedSimpArgs false
set_option linter.unusedVariables false
set_option pp.deepTerms false
set_option pp.deepTerms.threshold 3

def chainText : List UInt8 := [99, 104, 97, 105, 110]
def chainNew (seed : List UInt8) : MChain := if seed.length = 32 then ⟨derive [] seed chainText 32, 0⟩ else zChain
theorem chainNew_len (seed : List UInt8) : (chainNew seed).f_Key.length ≤ 8160 := by
  unfold chainNew
  split
  · exact expand_len _ _ _
  · simp [zChain]

theorem implChainNew_ok (w : World) (v : Value) (a : List UInt8) (h : (bytes 5).rd w w.heap.size [v] a) :
    ACalls Try.prog 32 #[v] w fun r w' => ∃ cs fp, r = .tuple #[.agg cs.toArray, .bool (decide (a.length = 32))] ∧ Sep w.heap.size w w' [Ck.own kChain fp cs (chainNew a)] := by
  have h0 := h
  obtain ⟨A, c, rfl, _, _, ha⟩ := sl_open h
  have H := Sep.start w
  refine body_of follows Try.func32 rfl rfl _ rfl (by kernel_rfl) (vs ?_)
  refine x_al H st43 fun g1 w1 H => ?_
  by_cases q : ((a.length : Int) = 32)
  · refine ve (eq_true q) ?_
    refine x_lst H pl_u8 sl22 chainText (by simp) fun g2 w2 H => vs ?_
    refine x_cvb Try.underlying22 Try.underlying5 H fun w3 H hr => vs ?_
    refine x_callf H (implDerive_ok w3 _ [] _ a _ chainText 32 (Kd.own_rd _ (sl_zero w3) (by simp)) (H.rd h0) hr) fun r4 f4 w4 H => vs ?_
    obtain ⟨A4, c4, rfl, _⟩ := sl_open (H.own (.head _))
    refine x_build bl43 [_, .int .i64 0] ?_
    refine vs ?_
    have e : chainNew a = ⟨derive [] a chainText 32, 0⟩ := by unfold chainNew; rw [if_pos (by omega)]
    have e2 : decide (a.length = 32) = true := decide_eq_true (by omega)
    obtain ⟨fp, H⟩ := ownChain (⟨derive [] a chainText 32, 0⟩ : MChain) H (by show (-9223372036854775808 : Int) ≤ 0 ∧ (0 : Int) < 9223372036854775808; decide)
    refine x_sta H st43 (h1 := Kd.one _ (H.own (.head _))) fun w6 H => vs ?_
    rw [e, e2]
    exact ⟨_, _, rfl, res_cell H st43, _, _, rfl, H.head⟩
  · refine ve (eq_false q) ?_
    refine x_build bl43 [.slice none 0 0, .int .i64 0] ?_
    refine vs ?_
    have H := H.nothing (kChain_zero w1)
    refine x_sta H st43 (h1 := Kd.one _ (H.own (.head _))) fun w6 H => vs ?_
    have e : chainNew a = zChain := by unfold chainNew; rw [if_neg (by omega)]
    have e2 : decide (a.length = 32) = false := decide_eq_false (by omega)
    rw [e, e2]
    exact ⟨_, _, rfl, res_cell H st43, _, _, rfl, H.head⟩

theorem specChainNew_ok (w : World) (v : Value) (a : List UInt8) (h : (bytes 5).rd w w.heap.size [v] a) :
    ACalls Try.prog 49 #[v] w fun r w' => ∃ cs fp, r = .tuple #[.agg cs.toArray, .bool (decide (a.length = 32))] ∧ Sep w.heap.size w w' [Ck.own kChain fp cs (chainNew a)] := by
  have h0 := h
  obtain ⟨A, c, rfl, _, _, ha⟩ := sl_open h
  have H := Sep.start w
  refine body_of follows Try.func49 rfl rfl _ rfl (by kernel_rfl) (vs ?_)
  refine x_al H st43 fun g1 w1 H => ?_
  by_cases q : ((a.length : Int) = 32)
  · refine ve (eq_true q) ?_
    refine x_lst H pl_u8 sl22 chainText (by simp) fun g2 w2 H => vs ?_
    refine x_cvb Try.underlying22 Try.underlying5 H fun w3 H hr => vs ?_
    refine x_callf H (specDerive_ok w3 _ [] _ a _ chainText 32 (Kd.own_rd _ (sl_zero w3) (by simp)) (H.rd h0) hr) fun r4 f4 w4 H => vs ?_
    obtain ⟨A4, c4, rfl, _⟩ := sl_open (H.own (.head _))
    refine x_build bl43 [_, .int .i64 0] ?_
    refine vs ?_
    have e : chainNew a = ⟨derive [] a chainText 32, 0⟩ := by unfold chainNew; rw [if_pos (by omega)]
    have e2 : decide (a.length = 32) = true := decide_eq_true (by omega)
    obtain ⟨fp, H⟩ := ownChain (⟨derive [] a chainText 32, 0⟩ : MChain) H (by show (-9223372036854775808 : Int) ≤ 0 ∧ (0 : Int) < 9223372036854775808; decide)
    refine x_sta H st43 (h1 := Kd.one _ (H.own (.head _))) fun w6 H => vs ?_
    rw [e, e2]
    exact ⟨_, _, rfl, res_cell H st43, _, _, rfl, H.head⟩
  · refine ve (eq_false q) ?_
    refine x_build bl43 [.slice none 0 0, .int .i64 0] ?_
    refine vs ?_
    have H := H.nothing (kChain_zero w1)
    refine x_sta H st43 (h1 := Kd.one _ (H.own (.head _))) fun w6 H => vs ?_
    have e : chainNew a = zChain := by unfold chainNew; rw [if_neg (by omega)]
    have e2 : decide (a.length = 32) = false := decide_eq_false (by omega)
    rw [e, e2]
    exact ⟨_, _, rfl, res_cell H st43, _, _, rfl, H.head⟩


/-! ### copies -/
theorem cloneB_ok (w : World) (v : Value) (a : List UInt8) (h : (bytes 5).rd w w.heap.size [v] a) (hl : a.length ≤ 1099511627776) :
    ACalls Try.prog 94 #[v] w fun r w' => ∃ fp, Sep w.heap.size w w' [Ck.own (bytes 5) fp [r] a] := by
  have h0 := h
  obtain ⟨A, c, rfl, hc1, hc2, ha⟩ := sl_open h
  have H := Sep.start w
  refine body_of follows Try.func94 rfl rfl _ rfl (by kernel_rfl) (vs ?_)
  refine x_nil Try.underlying22 ?_
  cases A with
  | none =>
    obtain rfl := sl_none ha
    refine ve (show (none : Option Addr).isNone = true from rfl) ?_
    exact ⟨_, H.nothing (sl_zero w)⟩
  | some ad =>
    refine ve (show (some ad).isNone = false from rfl) ?_
    refine x_emp H pl_u8 sl22 fun g w1 H => vs ?_
    refine x_app H pl_u8 sl22 (H.rd h0) ?_ ?_ fun fp5 v5 w5 H => vs ?_
    · simp only [List.length_nil]; omega
    · simp only [List.length_nil]; omega
    exact ⟨_, H⟩
theorem cloneChain_ok (w : World) (cs : List Value) (x : MChain) (h : kChain.rd w w.heap.size cs x) (hs : smChain x) :
    ACalls Try.prog 89 #[.agg cs.toArray] w fun r w' => ∃ cs' fp, r = .agg cs'.toArray ∧ Sep w.heap.size w w' [Ck.own kChain fp cs' x] := by
  unfold smChain at hs
  obtain ⟨v0, rfl, h0, h1⟩ := kChain_open h
  have H := Sep.start w
  refine body_of follows Try.func89 rfl rfl _ rfl (by kernel_rfl) (vs ?_)
  refine x_bx H [v0, .int .i64 x.f_N] fun g1 w1 H => vs ?_
  have J := Sep.start w1
  refine x_al J st43 fun g2 w2 J => vs ?_
  refine draw_of [(0, true), (1, true), (3, true), (4, true), (2, false), (5, true), (6, false)] w1.heap.size [] fun w3 hh hb3 => vs ?_
  have J := J.go (hb3 _)
  have J3 := J
  refine q_ldB H J3 sc22 ?_
  refine vs ?_
  refine q_ldB H J3 sc3 ?_
  refine vs ?_
  refine x_callf J (cloneB_ok w3 v0 _ (J.rd (H.rd h0)) (by omega)) fun r0 f0 w4 J => vs ?_
  refine ⟨kept_base J3 J, ?_⟩
  obtain ⟨A0, c0, rfl, _⟩ := sl_open (J.own (.head _))
  refine q_bld bl43 [_, _] ?_
  refine vs ?_
  obtain ⟨fp, J⟩ := ownChain x J h1
  refine x_sta J st43 (h1 := Kd.one _ (J.own (.head _))) fun w7 J => vs ?_
  refine ⟨kept_base J3 J, ?_⟩
  have H := H.join J
  simp only [List.cons_append, List.nil_append] at H
  exact ⟨_, _, rfl, res_cell H st43, _, _, rfl, H.head⟩
theorem l24Copy_ok (w : World) (cs : List Value) (x : MChain) (h : kChain.rd w w.heap.size cs x) (hs : smChain x) :
    ACalls Try.prog 102 #[.agg cs.toArray] w fun r w' => ∃ cs' fp, r = .agg cs'.toArray ∧ Sep w.heap.size w w' [Ck.own kChain fp cs' x] := by
  unfold smChain at hs
  obtain ⟨v0, rfl, h0, h1⟩ := kChain_open h
  have H := Sep.start w
  refine body_of follows Try.func102 rfl rfl _ rfl (by kernel_rfl) (vs ?_)
  refine x_bx H [v0, .int .i64 x.f_N] fun g1 w1 H => vs ?_
  have J := Sep.start w1
  refine x_al J st43 fun g2 w2 J => vs ?_
  refine draw_of [(1, true), (2, true), (4, true), (5, true), (0, false), (3, false), (6, true), (7, false)] w1.heap.size [] fun w3 hh hb3 => vs ?_
  have J := J.go (hb3 _)
  have J3 := J
  refine q_ldB H J3 sc22 ?_
  refine vs ?_
  refine q_ldB H J3 sc3 ?_
  refine vs ?_
  refine x_emp J pl_u8 sl22 fun g4 w4 J => vs ?_
  refine ⟨kept_base J3 J, ?_⟩
  refine x_app J pl_u8 sl22 (J.rd (H.rd h0)) ?_ ?_ fun f5 v5 w5 J => vs ?_
  · simp only [List.length_nil]; omega
  · simp only [List.length_nil]; omega
  refine ⟨kept_base J3 J, ?_⟩
  rw [List.nil_append] at J
  obtain ⟨A0, c0, rfl, _⟩ := sl_open (J.own (.head _))
  refine q_bld bl43 [_, _] ?_
  refine vs ?_
  obtain ⟨fp, J⟩ := ownChain x J h1
  refine x_sta J st43 (h1 := Kd.one _ (J.own (.head _))) fun w7 J => vs ?_
  refine ⟨kept_base J3 J, ?_⟩
  have H := H.join J
  simp only [List.cons_append, List.nil_append] at H
  exact ⟨_, _, rfl, res_cell H st43, _, _, rfl, H.head⟩

/-! ### the next key -/
def chainGo (x : MChain) : Bool := chainOk x && decide (x.f_N < 1000)
def chainNextC (x : MChain) : MChain := if chainGo x = true then ⟨mac x.f_Key [2], x.f_N + 1⟩ else x
def chainNextK (x : MChain) : List UInt8 := if chainGo x = true then mac x.f_Key [1] else []
theorem chainNextC_len {x : MChain} {n : Nat} (h : x.f_Key.length ≤ n) (hn : 32 ≤ n) : (chainNextC x).f_Key.length ≤ n := by
  unfold chainNextC
  split
  · have := mac_len x.f_Key [2]; show (mac x.f_Key [2]).length ≤ n; omega
  · exact h
theorem chainNextK_len (x : MChain) : (chainNextK x).length ≤ 32 := by
  unfold chainNextK
  split
  · exact mac_len _ _
  · simp
theorem chainOk_iff {x : MChain} : chainOk x = true ↔ x.f_Key.length = 32 ∧ 0 ≤ x.f_N ∧ x.f_N ≤ 1000 := by
  unfold chainOk
  simp

theorem implChainNext_ok (w : World) (cs : List Value) (x : MChain) (h : kChain.rd w w.heap.size cs x) (hs : smChain x) :
    ACalls Try.prog 34 #[.agg cs.toArray] w fun r w' => ∃ cs' fp v' fp', r = .tuple #[.agg cs'.toArray, v', .bool (chainGo x)] ∧ Sep w.heap.size w w' [Ck.own kChain fp cs' (chainNextC x), Ck.own (bytes 5) fp' [v'] (chainNextK x)] := by
  obtain ⟨v0, rfl, h0, h1⟩ := kChain_open h
  have H := Sep.start w
  refine body_of follows Try.func34 rfl rfl _ rfl (by kernel_rfl) (vs ?_)
  refine x_bx H [v0, .int .i64 x.f_N] fun g1 w1 H => vs ?_
  have J := Sep.start w1
  refine x_al J st43 fun g2 w2 J => vs ?_
  refine x_lda (H.join J) st43 ?_
  refine vs ?_
  refine x_callb J (implChainOk_ok w2 _ _ (J.rd (H.rd h))) fun w3 J => ?_
  cases hok : chainOk x with
  | false =>
    have eg : chainGo x = false := by unfold chainGo; rw [hok]; rfl
    refine vs ?_
    refine x_lda (H.join J) st43 ?_
    refine vs ?_
    refine x_call (cloneChain_ok w3 _ _ (J.rd (H.rd h)) hs) fun _ w4 ⟨cs4, fp4, e, S⟩ => ?_
    subst e
    have J := J.join S
    simp only [List.cons_append, List.nil_append] at J
    obtain ⟨t0, rfl, _⟩ := kChain_open (J.own (.head _))
    refine vs ?_
    refine x_sta J st43 (h1 := Kd.one _ (J.own (.head _))) fun w7 J => vs ?_
    have H := H.join J
    simp only [List.cons_append, List.nil_append] at H
    have e1 : chainNextC x = x := by unfold chainNextC; rw [if_neg (by rw [eg]; decide)]
    have e2 : chainNextK x = [] := by unfold chainNextK; rw [if_neg (by rw [eg]; decide)]
    rw [e1, e2, eg]
    have H := H.nothing (d := bytes 5) (sl_zero w7)
    exact ⟨_, _, rfl, res_cell H st43, _, _, _, _, rfl, H.two (.there .here) .here⟩
  | true =>
    refine vs ?_
    refine x_ld (H.join J) sc3 ?_
    by_cases q : (1000 : Int) ≤ x.f_N
    · have eg : chainGo x = false := by unfold chainGo; rw [decide_eq_false (by omega)]; simp
      refine ve q ?_
      refine x_lda (H.join J) st43 ?_
      refine vs ?_
      refine x_call (cloneChain_ok w3 _ _ (J.rd (H.rd h)) hs) fun _ w4 ⟨cs4, fp4, e, S⟩ => ?_
      subst e
      have J := J.join S
      simp only [List.cons_append, List.nil_append] at J
      obtain ⟨t0, rfl, _⟩ := kChain_open (J.own (.head _))
      refine vs ?_
      refine x_sta J st43 (h1 := Kd.one _ (J.own (.head _))) fun w7 J => vs ?_
      have H := H.join J
      simp only [List.cons_append, List.nil_append] at H
      have e1 : chainNextC x = x := by unfold chainNextC; rw [if_neg (by rw [eg]; decide)]
      have e2 : chainNextK x = [] := by unfold chainNextK; rw [if_neg (by rw [eg]; decide)]
      rw [e1, e2, eg]
      have H := H.nothing (d := bytes 5) (sl_zero w7)
      exact ⟨_, _, rfl, res_cell H st43, _, _, _, _, rfl, H.two (.there .here) .here⟩
    refine ve q ?_
    have eg : chainGo x = true := by unfold chainGo; rw [hok, decide_eq_true (by omega)]; rfl
    obtain ⟨o1, o2, o3⟩ := chainOk_iff.1 hok
    have e1 : chainNextC x = ⟨mac x.f_Key [2], x.f_N + 1⟩ := by unfold chainNextC; rw [if_pos eg]
    have e2 : chainNextK x = mac x.f_Key [1] := by unfold chainNextK; rw [if_pos eg]
    rw [e1, e2, eg]
    have ew : w64 (x.f_N + 1) = x.f_N + 1 := w64_id (by omega) (by omega)
    refine fork_draw w1.heap.size [] fun w4 hh hb4 => ?_
    have J := J.go (hb4 _)
    have J3 := J
    refine rest_pre [(0, true), (1, true), (4, true), (5, true), (6, true), (8, true), (9, true)] 8 ?_
    refine vs ?_
    refine q_ldB H J3 sc22 ?_
    refine vs ?_
    refine q_ldB H J3 sc3 ?_
    refine ve ew ?_
    refine q_ldB H J3 sc22 ?_
    refine vs ?_
    refine rest_fork 2 10 7 ?_ ?_
    · refine vs ?_
      refine x_lst J pl_u8 sl22 [2] (by simp) fun ga w4 J => vs ?_
      refine ⟨kept_base J3 J, ?_⟩
      refine rest_fork 3 10 6 ?_ ?_
      · refine vs ?_
        refine x_callf J (implMac_ok w4 _ _ _ [2] (J.rd (H.rd h0)) (J.own (.head _))) fun ra fa w5 J => vs ?_
        refine ⟨kept_base J3 J, ?_⟩
        obtain ⟨A5, c5, rfl, _⟩ := sl_open (J.own (.head _))
        refine rest_end [(7, true), (10, false), (11, false), (12, false), (13, true), (14, true)] ?_
        refine vs ?_
        refine q_bld bl43 [_, _] ?_
        refine vs ?_
        refine x_lst J pl_u8 sl22 [1] (by simp) fun gb w6 J => vs ?_
        refine ⟨kept_base J3 J, ?_⟩
        refine x_callf J (implMac_ok w6 _ _ _ [1] (J.rd (H.rd h0)) (J.own (.head _))) fun rb fb w7 J => vs ?_
        refine ⟨kept_base J3 J, ?_⟩
        have J := J.front (c := Ck.own (bytes 5) fa [.slice A5 (mac x.f_Key [2]).length c5] (mac x.f_Key [2]))
        obtain ⟨fp, J⟩ := ownChain (⟨mac x.f_Key [2], x.f_N + 1⟩ : MChain) J (by constructor <;> dsimp only <;> omega)
        refine x_sta J st43 (h1 := Kd.one _ (J.own (.head _))) fun w8 J => vs ?_
        refine ⟨kept_base J3 J, ?_⟩
        have H := H.join J
        simp only [List.cons_append, List.nil_append] at H
        exact ⟨_, _, rfl, res_cell H st43, _, _, _, _, rfl, H.two .here .here⟩
      · refine vs ?_
        refine x_lst J pl_u8 sl22 [1] (by simp) fun gb w6 J => vs ?_
        refine ⟨kept_base J3 J, ?_⟩
        refine rest_end [(3, false), (7, true), (11, false), (12, false), (13, true), (14, true)] ?_
        refine vs ?_
        refine x_callf J (implMac_ok w6 _ _ _ [2] (J.rd (H.rd h0)) (J.own (.tail _ (.head _)))) fun ra fa w5 J => vs ?_
        refine ⟨kept_base J3 J, ?_⟩
        obtain ⟨A5, c5, rfl, _⟩ := sl_open (J.own (.head _))
        refine q_bld bl43 [_, _] ?_
        refine vs ?_
        refine x_callf J (implMac_ok w5 _ _ _ [1] (J.rd (H.rd h0)) (J.own (.tail _ (.head _)))) fun rb fb w7 J => vs ?_
        refine ⟨kept_base J3 J, ?_⟩
        have J := J.front (c := Ck.own (bytes 5) fa [.slice A5 (mac x.f_Key [2]).length c5] (mac x.f_Key [2]))
        obtain ⟨fp, J⟩ := ownChain (⟨mac x.f_Key [2], x.f_N + 1⟩ : MChain) J (by constructor <;> dsimp only <;> omega)
        refine x_sta J st43 (h1 := Kd.one _ (J.own (.head _))) fun w8 J => vs ?_
        refine ⟨kept_base J3 J, ?_⟩
        have H := H.join J
        simp only [List.cons_append, List.nil_append] at H
        exact ⟨_, _, rfl, res_cell H st43, _, _, _, _, rfl, H.two .here .here⟩
    · refine vs ?_
      refine x_lst J pl_u8 sl22 [1] (by simp) fun gb w6 J => vs ?_
      refine ⟨kept_base J3 J, ?_⟩
      refine rest_end [(2, false), (3, false), (7, true), (11, false), (12, false), (13, true), (14, true)] ?_
      refine vs ?_
      refine x_lst J pl_u8 sl22 [2] (by simp) fun ga w4 J => vs ?_
      refine ⟨kept_base J3 J, ?_⟩
      refine x_callf J (implMac_ok w4 _ _ _ [2] (J.rd (H.rd h0)) (J.own (.head _))) fun ra fa w5 J => vs ?_
      refine ⟨kept_base J3 J, ?_⟩
      obtain ⟨A5, c5, rfl, _⟩ := sl_open (J.own (.head _))
      refine q_bld bl43 [_, _] ?_
      refine vs ?_
      refine x_callf J (implMac_ok w5 _ _ _ [1] (J.rd (H.rd h0)) (J.own (.tail _ (.tail _ (.head _))))) fun rb fb w7 J => vs ?_
      refine ⟨kept_base J3 J, ?_⟩
      have J := J.front (c := Ck.own (bytes 5) fa [.slice A5 (mac x.f_Key [2]).length c5] (mac x.f_Key [2]))
      obtain ⟨fp, J⟩ := ownChain (⟨mac x.f_Key [2], x.f_N + 1⟩ : MChain) J (by constructor <;> dsimp only <;> omega)
      refine x_sta J st43 (h1 := Kd.one _ (J.own (.head _))) fun w8 J => vs ?_
      refine ⟨kept_base J3 J, ?_⟩
      have H := H.join J
      simp only [List.cons_append, List.nil_append] at H
      exact ⟨_, _, rfl, res_cell H st43, _, _, _, _, rfl, H.two .here .here⟩

theorem specChainNext_ok (w : World) (cs : List Value) (x : MChain) (h : kChain.rd w w.heap.size cs x) (hs : smChain x) :
    ACalls Try.prog 44 #[.agg cs.toArray] w fun r w' => ∃ cs' fp v' fp', r = .tuple #[.agg cs'.toArray, v', .bool (chainGo x)] ∧ Sep w.heap.size w w' [Ck.own kChain fp cs' (chainNextC x), Ck.own (bytes 5) fp' [v'] (chainNextK x)] := by
  obtain ⟨v0, rfl, h0, h1⟩ := kChain_open h
  have H := Sep.start w
  refine body_of follows Try.func44 rfl rfl _ rfl (by kernel_rfl) (vs ?_)
  refine x_bx H [v0, .int .i64 x.f_N] fun g1 w1 H => vs ?_
  have J := Sep.start w1
  refine x_al J st43 fun g2 w2 J => vs ?_
  refine x_lda (H.join J) st43 ?_
  refine vs ?_
  refine x_callb J (specChainOk_ok w2 _ _ (J.rd (H.rd h))) fun w3 J => ?_
  cases hok : chainOk x with
  | false =>
    have eg : chainGo x = false := by unfold chainGo; rw [hok]; rfl
    refine vs ?_
    refine x_lda (H.join J) st43 ?_
    refine vs ?_
    refine x_call (l24Copy_ok w3 _ _ (J.rd (H.rd h)) hs) fun _ w4 ⟨cs4, fp4, e, S⟩ => ?_
    subst e
    have J := J.join S
    simp only [List.cons_append, List.nil_append] at J
    obtain ⟨t0, rfl, _⟩ := kChain_open (J.own (.head _))
    refine vs ?_
    refine x_emp J pl_u8 sl22 fun g5 w5 J => vs ?_
    refine x_sta J st43 (h1 := Kd.one _ (J.own (.tail _ (.head _)))) fun w7 J => vs ?_
    have H := H.join J
    simp only [List.cons_append, List.nil_append] at H
    have e1 : chainNextC x = x := by unfold chainNextC; rw [if_neg (by rw [eg]; decide)]
    have e2 : chainNextK x = [] := by unfold chainNextK; rw [if_neg (by rw [eg]; decide)]
    rw [e1, e2, eg]
    exact ⟨_, _, rfl, res_cell H st43, _, _, _, _, rfl, H.two (.there .here) .here⟩
  | true =>
    refine vs ?_
    refine x_ld (H.join J) sc3 ?_
    by_cases q : (1000 : Int) ≤ x.f_N
    · have eg : chainGo x = false := by unfold chainGo; rw [decide_eq_false (by omega)]; simp
      refine ve q ?_
      refine x_lda (H.join J) st43 ?_
      refine vs ?_
      refine x_call (l24Copy_ok w3 _ _ (J.rd (H.rd h)) hs) fun _ w4 ⟨cs4, fp4, e, S⟩ => ?_
      subst e
      have J := J.join S
      simp only [List.cons_append, List.nil_append] at J
      obtain ⟨t0, rfl, _⟩ := kChain_open (J.own (.head _))
      refine vs ?_
      refine x_emp J pl_u8 sl22 fun g5 w5 J => vs ?_
      refine x_sta J st43 (h1 := Kd.one _ (J.own (.tail _ (.head _)))) fun w7 J => vs ?_
      have H := H.join J
      simp only [List.cons_append, List.nil_append] at H
      have e1 : chainNextC x = x := by unfold chainNextC; rw [if_neg (by rw [eg]; decide)]
      have e2 : chainNextK x = [] := by unfold chainNextK; rw [if_neg (by rw [eg]; decide)]
      rw [e1, e2, eg]
      exact ⟨_, _, rfl, res_cell H st43, _, _, _, _, rfl, H.two (.there .here) .here⟩
    refine ve q ?_
    have eg : chainGo x = true := by unfold chainGo; rw [hok, decide_eq_true (by omega)]; rfl
    obtain ⟨o1, o2, o3⟩ := chainOk_iff.1 hok
    have e1 : chainNextC x = ⟨mac x.f_Key [2], x.f_N + 1⟩ := by unfold chainNextC; rw [if_pos eg]
    have e2 : chainNextK x = mac x.f_Key [1] := by unfold chainNextK; rw [if_pos eg]
    rw [e1, e2, eg]
    have ew : w64 (x.f_N + 1) = x.f_N + 1 := w64_id (by omega) (by omega)
    refine fork_draw w1.heap.size [] fun w4 hh hb4 => ?_
    have J := J.go (hb4 _)
    have J3 := J
    refine rest_pre [(0, true), (1, true), (4, true), (5, true), (6, true), (8, true), (9, true)] 8 ?_
    refine vs ?_
    refine q_ldB H J3 sc22 ?_
    refine vs ?_
    refine q_ldB H J3 sc3 ?_
    refine ve ew ?_
    refine q_ldB H J3 sc22 ?_
    refine vs ?_
    refine rest_fork 2 10 7 ?_ ?_
    · refine vs ?_
      refine x_lst J pl_u8 sl22 [2] (by simp) fun ga w4 J => vs ?_
      refine ⟨kept_base J3 J, ?_⟩
      refine rest_fork 3 10 6 ?_ ?_
      · refine vs ?_
        refine x_callf J (specMac_ok w4 _ _ _ [2] (J.rd (H.rd h0)) (J.own (.head _))) fun ra fa w5 J => vs ?_
        refine ⟨kept_base J3 J, ?_⟩
        obtain ⟨A5, c5, rfl, _⟩ := sl_open (J.own (.head _))
        refine rest_end [(7, true), (10, false), (11, false), (12, false), (13, true), (14, true)] ?_
        refine vs ?_
        refine q_bld bl43 [_, _] ?_
        refine vs ?_
        refine x_lst J pl_u8 sl22 [1] (by simp) fun gb w6 J => vs ?_
        refine ⟨kept_base J3 J, ?_⟩
        refine x_callf J (specMac_ok w6 _ _ _ [1] (J.rd (H.rd h0)) (J.own (.head _))) fun rb fb w7 J => vs ?_
        refine ⟨kept_base J3 J, ?_⟩
        have J := J.front (c := Ck.own (bytes 5) fa [.slice A5 (mac x.f_Key [2]).length c5] (mac x.f_Key [2]))
        obtain ⟨fp, J⟩ := ownChain (⟨mac x.f_Key [2], x.f_N + 1⟩ : MChain) J (by constructor <;> dsimp only <;> omega)
        refine x_sta J st43 (h1 := Kd.one _ (J.own (.head _))) fun w8 J => vs ?_
        refine ⟨kept_base J3 J, ?_⟩
        have H := H.join J
        simp only [List.cons_append, List.nil_append] at H
        exact ⟨_, _, rfl, res_cell H st43, _, _, _, _, rfl, H.two .here .here⟩
      · refine vs ?_
        refine x_lst J pl_u8 sl22 [1] (by simp) fun gb w6 J => vs ?_
        refine ⟨kept_base J3 J, ?_⟩
        refine rest_end [(3, false), (7, true), (11, false), (12, false), (13, true), (14, true)] ?_
        refine vs ?_
        refine x_callf J (specMac_ok w6 _ _ _ [2] (J.rd (H.rd h0)) (J.own (.tail _ (.head _)))) fun ra fa w5 J => vs ?_
        refine ⟨kept_base J3 J, ?_⟩
        obtain ⟨A5, c5, rfl, _⟩ := sl_open (J.own (.head _))
        refine q_bld bl43 [_, _] ?_
        refine vs ?_
        refine x_callf J (specMac_ok w5 _ _ _ [1] (J.rd (H.rd h0)) (J.own (.tail _ (.head _)))) fun rb fb w7 J => vs ?_
        refine ⟨kept_base J3 J, ?_⟩
        have J := J.front (c := Ck.own (bytes 5) fa [.slice A5 (mac x.f_Key [2]).length c5] (mac x.f_Key [2]))
        obtain ⟨fp, J⟩ := ownChain (⟨mac x.f_Key [2], x.f_N + 1⟩ : MChain) J (by constructor <;> dsimp only <;> omega)
        refine x_sta J st43 (h1 := Kd.one _ (J.own (.head _))) fun w8 J => vs ?_
        refine ⟨kept_base J3 J, ?_⟩
        have H := H.join J
        simp only [List.cons_append, List.nil_append] at H
        exact ⟨_, _, rfl, res_cell H st43, _, _, _, _, rfl, H.two .here .here⟩
    · refine vs ?_
      refine x_lst J pl_u8 sl22 [1] (by simp) fun gb w6 J => vs ?_
      refine ⟨kept_base J3 J, ?_⟩
      refine rest_end [(2, false), (3, false), (7, true), (11, false), (12, false), (13, true), (14, true)] ?_
      refine vs ?_
      refine x_lst J pl_u8 sl22 [2] (by simp) fun ga w4 J => vs ?_
      refine ⟨kept_base J3 J, ?_⟩
      refine x_callf J (specMac_ok w4 _ _ _ [2] (J.rd (H.rd h0)) (J.own (.head _))) fun ra fa w5 J => vs ?_
      refine ⟨kept_base J3 J, ?_⟩
      obtain ⟨A5, c5, rfl, _⟩ := sl_open (J.own (.head _))
      refine q_bld bl43 [_, _] ?_
      refine vs ?_
      refine x_callf J (specMac_ok w5 _ _ _ [1] (J.rd (H.rd h0)) (J.own (.tail _ (.tail _ (.head _))))) fun rb fb w7 J => vs ?_
      refine ⟨kept_base J3 J, ?_⟩
      have J := J.front (c := Ck.own (bytes 5) fa [.slice A5 (mac x.f_Key [2]).length c5] (mac x.f_Key [2]))
      obtain ⟨fp, J⟩ := ownChain (⟨mac x.f_Key [2], x.f_N + 1⟩ : MChain) J (by constructor <;> dsimp only <;> omega)
      refine x_sta J st43 (h1 := Kd.one _ (J.own (.head _))) fun w8 J => vs ?_
      refine ⟨kept_base J3 J, ?_⟩
      have H := H.join J
      simp only [List.cons_append, List.nil_append] at H
      exact ⟨_, _, rfl, res_cell H st43, _, _, _, _, rfl, H.two .here .here⟩

end Go.Proofs.Ytagljofpmjaciaa.V
