/- Items copied and judged, counted by their route: both sides. -/
import Derived.Test.YtdljbekkckfmnaaGreatWx
import Derived.Test.YtdljbekkckfmnaaGreatPq
import Derived.Test.YtdljbekkckfmnaaGreatWhx
import Derived.Test.YtdljbekkckfmnaaGreatVv
namespace Go.Proofs.YtdljbekkckfmnaaGreat.V
open Go Go.RowKit
set_option maxRecDepth 100000
set_option maxHeartbeats 4000000
set_option linter.unusedSimpArgs false
set_option linter.unusedVariables false
set_option pp.deepTerms false
set_option pp.deepTerms.threshold 3

abbrev items : Kd (List MItem) := Kd.slice 32 kItem
theorem implItemOk_ok (w : World) (cs : List Value) (x : MItem) (h : kItem.rd w w.heap.size cs x) (hr : x.f_Route.length ≤ 1099511627776) :
    ACalls Tryz.prog 56 #[.agg cs.toArray] w fun r w' => r = .bool (itemOk x) ∧ Below w.heap.size w w' := by
  obtain ⟨v3, rfl, h0, h1, h2, h3⟩ := kItem_open h
  obtain ⟨A3, c3, rfl, _, _, _⟩ := sl_open h3
  have H := Sep.start w
  refine body_of follows Tryz.func56 rfl rfl _ rfl (by kernel_rfl) (vs ?_)
  refine x_bx H [_, _, _, _] fun g1 w1 H => vs ?_
  refine x_ld H sc9 ?_
  refine vs ?_
  refine x_callb H (implIsRoute_ok w1 _ hr) fun w2 H => ?_
  cases hR : isRoute x.f_Route with
  | false =>
    refine vs ?_
    have : itemOk x = false := by unfold itemOk; rw [hR]; rfl
    rw [this]
    exact ⟨rfl, H.bel⟩
  | true =>
    refine vs ?_
    refine x_ld H sc3 ?_
    refine vs ?_
    refine x_callw (in_ok w2 _ _ _) ?_
    by_cases hA : 0 ≤ x.f_Topic ∧ x.f_Topic ≤ 9
    · refine ve hA ?_
      refine x_ld H sc3 ?_
      refine vs ?_
      refine x_callw (in_ok w2 _ _ _) ?_
      by_cases hB : 0 ≤ x.f_Due ∧ x.f_Due ≤ 100000
      · refine ve hB ?_
        refine x_ld H sc22 ?_
        refine vs ?_
        refine ⟨?_, H.bel⟩
        have : itemOk x = decide ((x.f_Bytes.length : Int) ≤ 1560) := by
          unfold itemOk; rw [hR, decide_eq_true hA, decide_eq_true hB, Bool.true_and, Bool.true_and, Bool.true_and]; exact decide_eq_decide.2 (by omega)
        rw [this]
      · refine ve hB ?_
        have : itemOk x = false := by unfold itemOk; rw [hR, decide_eq_false hB]; simp
        rw [this]
        exact ⟨rfl, H.bel⟩
    · refine ve hA ?_
      have : itemOk x = false := by unfold itemOk; rw [hR, decide_eq_false hA]; rfl
      rw [this]
      exact ⟨rfl, H.bel⟩
theorem specItemOk_ok (w : World) (cs : List Value) (x : MItem) (h : kItem.rd w w.heap.size cs x) (hr : x.f_Route.length ≤ 1099511627776) :
    ACalls Tryz.prog 74 #[.agg cs.toArray] w fun r w' => r = .bool (itemOk x) ∧ Below w.heap.size w w' := by
  obtain ⟨v3, rfl, h0, h1, h2, h3⟩ := kItem_open h
  obtain ⟨A3, c3, rfl, _, _, _⟩ := sl_open h3
  have H := Sep.start w
  refine body_of follows Tryz.func74 rfl rfl _ rfl (by kernel_rfl) (vs ?_)
  refine x_bx H [_, _, _, _] fun g1 w1 H => vs ?_
  refine x_ld H sc9 ?_
  refine vs ?_
  refine x_callb H (specIsRoute_ok w1 _ hr) fun w2 H => ?_
  cases hR : isRoute x.f_Route with
  | false =>
    refine vs ?_
    have : itemOk x = false := by unfold itemOk; rw [hR]; rfl
    rw [this]
    exact ⟨rfl, H.bel⟩
  | true =>
    refine vs ?_
    refine x_ld H sc3 ?_
    refine vs ?_
    refine x_callw (l1In_ok w2 _ _ _) ?_
    by_cases hA : 0 ≤ x.f_Topic ∧ x.f_Topic ≤ 9
    · refine ve hA ?_
      refine x_ld H sc3 ?_
      refine vs ?_
      refine x_callw (l1In_ok w2 _ _ _) ?_
      by_cases hB : 0 ≤ x.f_Due ∧ x.f_Due ≤ 100000
      · refine ve hB ?_
        refine x_ld H sc22 ?_
        refine vs ?_
        refine ⟨?_, H.bel⟩
        have : itemOk x = decide ((x.f_Bytes.length : Int) ≤ 1560) := by
          unfold itemOk; rw [hR, decide_eq_true hA, decide_eq_true hB, Bool.true_and, Bool.true_and, Bool.true_and]; exact decide_eq_decide.2 (by omega)
        rw [this]
      · refine ve hB ?_
        have : itemOk x = false := by unfold itemOk; rw [hR, decide_eq_false hB]; simp
        rw [this]
        exact ⟨rfl, H.bel⟩
    · refine ve hA ?_
      have : itemOk x = false := by unfold itemOk; rw [hR, decide_eq_false hA]; rfl
      rw [this]
      exact ⟨rfl, H.bel⟩

theorem cloneBy_ok (w : World) (v : Value) (a : List UInt8) (h : (bytes 5).rd w w.heap.size [v] a) (hl : a.length ≤ 1099511627776) :
    ACalls Tryz.prog 88 #[v] w fun r w' => ∃ fp, Sep w.heap.size w w' [Ck.own (bytes 5) fp [r] a] := by
  have h0 := h
  obtain ⟨A, c, rfl, hc1, hc2, ha⟩ := sl_open h
  have H := Sep.start w
  refine body_of follows Tryz.func88 rfl rfl _ rfl (by kernel_rfl) (vs ?_)
  refine x_nil Tryz.underlying22 ?_
  cases A with
  | none =>
    obtain rfl := sl_none ha
    refine ve (show (none : Option Addr).isNone = true from rfl) ?_
    exact ⟨_, H.nothing (sl_zero w)⟩
  | some ad =>
    refine ve (show (some ad).isNone = false from rfl) ?_
    refine x_emp H pl_u8 sl22 fun g w1 H => vs ?_
    refine x_app H pl_u8 sl22 (H.rd h0) ?_ ?_ fun fp5 v5 w5 H => vs ?_
    · simp only [List.length_nil]; omega
    · simp only [List.length_nil]; omega
    exact ⟨_, H⟩
theorem cloneItem_ok (w : World) (cs : List Value) (x : MItem) (h : kItem.rd w w.heap.size cs x) (hs : smItem x) :
    ACalls Tryz.prog 112 #[.agg cs.toArray] w fun r w' => ∃ cs' fp, r = .agg cs'.toArray ∧ Sep w.heap.size w w' [Ck.own kItem fp cs' x] := by
  unfold smItem at hs
  obtain ⟨v3, rfl, h0, h1, h2, h3⟩ := kItem_open h
  have H := Sep.start w
  refine body_of follows Tryz.func112 rfl rfl _ rfl (by kernel_rfl) (vs ?_)
  refine x_bx H [.string ⟨x.f_Route.toArray⟩, .int .i64 x.f_Topic, .int .i64 x.f_Due, v3] fun g1 w1 H => vs ?_
  refine x_al H st32 fun g2 w2 H => vs ?_
  refine x_ld H sc22 ?_
  refine vs ?_
  refine x_callf H (cloneBy_ok w2 v3 _ (H.rd h3) (by omega)) fun r3 f3 w3 H => vs ?_
  refine x_st H sc22 (h1 := Kd.one _ (H.own (.head _)) _ (by simp)) fun w4 H => vs ?_
  refine x_lda H st32 ?_
  refine vs ?_
  obtain ⟨fp, H⟩ := ownItem x H h0 h1 h2
  refine x_sta H st32 (h1 := Kd.one _ (H.own (.head _))) fun w5 H => vs ?_
  exact ⟨_, _, rfl, res_cell H st32, _, _, rfl, H.head⟩
theorem l13Item_ok (w : World) (cs : List Value) (x : MItem) (h : kItem.rd w w.heap.size cs x) (hs : smItem x) :
    ACalls Tryz.prog 136 #[.agg cs.toArray] w fun r w' => ∃ cs' fp, r = .agg cs'.toArray ∧ Sep w.heap.size w w' [Ck.own kItem fp cs' x] := by
  unfold smItem at hs
  obtain ⟨v3, rfl, h0, h1, h2, h3⟩ := kItem_open h
  have H := Sep.start w
  refine body_of follows Tryz.func136 rfl rfl _ rfl (by kernel_rfl) (vs ?_)
  refine x_bx H [.string ⟨x.f_Route.toArray⟩, .int .i64 x.f_Topic, .int .i64 x.f_Due, v3] fun g1 w1 H => vs ?_
  refine x_al H st32 fun g2 w2 H => vs ?_
  refine x_emp H pl_u8 sl22 fun g3 w3 H => vs ?_
  refine x_ld H sc22 ?_
  refine vs ?_
  refine x_app H pl_u8 sl22 (H.rd h3) ?_ ?_ fun f3 r3 w4 H => vs ?_
  · simp only [List.length_nil]; omega
  · simp only [List.length_nil]; omega
  rw [List.nil_append] at H
  refine x_st H sc22 (h1 := Kd.one _ (H.own (.head _)) _ (by simp)) fun w4 H => vs ?_
  refine x_lda H st32 ?_
  refine vs ?_
  obtain ⟨fp, H⟩ := ownItem x H h0 h1 h2
  refine x_sta H st32 (h1 := Kd.one _ (H.own (.head _))) fun w5 H => vs ?_
  exact ⟨_, _, rfl, res_cell H st32, _, _, rfl, H.head⟩

theorem cloneItems_ok (w : World) (v : Value) (l : List MItem) (h : items.rd w w.heap.size [v] l) (hs : smItemS l) :
    ACalls Tryz.prog 109 #[v] w fun r w' => ∃ fp, Sep w.heap.size w w' [Ck.own items fp [r] l] := by
  have hlm := sl_len h
  have hs0 := hs.1
  obtain ⟨A, c, rfl, hc1, hc2, ha⟩ := sl_open h
  have H := (Sep.start w).nothing (d := items) (sl_zero w)
  refine body_of follows Tryz.func109 rfl rfl _ rfl (by kernel_rfl) (vs ?_)
  refine loop_at (σ := Nat × Value × List Nat) (fun x => [(3, x.2.1), (6, .slice A l.length c), (7, .int .i64 (l.length : Int)), (8, .int .i64 (x.1 : Int))])
    (fun x w' => x.1 ≤ l.length ∧ Sep w.heap.size w w' [Ck.own items x.2.2 [x.2.1] (l.take x.1)]) (fun x => l.length - x.1) (0, _, _) (vs trivial) ⟨Nat.zero_le _, H⟩ ?_
  rintro ⟨k, v', fp⟩ s w2 ⟨hk, H⟩
  dsimp only at hk H
  refine vs (ways ?_ ?_)
  · refine vh fun hlt => ?_
    have hk2 : k < l.length := by omega
    have hsm := hs.2 l[k] (List.getElem_mem hk2)
    refine x_ele H sl24 rfl k hk2 ha rfl fun ad es hb hr hc => vs ?_
    obtain ⟨u, rfl, q0, q1, q2, q3⟩ := kItem_open hr
    refine x_lds st32 hc rfl (vs ?_)
    refine x_al H st32 fun g5 w3 H => vs ?_
    refine x_sta H st32 (h1 := Kd.one _ hr) fun w4 H => vs ?_
    refine x_lda H st32 ?_
    refine vs ?_
    refine x_call (cloneItem_ok w4 _ l[k] (H.rd hr) hsm) fun _ w5 ⟨cs5, f5, e, S⟩ => ?_
    subst e
    have H := H.join S
    simp only [List.cons_append, List.nil_append] at H
    have H := H.drop2
    refine vs ?_
    refine x_lst1 sl24 H rfl rfl fun f6 v6 w6 H => vs ?_
    refine x_appO sl24 H rfl ?_ ?_ fun f7 v7 w7 H => vs ?_
    · simp only [List.length_take, List.length_cons, List.length_nil]; omega
    · simp only [List.length_take, List.length_cons, List.length_nil]; omega
    refine ⟨(k + 1, v7, f7), ⟨rfl, i64_eq (by show w64 ((k : Int) + 1) = ((k + 1 : Nat) : Int); unfold w64; omega)⟩, ⟨hk2, ?_⟩, by show l.length - (k + 1) < l.length - k; omega⟩
    show Sep _ _ _ [Ck.own _ f7 [v7] (l.take (k + 1))]
    rw [List.take_succ_eq_append_getElem hk2]
    exact H
  · refine vh fun hlt => ?_
    obtain rfl : k = l.length := by omega
    rw [List.take_length] at H
    exact ⟨_, H⟩
theorem l13Queue_ok (w : World) (v : Value) (l : List MItem) (h : items.rd w w.heap.size [v] l) (hs : smItemS l) :
    ACalls Tryz.prog 135 #[v] w fun r w' => ∃ fp, Sep w.heap.size w w' [Ck.own items fp [r] l] := by
  have hlm := sl_len h
  have hs0 := hs.1
  obtain ⟨A, c, rfl, hc1, hc2, ha⟩ := sl_open h
  refine body_of follows Tryz.func135 rfl rfl _ rfl (by kernel_rfl) (vs ?_)
  refine x_empO (d := kItem) (Sep.start w) sl24 fun g w1 H => vs ?_
  refine loop_at (σ := Nat × Value × List Nat) (fun x => [(0, .slice A l.length c), (3, x.2.1), (4, .int .i64 (x.1 : Int))])
    (fun x w' => x.1 ≤ l.length ∧ Sep w.heap.size w w' [Ck.own items x.2.2 [x.2.1] (l.take x.1)]) (fun x => l.length - x.1) (0, _, _) (vs trivial) ⟨Nat.zero_le _, H⟩ ?_
  rintro ⟨k, v', fp⟩ s w2 ⟨hk, H⟩
  dsimp only at hk H
  refine vs (ways ?_ ?_)
  · refine vh fun hlt => ?_
    have hk2 : k < l.length := by omega
    have hsm := hs.2 l[k] (List.getElem_mem hk2)
    refine x_ele H sl24 rfl k hk2 ha rfl fun ad es hb hr hc => vs ?_
    refine x_lds st32 hc (Kd.len _ hr) (vs ?_)
    refine x_call (l13Item_ok w2 _ l[k] (H.rd hr) hsm) fun _ w5 ⟨cs5, f5, e, S⟩ => ?_
    subst e
    have H := H.join S
    simp only [List.cons_append, List.nil_append] at H
    refine vs ?_
    refine x_lst1 sl24 H rfl rfl fun f6 v6 w6 H => vs ?_
    refine x_appO sl24 H rfl ?_ ?_ fun f7 v7 w7 H => vs ?_
    · simp only [List.length_take, List.length_cons, List.length_nil]; omega
    · simp only [List.length_take, List.length_cons, List.length_nil]; omega
    refine ⟨(k + 1, v7, f7), ⟨rfl, i64_eq (by show w64 ((k : Int) + 1) = ((k + 1 : Nat) : Int); unfold w64; omega)⟩, ⟨hk2, ?_⟩, by show l.length - (k + 1) < l.length - k; omega⟩
    show Sep _ _ _ [Ck.own _ f7 [v7] (l.take (k + 1))]
    rw [List.take_succ_eq_append_getElem hk2]
    exact H
  · refine vh fun hlt => ?_
    obtain rfl : k = l.length := by omega
    rw [List.take_length] at H
    exact ⟨_, H⟩

theorem Sep.none {n : Nat} {w0 w : World} {L : List Ck} (H : Sep n w0 w L) : Sep n w0 w [] := Sep.left (L := []) (M := L) H
theorem implOf_ok (w : World) (v : Value) (l : List MItem) (r : List UInt8) (h : items.rd w w.heap.size [v] l) :
    ACalls Tryz.prog 124 #[v, .string ⟨r.toArray⟩] w fun q w' => q = .int .i64 (ofN l r : Int) ∧ Below w.heap.size w w' := by
  have hlm := sl_len h
  obtain ⟨A, c, rfl, hc1, hc2, ha⟩ := sl_open h
  refine body_of follows Tryz.func124 rfl rfl _ rfl (by kernel_rfl) (vs ?_)
  refine loop_at (σ := Nat) (fun k => [(1, .string ⟨r.toArray⟩), (5, .int .i64 (ofN (l.take k) r : Int)), (8, .slice A l.length c), (9, .int .i64 (l.length : Int)), (10, .int .i64 (k : Int))])
    (fun k w' => k ≤ l.length ∧ Sep w.heap.size w w' []) (fun k => l.length - k) 0 (vs rfl) ⟨Nat.zero_le _, Sep.start w⟩ ?_
  rintro k s w2 ⟨hk, H⟩
  refine vs (ways ?_ ?_)
  · refine vh fun hlt => ?_
    have hk2 : k < l.length := by omega
    refine x_ele H sl24 rfl k hk2 ha rfl fun ad es hb hr hc => vs ?_
    obtain ⟨u, rfl, q0, q1, q2, q3⟩ := kItem_open hr
    refine x_lds st32 hc rfl (vs ?_)
    refine x_al H st32 fun g5 w3 H => vs ?_
    refine x_sta H st32 (h1 := Kd.one _ hr) fun w4 H => vs ?_
    refine x_ld H sc9 ?_
    have hle := ofN_le (l.take k) r
    rw [List.length_take] at hle
    have hsu := ofN_succ hk2 r
    refine vs (ways ?_ ?_)
    · refine vh fun he => ?_
      rw [if_pos he] at hsu
      refine ⟨k + 1, ⟨i64_eq (by rw [hsu]; unfold w64; omega), i64_eq (by unfold w64; omega)⟩, ⟨hk2, H.none⟩, by omega⟩
    · refine vh fun he => ?_
      rw [if_neg he] at hsu
      refine ⟨k + 1, ⟨by rw [hsu]; rfl, i64_eq (by unfold w64; omega)⟩, ⟨hk2, H.none⟩, by omega⟩
  · refine vh fun hlt => ?_
    obtain rfl : k = l.length := by omega
    rw [List.take_length]
    exact ⟨rfl, H.bel⟩
theorem l1Bit_ok (w : World) (b : Bool) : ACalls Tryz.prog 164 #[.bool b] w fun q w' => q = .int .i64 (if b = true then 1 else 0) ∧ w' = w := by
  refine body_of follows Tryz.func164 rfl rfl _ rfl (by kernel_rfl) ?_
  cases b with
  | true => refine vs ?_; exact trivial
  | false => refine vs ?_; exact trivial
theorem specOf_ok (w : World) (v : Value) (l : List MItem) (r : List UInt8) (h : items.rd w w.heap.size [v] l) :
    ACalls Tryz.prog 139 #[v, .string ⟨r.toArray⟩] w fun q w' => q = .int .i64 (ofN l r : Int) ∧ Below w.heap.size w w' := by
  have hlm := sl_len h
  obtain ⟨A, c, rfl, hc1, hc2, ha⟩ := sl_open h
  refine body_of follows Tryz.func139 rfl rfl _ rfl (by kernel_rfl) (vs ?_)
  refine loop_at (σ := Nat) (fun k => [(0, .slice A l.length c), (1, .string ⟨r.toArray⟩), (5, .int .i64 (ofN (l.take k) r : Int)), (6, .int .i64 (k : Int))])
    (fun k w' => k ≤ l.length ∧ Sep w.heap.size w w' []) (fun k => l.length - k) 0 (vs rfl) ⟨Nat.zero_le _, Sep.start w⟩ ?_
  rintro k s w2 ⟨hk, H⟩
  refine vs (ways ?_ ?_)
  · refine vh fun hlt => ?_
    have hk2 : k < l.length := by omega
    refine x_ele H sl24 rfl k hk2 ha rfl fun ad es hb hr hc => vs ?_
    obtain ⟨u, rfl, q0, q1, q2, q3⟩ := kItem_open hr
    refine x_lf0 sc9 hc (by decide) rfl ?_
    refine vs ?_
    refine x_callw (l1Bit_ok w2 _) ?_
    refine vs ?_
    have hle := ofN_le (l.take k) r
    rw [List.length_take] at hle
    have hsu := ofN_succ hk2 r
    refine ⟨k + 1, ⟨i64_eq ?_, i64_eq (by unfold w64; omega)⟩, ⟨hk2, H⟩, by omega⟩
    by_cases he : l[k].f_Route = r
    · rw [if_pos he] at hsu
      rw [hsu, if_pos he]; unfold w64; omega
    · rw [if_neg he] at hsu
      rw [hsu, if_neg he]; unfold w64; omega
  · refine vh fun hlt => ?_
    obtain rfl : k = l.length := by omega
    rw [List.take_length]
    exact ⟨rfl, H.bel⟩
end Go.Proofs.YtdljbekkckfmnaaGreat.V
