/- Texts laid by programs, part 7. -/
import Derived.Test.YtcmckbgiiclomabGreatDoorU05
import Derived.Test.YtcmckbgiiclomabGreatDoorU03
import Derived.Test.YtcmckbgiiclomabGreatDoorU06
import Derived.Test.YtcmckbgiiclomabGreatDoorU04
namespace Go.Proofs.YtcmckbgiiclomabGreatDoor.V
open Go Go.RowKit
set_option maxRecDepth 100000
set_option maxHeartbeats 4000000
set_option linter.unusedSimpArgs false
set_option linter.unusedVariables false
set_option pp.deepTerms false
set_option pp.deepTerms.threshold 3
theorem ishr4 (b : UInt8) : ishr .u8 (b.toNat : Int) 4 = ((b.toNat / 16 : Nat) : Int) := by
  unfold ishr; rw [show min 4 IntKind.u8.bits = 4 from rfl, Int.fdiv_eq_ediv_of_nonneg _ (by decide)]; have : ((2 : Int) ^ 4) = 16 := by decide
  rw [this]; omega
theorem iand15 (b : UInt8) : iand .u8 (b.toNat : Int) 15 = ((b.toNat % 16 : Nat) : Int) := by
  have h : iand .u8 (b.toNat : Int) ((15 : UInt8).toNat : Int) = ((b &&& 15).toNat : Int) := iand_u8; have e : ((15 : UInt8).toNat : Int) = 15 := by decide
  rw [e] at h; rw [h, UInt8.toNat_and, show (15 : UInt8).toNat = 2 ^ 4 - 1 from rfl, Nat.and_two_pow_sub_one_eq_mod]
theorem implHex_ok (w : World) (v : Value) (a : List UInt8) (h : (bytes 5).rd w w.heap.size [v] a) (hl : a.length ≤ 1099511627776) :
    ACalls Tryz.prog 19 #[v] w fun r w' => r = .string ⟨(hexB a).toArray⟩ ∧ Below w.heap.size w w' := by
  obtain ⟨A, c, rfl, hc1, hc2, ha⟩ := sl_open h; have H := Sep.start w; refine body_of follows Tryz.func19 rfl rfl _ rfl (by kernel_rfl) (vs ?_); refine x_emp H pl_u8 sl22 fun g w1 H => vs ?_
  refine loop_at (σ := Nat × Value × List Nat) (fun x => [(3, x.2.1), (7, .slice A a.length c), (8, .int .i64 (a.length : Int)), (9, .int .i64 (x.1 : Int))])
    (fun x w' => x.1 ≤ a.length ∧ Sep w.heap.size w w' [Ck.own (bytes 5) x.2.2 [x.2.1] (hexB (a.take x.1))]) (fun x => a.length - x.1) (0, _, _) (vs trivial) ⟨Nat.zero_le _, H⟩ ?_
  rintro ⟨k, v', fp⟩ s w2 ⟨hk, H⟩; dsimp only at hk H; refine vs (ways ?_ ?_)
  · refine vh fun hlt => ?_
    have hk2 : k < a.length := by omega
    refine x_el pl_u8 sl22 (ha.mono H.bel) (by omega) hlt fun ad hb hc _ => vs ?_; refine x_load sc5 hc (vs ?_); have hlt8 := (a[k]).toNat_lt; refine draw_of [(0, true), (1, true), (2, true), (3, true), (4, true), (5, true), (6, true), (7, false), (8, false), (9, true)] w.heap.size [] fun w3 hh hb3 => vs ?_; have H := H.go (hb3 _); have H3 := H; refine ve (ishr4 a[k]) ?_; refine qx_sidx (l := signs16) Tryz.underlying9 (Int.natCast_nonneg _) (by rw [signs16_len]; omega) ?_; refine vs ?_; refine ve (iand15 a[k]) ?_; refine qx_sidx (l := signs16) Tryz.underlying9 (Int.natCast_nonneg _) (by rw [signs16_len]; omega) ?_; refine vs ?_; refine x_lst H pl_u8 sl22 [sgn (a[k].toNat / 16), sgn (a[k].toNat % 16)] (by simp) fun g3 w4 H => vs ?_; refine ⟨kept_base H3 H, ?_⟩; have hx := hexB_len (a.take k); rw [List.length_take] at hx; refine x_app H pl_u8 sl22 (H.own (.head _)) ?_ ?_ fun fp5 v5 w5 H => vs ?_
    · simp only [List.length_cons, List.length_nil]; omega
    · simp only [List.length_cons, List.length_nil]; omega
    refine ⟨kept_base H3 H, (k + 1, v5, fp5), ⟨rfl, i64_eq (by show w64 ((k : Int) + 1) = ((k + 1 : Nat) : Int); unfold w64; omega)⟩, ⟨hk2, ?_⟩, by show a.length - (k + 1) < a.length - k; omega⟩
    show Sep _ _ _ [Ck.own _ fp5 [v5] (hexB (a.take (k + 1)))]
    rw [hexB_succ hk2]; exact H.tail
  · refine vh fun hlt => ?_
    obtain rfl : k = a.length := by omega
    rw [List.take_length] at H; refine x_str Tryz.underlying22 Tryz.underlying5 Tryz.underlying9 (H.own (.head _)) (vs ?_); exact H.bel
theorem specHex_ok (w : World) (v : Value) (a : List UInt8) (h : (bytes 5).rd w w.heap.size [v] a) (hl : a.length ≤ 1099511627776) :
    ACalls Tryz.prog 21 #[v] w fun r w' => r = .string ⟨(hexB a).toArray⟩ ∧ Below w.heap.size w w' := by
  obtain ⟨A, c, rfl, hc1, hc2, ha⟩ := sl_open h; have H := Sep.start w; refine body_of follows Tryz.func21 rfl rfl _ rfl (by kernel_rfl) (vs ?_); refine x_emp H pl_u8 sl22 fun g w1 H => vs ?_
  refine loop_at (σ := Nat × Value × List Nat) (fun x => [(0, .slice A a.length c), (3, .string ⟨signs16.toArray⟩), (4, x.2.1), (5, .int .i64 (x.1 : Int))])
    (fun x w' => x.1 ≤ a.length ∧ Sep w.heap.size w w' [Ck.own (bytes 5) x.2.2 [x.2.1] (hexB (a.take x.1))]) (fun x => a.length - x.1) (0, _, _) (vs trivial) ⟨Nat.zero_le _, H⟩ ?_
  rintro ⟨k, v', fp⟩ s w2 ⟨hk, H⟩; dsimp only at hk H; refine vs (ways ?_ ?_)
  · refine vh fun hlt => ?_
    have hk2 : k < a.length := by omega
    have hlt8 := (a[k]).toNat_lt; refine draw_of [(0, true), (1, true), (2, true), (3, true), (4, true), (5, true), (6, true), (7, true), (8, true), (9, true), (10, true), (11, true), (12, true), (13, true), (14, true), (15, false), (16, false), (17, true)] w.heap.size [] fun w3 hh hb3 => vs ?_; have H := H.go (hb3 _); have H3 := H; refine q_elV pl_u8 sl22 k (ha.mono H.bel) (List.getElem?_eq_getElem hk2) rfl rfl fun ad hb1 hc1 _ => vs ?_; refine qx_load sc5 hc1 hb1 (by simp) (vs ?_); refine ve (ishr4 a[k]) ?_; refine qx_sidx (l := signs16) Tryz.underlying9 (Int.natCast_nonneg _) (by rw [signs16_len]; omega) ?_; refine vs ?_; refine q_elV pl_u8 sl22 k (ha.mono H.bel) (List.getElem?_eq_getElem hk2) rfl rfl fun ad hb1 hc1 _ => vs ?_; refine qx_load sc5 hc1 hb1 (by simp) (vs ?_); refine ve (iand15 a[k]) ?_; refine qx_sidx (l := signs16) Tryz.underlying9 (Int.natCast_nonneg _) (by rw [signs16_len]; omega) ?_; refine vs ?_; refine x_lst H pl_u8 sl22 [sgn (a[k].toNat / 16), sgn (a[k].toNat % 16)] (by simp) fun g3 w4 H => vs ?_; refine ⟨kept_base H3 H, ?_⟩; have hx := hexB_len (a.take k); rw [List.length_take] at hx; refine x_app H pl_u8 sl22 (H.own (.head _)) ?_ ?_ fun fp5 v5 w5 H => vs ?_
    · simp only [List.length_cons, List.length_nil]; omega
    · simp only [List.length_cons, List.length_nil]; omega
    refine ⟨kept_base H3 H, (k + 1, v5, fp5), ⟨rfl, i64_eq (by show w64 ((k : Int) + 1) = ((k + 1 : Nat) : Int); unfold w64; omega)⟩, ⟨hk2, ?_⟩, by show a.length - (k + 1) < a.length - k; omega⟩
    show Sep _ _ _ [Ck.own _ fp5 [v5] (hexB (a.take (k + 1)))]
    rw [hexB_succ hk2]; exact H.tail
  · refine vh fun hlt => ?_
    obtain rfl : k = a.length := by omega
    rw [List.take_length] at H; refine x_str Tryz.underlying22 Tryz.underlying5 Tryz.underlying9 (H.own (.head _)) (vs ?_); exact H.bel
theorem l1Sign_ok (w : World) (c : UInt8) : ACalls Tryz.prog 114 #[.int .u8 (c.toNat : Int)] w fun r w' => r = .int .i64 (hx c) ∧ w' = w := by
  have hlt := c.toNat_lt; rw [hx_eq]; refine body_of follows Tryz.func114 rfl rfl _ rfl (by kernel_rfl) ?_
  by_cases h1 : 48 ≤ c.toNat
  · have a1 : (48 : Int) ≤ c.toNat := by omega
    by_cases h2 : c.toNat ≤ 57
    · have a2 : (c.toNat : Int) ≤ 57 := by omega
      refine ve (And.intro a1 a2) ?_; unfold hxR; rw [if_pos ⟨h1, h2⟩]; exact i64_eq (by unfold w64; omega)
    · have a2 : ¬ (c.toNat : Int) ≤ 57 := by omega
      by_cases h3 : 97 ≤ c.toNat
      · have a3 : (97 : Int) ≤ c.toNat := by omega
        by_cases h4 : c.toNat ≤ 102
        · have a4 : (c.toNat : Int) ≤ 102 := by omega
          refine ve (And.intro a1 (And.intro a2 (And.intro a3 a4))) ?_; unfold hxR; rw [if_neg (by omega), if_pos (by omega)]; exact i64_eq (by unfold w64; omega)
        · have a4 : ¬ (c.toNat : Int) ≤ 102 := by omega
          refine ve (And.intro a1 (And.intro a2 (And.intro a3 a4))) ?_; unfold hxR; rw [if_neg (by omega), if_neg (by omega)]
      · have a3 : ¬ (97 : Int) ≤ c.toNat := by omega
        refine ve (And.intro a1 (And.intro a2 a3)) ?_; unfold hxR; rw [if_neg (by omega), if_neg (by omega)]
  · have a1 : ¬ (48 : Int) ≤ c.toNat := by omega
    have a3 : ¬ (97 : Int) ≤ c.toNat := by omega
    refine ve (And.intro a1 a3) ?_; unfold hxR; rw [if_neg (by omega), if_neg (by omega)]
theorem pair_add {x y : Int} (hx0 : 0 ≤ x) (hx1 : x ≤ 15) (hy0 : 0 ≤ y) (hy1 : y ≤ 15) : w64 (w64 (16 * x) + y) % 256 = ((UInt8.ofNat (16 * x.toNat + y.toNat)).toNat : Int) := by
  rw [UInt8.toNat_ofNat']; unfold w64
  omega
theorem specUnhex_ok (w : World) (l : List UInt8) (hl : l.length ≤ 1099511627776) :
    ACalls Tryz.prog 87 #[.string ⟨l.toArray⟩] w fun r w' => ∃ v fp, r = .tuple #[v, .bool (unhexOk l)] ∧ Sep w.heap.size w w' [Ck.own (bytes 5) fp [v] (unhexB l)] := by
  have H := Sep.start w; have hpl := pairs_len l
  have em : (l.length : Int).tmod 2 = ((l.length % 2 : Nat) : Int) := by
    rw [Int.tmod_eq_emod_of_nonneg (Int.natCast_nonneg _)]; omega
  refine body_of follows Tryz.func87 rfl rfl _ rfl (by kernel_rfl) (vs ?_); refine x_emp H pl_u8 sl22 fun g w1 H => vs ?_
  refine loop_at (σ := Nat × Value × List Nat) (fun x => [(0, .string ⟨l.toArray⟩), (4, x.2.1), (5, .int .i64 ((2 * x.1 : Nat) : Int))])
    (fun x w' => x.1 ≤ (pairs l).length ∧ (∀ k, k < x.1 → 0 ≤ hx (l.getD (2 * k) 0) ∧ 0 ≤ hx (l.getD (2 * k + 1) 0)) ∧ Sep w.heap.size w w' [Ck.own (bytes 5) x.2.2 [x.2.1] (((pairs l).take x.1).map pairB)]) (fun x => (pairs l).length - x.1) (0, _, _) (vs trivial) ⟨Nat.zero_le _, fun k h => absurd h (Nat.not_lt_zero k), H⟩ ?_
  rintro ⟨k, v', fp⟩ s w2 ⟨hk, hall, H⟩; dsimp only at hk hall H; have e1 : w64 (((2 * k : Nat) : Int) + 1) = ((2 * k + 1 : Nat) : Int) := by unfold w64; omega
  refine ve e1 (ways ?_ ?_)
  · refine vh fun hlt => ?_
    have hk2 : k < (pairs l).length := by omega
    have r1 := hx_range (l.getD (2 * k) 0); have r2 := hx_range (l.getD (2 * k + 1) 0); refine draw_of [(0, true), (1, true), (2, true), (4, true), (5, true), (6, true), (7, true), (3, false), (8, false), (9, true), (10, true)] w.heap.size [] fun w3 hh hb3 => vs ?_; have H := H.go (hb3 _); have H3 := H; refine qx_sidx Tryz.underlying9 (Int.natCast_nonneg _) (by omega) ?_; refine vs ?_; refine ve e1 ?_; refine qx_sidx Tryz.underlying9 (Int.natCast_nonneg _) hlt ?_; refine vs ?_; refine x_callw (l1Sign_ok w3 (l.getD (2 * k) 0)) (vs ?_); refine ⟨kept_base H3 H, ?_⟩; refine x_callw (l1Sign_ok w3 (l.getD (2 * k + 1) 0)) (vs ?_); refine ⟨kept_base H3 H, ?_⟩
    by_cases h1 : hx (l.getD (2 * k) 0) < 0
    · refine ve h1 ?_
      obtain ⟨q1, q2⟩ := unhex_bad hk2 (.inl h1); rw [q1, q2]; refine x_emp H pl_u8 sl22 fun g4 w4 H => vs ?_; exact ⟨_, _, rfl, H.head⟩
    · refine ve h1 ?_
      by_cases h2 : hx (l.getD (2 * k + 1) 0) < 0
      · refine ve h2 ?_
        obtain ⟨q1, q2⟩ := unhex_bad hk2 (.inr h2); rw [q1, q2]; refine x_emp H pl_u8 sl22 fun g4 w4 H => vs ?_; exact ⟨_, _, rfl, H.head⟩
      · refine ve h2 ?_
        refine ve (pair_add (Int.not_lt.1 h1) r1.2 (Int.not_lt.1 h2) r2.2) ?_; refine x_lst H pl_u8 sl22 [UInt8.ofNat (16 * (hx (l.getD (2 * k) 0)).toNat + (hx (l.getD (2 * k + 1) 0)).toNat)] (by simp) fun g3 w4 H => vs ?_; refine x_app H pl_u8 sl22 (H.own (.head _)) ?_ ?_ fun fp5 v5 w5 H => vs ?_
        · simp only [List.length_map, List.length_take, List.length_cons, List.length_nil]; omega
        · simp only [List.length_map, List.length_take, List.length_cons, List.length_nil]; omega
        refine ⟨(k + 1, v5, fp5), ⟨rfl, i64_eq (by show w64 (((2 * k : Nat) : Int) + 2) = ((2 * (k + 1) : Nat) : Int); unfold w64; omega)⟩, ⟨hk2, fun j hj => ?_, ?_⟩, by show (pairs l).length - (k + 1) < (pairs l).length - k; omega⟩
        · by_cases hjk : j = k
          · subst hjk; exact ⟨Int.not_lt.1 h1, Int.not_lt.1 h2⟩
          · exact hall j (by have hj : j < k + 1 := hj; omega)
        · show Sep _ _ _ [Ck.own _ fp5 [v5] (((pairs l).take (k + 1)).map pairB)]
          rw [pairs_succ hk2]; exact H.tail
  · refine vh fun hlt => ?_
    obtain rfl : k = (pairs l).length := by omega
    refine x_rem (b := 2) ?_; refine ve em ?_; refine ways ?_ ?_
    rotate_left
    · refine vh fun hodd => ?_
      obtain ⟨e1, e2⟩ := unhex_odd (s := l) (by omega); rw [e1, e2]; refine x_emp H pl_u8 sl22 fun g4 w4 H => vs ?_; exact ⟨_, _, rfl, H.head⟩
    · refine vh fun heven => ?_
      obtain ⟨e1, e2⟩ := unhex_good (s := l) (by omega) hall; rw [List.take_length] at H; rw [e1, e2]; exact ⟨_, _, rfl, H⟩
theorem specIsRoute_ok (w : World) (l : List UInt8) (hl : l.length ≤ 1099511627776) :
    ACalls Tryz.prog 62 #[.string ⟨l.toArray⟩] w fun r w' => r = .bool (isRoute l) ∧ Below w.heap.size w w' := by
  have H := Sep.start w; refine body_of follows Tryz.func62 rfl rfl _ rfl (by kernel_rfl) (vs ?_); refine x_call (specUnhex_ok w l hl) fun _ w1 ⟨v, fp, e, S⟩ => ?_; subst e; have H := H.join S; refine vs ?_
  cases hu : unhexOk l with
  | false =>
    refine vs ?_; have : isRoute l = false := by unfold isRoute; rw [hu]; rfl
    rw [this]; exact ⟨rfl, H.bel⟩
  | true =>
    obtain ⟨A, c, rfl, _⟩ := sl_open (H.own (.head _)); refine vs ?_; refine ⟨?_, H.bel⟩; have : isRoute l = decide (((unhexB l).length : Int) = 8) := by rw [isRoute_spec, hu, Bool.true_and]; exact decide_eq_decide.2 (by omega)
    rw [this]
section
variable {n : Nat} {w0 w : World} {L : List Ck} {α : Type} {d : Kd α} {e : TypeId} {g c : Nat} {rs ks : List (List Value × List Nat × α)} {j : Nat}
end
section
variable {P : Program} {n : Nat} {w0 w : World} {L : List Ck} {K : Value → World → Prop} {tg : Tg K} {α : Type} {d : Kd α} {e : TypeId} {g c : Nat} {rs ks : List (List Value × List Nat × α)} {j : Nat}
end
abbrev items : Kd (List MItem) := Kd.slice 28 kItem
theorem specItemOk_ok (w : World) (cs : List Value) (x : MItem) (h : kItem.rd w w.heap.size cs x) (hr : x.f_Route.length ≤ 1099511627776) :
    ACalls Tryz.prog 67 #[.agg cs.toArray] w fun r w' => r = .bool (itemOk x) ∧ Below w.heap.size w w' := by
  obtain ⟨v3, rfl, h0, h1, h2, h3⟩ := kItem_open h; obtain ⟨A3, c3, rfl, _, _, _⟩ := sl_open h3; have H := Sep.start w; refine body_of follows Tryz.func67 rfl rfl _ rfl (by kernel_rfl) (vs ?_); refine x_bx H [_, _, _, _] fun g1 w1 H => vs ?_; refine x_ld H sc9 ?_; refine vs ?_; refine x_callb H (specIsRoute_ok w1 _ hr) fun w2 H => ?_
  cases hR : isRoute x.f_Route with
  | false =>
    refine vs ?_; have : itemOk x = false := by unfold itemOk; rw [hR]; rfl
    rw [this]; exact ⟨rfl, H.bel⟩
  | true =>
    refine vs ?_; refine x_ld H sc3 ?_; refine vs ?_; refine x_callw (l1In_ok w2 _ _ _) ?_
    by_cases hA : 0 ≤ x.f_Topic ∧ x.f_Topic ≤ 9
    · refine ve hA ?_
      refine x_ld H sc3 ?_; refine vs ?_; refine x_callw (l1In_ok w2 _ _ _) ?_
      by_cases hB : 0 ≤ x.f_Due ∧ x.f_Due ≤ 100000
      · refine ve hB ?_
        refine x_ld H sc22 ?_; refine vs ?_; refine ⟨?_, H.bel⟩
        have : itemOk x = decide ((x.f_Bytes.length : Int) ≤ 1560) := by
          unfold itemOk; rw [hR, decide_eq_true hA, decide_eq_true hB, Bool.true_and, Bool.true_and, Bool.true_and]; exact decide_eq_decide.2 (by omega)
        rw [this]
      · refine ve hB ?_
        have : itemOk x = false := by unfold itemOk; rw [hR, decide_eq_false hB]; simp
        rw [this]; exact ⟨rfl, H.bel⟩
    · refine ve hA ?_
      have : itemOk x = false := by unfold itemOk; rw [hR, decide_eq_false hA]; rfl
      rw [this]; exact ⟨rfl, H.bel⟩
theorem l13Item_ok (w : World) (cs : List Value) (x : MItem) (h : kItem.rd w w.heap.size cs x) (hs : smItem x) :
    ACalls Tryz.prog 55 #[.agg cs.toArray] w fun r w' => ∃ cs' fp, r = .agg cs'.toArray ∧ Sep w.heap.size w w' [Ck.own kItem fp cs' x] := by
  unfold smItem at hs; obtain ⟨v3, rfl, h0, h1, h2, h3⟩ := kItem_open h; have H := Sep.start w; refine body_of follows Tryz.func55 rfl rfl _ rfl (by kernel_rfl) (vs ?_); refine x_bx H [.string ⟨x.f_Route.toArray⟩, .int .i64 x.f_Topic, .int .i64 x.f_Due, v3] fun g1 w1 H => vs ?_; refine x_al H st28 fun g2 w2 H => vs ?_; refine x_emp H pl_u8 sl22 fun g3 w3 H => vs ?_; refine x_ld H sc22 ?_; refine vs ?_; refine x_app H pl_u8 sl22 (H.rd h3) ?_ ?_ fun f3 r3 w4 H => vs ?_
  · simp only [List.length_nil]; omega
  · simp only [List.length_nil]; omega
  rw [List.nil_append] at H; refine x_st H sc22 (h1 := Kd.one _ (H.own (.head _)) _ (by simp)) fun w4 H => vs ?_; refine x_lda H st28 ?_; refine vs ?_; obtain ⟨fp, H⟩ := ownItem x H h0 h1 h2; refine x_sta H st28 (h1 := Kd.one _ (H.own (.head _))) fun w5 H => vs ?_; exact ⟨_, _, rfl, res_cell H st28, _, _, rfl, H.head⟩
theorem l13Queue_ok (w : World) (v : Value) (l : List MItem) (h : items.rd w w.heap.size [v] l) (hs : smItemS l) :
    ACalls Tryz.prog 75 #[v] w fun r w' => ∃ fp, Sep w.heap.size w w' [Ck.own items fp [r] l] := by
  have hlm := sl_len h; have hs0 := hs.1; obtain ⟨A, c, rfl, hc1, hc2, ha⟩ := sl_open h; refine body_of follows Tryz.func75 rfl rfl _ rfl (by kernel_rfl) (vs ?_); refine x_empO (d := kItem) (Sep.start w) sl30 fun g w1 H => vs ?_
  refine loop_at (σ := Nat × Value × List Nat) (fun x => [(0, .slice A l.length c), (3, x.2.1), (4, .int .i64 (x.1 : Int))])
    (fun x w' => x.1 ≤ l.length ∧ Sep w.heap.size w w' [Ck.own items x.2.2 [x.2.1] (l.take x.1)]) (fun x => l.length - x.1) (0, _, _) (vs trivial) ⟨Nat.zero_le _, H⟩ ?_
  rintro ⟨k, v', fp⟩ s w2 ⟨hk, H⟩; dsimp only at hk H; refine vs (ways ?_ ?_)
  · refine vh fun hlt => ?_
    have hk2 : k < l.length := by omega
    have hsm := hs.2 l[k] (List.getElem_mem hk2); refine x_ele H sl30 rfl k hk2 ha rfl fun ad es hb hr hc => vs ?_; refine x_lds st28 hc (Kd.len _ hr) (vs ?_); refine x_call (l13Item_ok w2 _ l[k] (H.rd hr) hsm) fun _ w5 ⟨cs5, f5, e, S⟩ => ?_; subst e; have H := H.join S; simp only [List.cons_append, List.nil_append] at H; refine vs ?_; refine x_lst1 sl30 H rfl rfl fun f6 v6 w6 H => vs ?_; refine x_appO sl30 H rfl ?_ ?_ fun f7 v7 w7 H => vs ?_
    · simp only [List.length_take, List.length_cons, List.length_nil]; omega
    · simp only [List.length_take, List.length_cons, List.length_nil]; omega
    refine ⟨(k + 1, v7, f7), ⟨rfl, i64_eq (by show w64 ((k : Int) + 1) = ((k + 1 : Nat) : Int); unfold w64; omega)⟩, ⟨hk2, ?_⟩, by show l.length - (k + 1) < l.length - k; omega⟩
    show Sep _ _ _ [Ck.own _ f7 [v7] (l.take (k + 1))]
    rw [List.take_succ_eq_append_getElem hk2]; exact H
  · refine vh fun hlt => ?_
    obtain rfl : k = l.length := by omega
    rw [List.take_length] at H; exact ⟨_, H⟩
theorem Sep.none {n : Nat} {w0 w : World} {L : List Ck} (H : Sep n w0 w L) : Sep n w0 w [] := Sep.left (L := []) (M := L) H
theorem l1Bit_ok (w : World) (b : Bool) : ACalls Tryz.prog 129 #[.bool b] w fun q w' => q = .int .i64 (if b = true then 1 else 0) ∧ w' = w := by
  refine body_of follows Tryz.func129 rfl rfl _ rfl (by kernel_rfl) ?_
  cases b with
  | true => refine vs ?_; exact trivial
  | false => refine vs ?_; exact trivial
theorem specOf_ok (w : World) (v : Value) (l : List MItem) (r : List UInt8) (h : items.rd w w.heap.size [v] l) :
    ACalls Tryz.prog 113 #[v, .string ⟨r.toArray⟩] w fun q w' => q = .int .i64 (ofN l r : Int) ∧ Below w.heap.size w w' := by
  have hlm := sl_len h; obtain ⟨A, c, rfl, hc1, hc2, ha⟩ := sl_open h; refine body_of follows Tryz.func113 rfl rfl _ rfl (by kernel_rfl) (vs ?_)
  refine loop_at (σ := Nat) (fun k => [(0, .slice A l.length c), (1, .string ⟨r.toArray⟩), (5, .int .i64 (ofN (l.take k) r : Int)), (6, .int .i64 (k : Int))])
    (fun k w' => k ≤ l.length ∧ Sep w.heap.size w w' []) (fun k => l.length - k) 0 (vs trivial) ⟨Nat.zero_le _, Sep.start w⟩ ?_
  rintro k s w2 ⟨hk, H⟩; refine vs (ways ?_ ?_)
  · refine vh fun hlt => ?_
    have hk2 : k < l.length := by omega
    refine x_ele H sl30 rfl k hk2 ha rfl fun ad es hb hr hc => vs ?_; obtain ⟨u, rfl, q0, q1, q2, q3⟩ := kItem_open hr; refine x_lf0 sc9 hc (by decide) rfl ?_; refine vs ?_; refine x_callw (l1Bit_ok w2 _) ?_; refine vs ?_; have hle := ofN_le (l.take k) r; rw [List.length_take] at hle; have hsu := ofN_succ hk2 r; refine ⟨k + 1, ⟨i64_eq ?_, i64_eq (by unfold w64; omega)⟩, ⟨hk2, H⟩, by omega⟩
    by_cases he : l[k].f_Route = r
    · rw [if_pos he] at hsu
      rw [hsu, if_pos he]; unfold w64; omega
    · rw [if_neg he] at hsu
      rw [hsu, if_neg he]; unfold w64; omega
  · refine vh fun hlt => ?_
    obtain rfl : k = l.length := by omega
    rw [List.take_length]; exact ⟨rfl, H.bel⟩
def Gb (n m : Nat) : List (Nat × Nat) := fpG (List.range' n (m - n))
theorem Gb_not (n m : Nat) : ∀ t, (m, t) ∉ Gb n m := fun t h => by
  obtain ⟨b, hb, e⟩ := List.mem_map.1 h; obtain ⟨rfl, _⟩ := Prod.mk.inj e; have := List.mem_range'_1.1 hb
  omega
theorem kept_box {n m : Nat} {w0 w w' : World} {L L' : List Ck} {cs : List Value} {t : TypeId} (H : Sep n w0 w L) (H' : Sep n w0 w' L') (hm : Ck.box m cs t ∈ L := by repeat (first | exact List.mem_cons_self | apply List.mem_cons_of_mem)) (hm' : Ck.box m cs t ∈ L' := by repeat (first | exact List.mem_cons_self | apply List.mem_cons_of_mem)) : Kept (m + 1) (Gb n m) w w' := by
  refine ⟨fun _ => H'.lt hm', fun b hb hG => ?_, fun g t hg _ j hj => ?_⟩
  · by_cases h : b < n
    · rw [H'.bel.block b h, H.bel.block b h]
    · have e : b = m := by
        by_cases e : b = m
        · exact e
        · exact absurd (fpG_mem (List.mem_range'_1.2 ⟨by omega, by omega⟩)) (hG 0)
      subst e; have h1 : w'.heap[b]? = some (.cells cs.toArray t (0, 0)) := H'.ok _ hm'; have h2 : w.heap[b]? = some (.cells cs.toArray t (0, 0)) := H.ok _ hm; rw [h1, h2]
  · rw [fpG_zero _ _ hg] at hj; omega
section
variable {P : Program} {l : List Oper} {K : Sl → World → Prop} {s : Sl} {w : World}
theorem draw_zn {tg : Tg (l.toArray, K)} (pl : List (Nat × Bool)) (z : Nat) (late : List Nat) (n : Nat) (G : List (Nat × Nat)) (h : ∀ w1, w1.heap = w.heap → (∀ m, Below m w w1) → Dpl P l.toArray n G w1 (fun s w => DLate P l.toArray K late .mk s w) pl .mk s w1)
    (hs : Region.noSelect l.toArray = true := by kernel_rfl) (hp : planPre l.toArray pl (Array.replicate l.toArray.size false) = true := by kernel_rfl) (hz : planZ l.toArray z pl = true := by kernel_rfl)
    (hq : lateOk l.toArray z late (planTo pl (Array.replicate l.toArray.size false)) = true := by kernel_rfl) (hl : pl.length + late.length = l.toArray.size := by decide) : Adraw P l.toArray K tg s w := by
  have h1 := h w.drew rfl fun m => (Below.refl m w).drew
  have key : adrZ P l.toArray K (Kept n G w.drew) z l.toArray.size (Array.replicate l.toArray.size false) s w.drew := by
    rw [← hl]; refine preZ_sound hs pl late.length _ s w.drew (closed_none _ _) (by rw [hl]; exact hp) hz (Kept.refl ..) ?_; have : ∀ (s : Sl) (w' : World), DLate P l.toArray K late .mk s w' → Kept n G w.drew w' → adrZ P l.toArray K (Kept n G w.drew) z late.length (planTo pl (Array.replicate (pl.length + late.length) false)) s w' := fun s w' hd _ => late_sound late _ _ s w' (by rw [hl]; exact hq) (Nat.le_refl _) hd; exact dpl_mono this pl s w.drew h1
  exact fun m a ha hok => wpAny_of_Z _ _ _ _ (key m a ha hok)
end
def lateOnly (z : Nat) (listed : Array Bool) : Bool := (List.range z).all fun i => listed.getD i true
theorem wpAnyZ_weak {P : Program} {ops : Array Oper} {Q : Exit → Act → World → Prop} {S S' : World → Prop} {z z' : Nat} : ∀ (fuel : Nat) (listed : Array Bool) (a : Act) (w : World), (∀ i, i < z → listed.getD i true = true) → wpAnyZ P .any ops Q S' z' fuel listed a w → wpAnyZ P .any ops Q S z fuel listed a w
  | 0, _, _, _, _, h => h
  | fuel + 1, listed, a, w, hl, h => by
    refine ⟨h.1, fun i hi => wpOp_mono (fun a' w' h' => ⟨fun hlt => ?_, wpAnyZ_weak fuel _ a' w' (fun k hk => ?_) h'.2⟩) (h.2 i hi)⟩
    · have hun := (mem_ready.1 hi).1
      rw [hl i hlt] at hun; exact Bool.noConfusion hun
    · by_cases e : i = k
      · subst e
        rcases Nat.lt_or_ge i listed.size with h' | h'
        · simp [h']
        · simp [h']
      · rw [getD_set_ne true e]; exact hl k hk
theorem closed_plan {ops : Array Oper} : ∀ (pl : List (Nat × Bool)) (listed : Array Bool), Closed ops listed → planPre ops pl listed = true → Closed ops (planTo pl listed)
  | [], _, h, _ => h
  | (i, true) :: r, listed, h, hp => by
    simp only [planPre, Bool.and_eq_true] at hp; exact closed_plan r _ (closed_set h (by simpa using hp.1.2)) hp.2
  | (i, false) :: r, listed, h, hp => by
    simp only [planPre, Bool.and_eq_true, beq_iff_eq] at hp; exact closed_plan r _ (closed_set h (by rw [hp.1]; simp)) hp.2
theorem kept_zero (w0 w : World) : Kept 0 [] w0 w := ⟨fun _ => Nat.zero_le _, fun b hb => absurd hb (Nat.not_lt_zero _), fun _ _ h => by cases h⟩
section
variable {P : Program} {l : List Oper} {K : Sl → World → Prop} {s : Sl} {w : World}
theorem draw_zp {tg : Tg (l.toArray, K)} (pl : List (Nat × Bool)) (z : Nat) (pl2 : List (Nat × Bool)) (n : Nat) (G : List (Nat × Nat)) (h : ∀ w1, w1.heap = w.heap → (∀ m, Below m w w1) → Dpl P l.toArray n G w1 (fun s w => Dpl P l.toArray 0 [] w1 K pl2 .mk s w) pl .mk s w1)
    (hs : Region.noSelect l.toArray = true := by kernel_rfl) (hp : planPre l.toArray pl (Array.replicate l.toArray.size false) = true := by kernel_rfl) (hz : planZ l.toArray z pl = true := by kernel_rfl)
    (hq : planPre l.toArray pl2 (planTo pl (Array.replicate l.toArray.size false)) = true := by kernel_rfl) (hz2 : planZ l.toArray l.toArray.size pl2 = true := by kernel_rfl) (hlate : lateOnly z (planTo pl (Array.replicate l.toArray.size false)) = true := by kernel_rfl)
    (hend : (Region.ready .any l.toArray (planTo pl2 (planTo pl (Array.replicate l.toArray.size false)))).isEmpty = true := by kernel_rfl) (hl : pl.length + pl2.length = l.toArray.size := by decide) : Adraw P l.toArray K tg s w := by
  have h1 := h w.drew rfl fun m => (Below.refl m w).drew
  have key : adrZ P l.toArray K (Kept n G w.drew) z l.toArray.size (Array.replicate l.toArray.size false) s w.drew := by
    rw [← hl]; refine preZ_sound hs pl pl2.length _ s w.drew (closed_none _ _) (by rw [hl]; exact hp) hz (Kept.refl ..) ?_
    have : ∀ (s : Sl) (w' : World), Dpl P l.toArray 0 [] w.drew K pl2 .mk s w' → Kept n G w.drew w' → adrZ P l.toArray K (Kept n G w.drew) z pl2.length (planTo pl (Array.replicate (pl.length + pl2.length) false)) s w' := by
      intro s w' hd _; rw [hl]; have h2 := preZ_sound (S := Kept 0 [] w.drew) (z := l.toArray.size) (K := K) hs pl2 0 _ s w' (closed_plan pl _ (closed_none _ _) hp) hq hz2 (kept_zero _ _) (dpl_mono (fun s w' hk _ => adrZ_done (by simpa using hend) hk) pl2 s w' hd); exact fun m a ha hok => wpAnyZ_weak _ _ _ _ (fun i hi => List.all_eq_true.1 hlate i (List.mem_range.2 hi)) (h2 m a ha hok)
    exact dpl_mono this pl s w.drew h1
  exact fun m a ha hok => wpAny_of_Z _ _ _ _ (key m a ha hok)
end
section
variable {P : Program} {n : Nat} {w0 w : World} {L : List Ck} {K : Value → Prop}
theorem q_ldX {m : Nat} {tg : Tg (m + 1, Gb n m, w, K)} (H : Sep n w0 w L) {j : Nat} {cs : List Value} {t e : TypeId} {z v : Value} (HS : ScT P e z) (h : K v) (hm : Ck.box m cs t ∈ L := by repeat (first | exact List.mem_cons_self | apply List.mem_cons_of_mem)) (hv : cs[j]? = some v := by rfl) :
    QS P (m + 1) (Gb n m) w K tg (Instr.loadAt e (.pointer (some ⟨m, j, none⟩))) := qx_load HS (by rw [H.cell hm]; exact hv) (Nat.lt_succ_self _) (Gb_not n m) h
theorem q_ldaX {m : Nat} {tg : Tg (m + 1, Gb n m, w, K)} (H : Sep n w0 w L) {cs : List Value} {t e : TypeId} {sz : Nat} {z : Array Value} (HS : StT P e sz z) (h : K (.agg cs.toArray)) (hm : Ck.box m cs t ∈ L := by repeat (first | exact List.mem_cons_self | apply List.mem_cons_of_mem)) (hl : cs.length = sz := by rfl) :
    QS P (m + 1) (Gb n m) w K tg (Instr.loadAt e (.pointer (some ⟨m, 0, none⟩))) := qx_loadAgg HS cs hl (fun j v hj => by rw [Kd.add_plain, H.cell hm]; exact hj) (Nat.lt_succ_self _) (Gb_not n m) h
end
section
variable {P : Program} {m : Nat} {w : World} {KQ : Value → Prop} {G : List (Nat × Nat)} {tq : Tg (m, G, w, KQ)} {α : Type} {d : Kd α}
theorem q_toA {wr : World} {t e sz by_ : Nat} {z : Value} (HS : SlT P t e sz by_ z) (hd : d.sz = sz) {q : Nat} {v : Value} {l : List α} {k : IntKind} {hi : Nat} (hr : (Kd.slice e d).rd wr q [v] l) (h1 : hi ≤ l.length)
    (h : ∀ v', (∀ w' q', (Kd.slice e d).rd w' q' [v] l → (Kd.slice e d).rd w' q' [v'] (l.take hi)) → KQ v') : QS P m G w KQ tq (Instr.sliceAt t v none (some (.int k (hi : Int))) none) := by
  obtain ⟨A, c, rfl, h3, h4, hl⟩ := sl_open hr; refine QS_of (fun w' _ => (run_sub HS (w := w') (k := .i64) (lo := 0)).2.1 (by omega)) (h _ fun w' q' hr' => ?_); obtain ⟨A', c', e', _, _, hl'⟩ := sl_open hr'; simp only [Value.slice.injEq] at e'; obtain ⟨rfl, _, rfl⟩ := e'; have := sub_rd (e := e) hl' (Nat.zero_le hi) h1 h3 h4; rw [hd] at this
  simpa using this
theorem q_fromA {wr : World} {t e sz by_ : Nat} {z : Value} (HS : SlT P t e sz by_ z) (hd : d.sz = sz) {q : Nat} {v : Value} {l : List α} {k : IntKind} {lo : Nat} (hr : (Kd.slice e d).rd wr q [v] l) (h1 : lo ≤ l.length)
    (h : ∀ v', (∀ w' q', (Kd.slice e d).rd w' q' [v] l → (Kd.slice e d).rd w' q' [v'] (l.drop lo)) → KQ v') : QS P m G w KQ tq (Instr.sliceAt t v (some (.int k (lo : Int))) none none) := by
  obtain ⟨A, c, rfl, h3, h4, hl⟩ := sl_open hr; refine QS_of (fun w' _ => (run_sub HS (w := w') (k' := .i64) (hi := 0)).2.2 (by omega)) (h _ fun w' q' hr' => ?_); obtain ⟨A', c', e', _, _, hl'⟩ := sl_open hr'; simp only [Value.slice.injEq] at e'; obtain ⟨rfl, _, rfl⟩ := e'; have := sub_rd (e := e) hl' h1 (Nat.le_refl _) h3 h4; rw [hd, List.take_of_length_le (by simp)] at this; exact this
end
theorem low4 {k : Nat} (h : k = 0 ∨ (k : Int) < 4) : k < 256 := by omega
section
variable {P : Program} {n : Nat} {w0 : World} {G : List (Nat × Nat)} {K : Value → Prop} {tg : Tg (n, G, w0, K)}
theorem q_ext {vs : Array Value} {i : Nat} {v : Value} (h : K v) (hv : vs[i]? = some v := by rfl) : QS P n G w0 K tg (Instr.extract (.tuple vs) i) :=
  QS_of (fun w _ => by simp [Instr.extract, hv]) h
end
def Di (x : MItem) : Prop := x.f_Route.length ≤ 16 ∧ x.f_Bytes.length ≤ 6
theorem Di.sm {x : MItem} (h : Di x) : smItem x := by obtain ⟨h1, h2⟩ := h; exact ⟨by omega, by omega⟩
theorem Di_of {r b : List UInt8} {t d : Int} (h1 : r.length ≤ 16) (h2 : b.length ≤ 6) : Di ⟨r, t, d, b⟩ := ⟨h1, h2⟩
theorem low_rg {k m : Nat} (h : k = 0 ∨ (k : Int) < (m : Int)) (hm : m ≤ 256) : -9223372036854775808 ≤ (k : Int) ∧ (k : Int) < 9223372036854775808 := by omega
theorem len_lo {r : List UInt8} (h : r.length = 16) : r.length ≤ 16 := by omega
theorem len_lo2 {r : List UInt8} (h : r.length ≤ 16) : r.length ≤ 9223372036854775807 := by omega
theorem one_itemD {a : ByteArray} {x y : Int} {A : Option Addr} {m c : Nat} : ∀ v ∈ [Value.string a, .int .i64 x, .int .i64 y, .slice A m c], v.oneCell' = true := by
  intro v hv; simp only [List.mem_cons, List.not_mem_nil, or_false] at hv
  rcases hv with rfl | rfl | rfl | rfl <;> rfl
def oddS : List (List UInt8) := [[], [48, 48], [48, 48, 48, 48, 48, 48, 48, 48, 48, 48, 48, 48, 48, 48, 48, 103]]
theorem oddS_len : ∀ x ∈ oddS, x.length ≤ 16 := by
  intro x hx; simp only [oddS, List.mem_cons, List.not_mem_nil, or_false] at hx
  rcases hx with rfl | rfl | rfl <;> decide
theorem oddS_lo : ∀ x ∈ oddS, x.length ≤ 9223372036854775807 := fun x hx => by have := oddS_len x hx; omega
theorem l13DrawItem_ok {n : Nat} {w0 w : World} {L : List Ck} {g : Nat} {v : Value} {i h : Int} {a : List UInt8} (H : Sep n w0 w (curB g v i h :: L)) (hv : (bytes 5).rd w0 n [v] a) (hi : 0 ≤ i ∧ i ≤ a.length) :
    ACalls Tryz.prog 16 #[.pointer (some ⟨g, 0, none⟩)] w fun r w' => ∃ (cs : List Value) (fp : List Nat) (x : MItem) (i' h' : Int), r = .agg cs.toArray ∧ Di x ∧ (0 ≤ i' ∧ i' ≤ a.length) ∧ Sep n w0 w' (Ck.own kItem fp cs x :: curB g v i' h' :: L) := by
  refine body_of follows Tryz.func16 rfl rfl _ rfl (by kernel_rfl) (vs ?_); refine x_al H st28 fun g2 w1 H => vs ?_; have H := H.front (c := curB g v i h); refine x_call (l13DrawRoute_ok H hv hi) fun _ w2 ⟨R, i1, h1, e, hR, hi1, H⟩ => ?_; subst e; refine vs ?_; refine x_call (l1Below_ok 3 H hv hi1) fun _ w3 ⟨k, i2, h2, e, hk, hi2, H⟩ => ?_; subst e; refine vs ?_; refine x_lst H pl_i64 sl55 [0, 5, 20, 100] (by simp) fun g3 w4 H => vs ?_; refine x_call (l1PickInt_ok _ H hv hi2 (by simp)) fun _ w5 ⟨D, i3, h3, e, _, hD, hi3, H⟩ => ?_; subst e; refine vs ?_; refine x_call (l1DrawBytes_ok 6 H hv hi3 (by omega)) fun r w6 ⟨b, fb, i4, h4, hb, hi4, H⟩ => ?_; obtain ⟨A, c, rfl, _⟩ := sl_open (H.own (.head _)); refine vs ?_; refine x_build bl28 [.string ⟨R.toArray⟩, .int .i64 (k : Int), .int .i64 D, .slice A b.length c] ?_; refine vs ?_; refine x_al H st28 fun g6 w7 H => vs ?_; refine x_sta H st28 (vs := [.string ⟨R.toArray⟩, .int .i64 (k : Int), .int .i64 D, .slice A b.length c]) (h1 := one_itemD) fun w8 H => vs ?_; have hk' := low_rg (m := 3) hk (by decide); have H := H.front (c := curB g v i4 h4); refine x_call (l1Below_ok 16 H hv hi4) fun _ w9 ⟨q, i5, h5, e, hq, hi5, H⟩ => ?_; subst e
  by_cases q0 : (q : Int) = 0
  · refine ve q0 ?_
    refine x_lst H pl_str sl60 oddS oddS_lo fun g7 w10 H => vs ?_; refine x_call (l1Pick_ok oddS H hv hi5 (by decide)) fun _ w11 ⟨R2, i6, h6, e, hR2, hi6, H⟩ => ?_; subst e; refine vs ?_; refine x_st H sc9 fun w11 H => vs ?_; refine x_lda H st28 ?_; refine vs ?_; refine x_sta H st28 (vs := [.string ⟨R2.toArray⟩, .int .i64 ((k : Int)), .int .i64 D, .slice A b.length c]) (h1 := one_itemD) fun w12 H => vs ?_; have hres := res_cell H (g := g2) (cs := [.string ⟨R2.toArray⟩, .int .i64 ((k : Int)), .int .i64 D, .slice A b.length c]) st28; have H := H.front (c := curB g v i6 h6); have H := H.front (c := Ck.own (bytes 5) fb [.slice A b.length c] b); obtain ⟨fp, H⟩ := ownItem (⟨R2, (k : Int), D, b⟩ : MItem) H (len_lo2 (oddS_len R2 hR2)) hk' hD; have H := H.drops' (L := [_, _]); have H := H.drops' (L := [_, _]); exact ⟨_, _, rfl, hres, _, fp, (⟨R2, (k : Int), D, b⟩ : MItem), i6, h6, rfl, Di_of (oddS_len R2 hR2) hb, hi6, H⟩
  refine ve q0 ?_
  by_cases q1 : (q : Int) = 1
  · refine ve q1 ?_
    refine x_lst H pl_i64 sl55 [-1, 9, 10] (by simp) fun g7 w10 H => vs ?_; refine x_call (l1PickInt_ok _ H hv hi5 (by simp)) fun _ w11 ⟨T2, i6, h6, e, _, hT2, hi6, H⟩ => ?_; subst e; refine vs ?_; refine x_st H sc3 fun w11 H => vs ?_; refine x_lda H st28 ?_; refine vs ?_; refine x_sta H st28 (vs := [.string ⟨R.toArray⟩, .int .i64 T2, .int .i64 D, .slice A b.length c]) (h1 := one_itemD) fun w12 H => vs ?_; have hres := res_cell H (g := g2) (cs := [.string ⟨R.toArray⟩, .int .i64 T2, .int .i64 D, .slice A b.length c]) st28; have H := H.front (c := curB g v i6 h6); have H := H.front (c := Ck.own (bytes 5) fb [.slice A b.length c] b); obtain ⟨fp, H⟩ := ownItem (⟨R, T2, D, b⟩ : MItem) H (len_lo2 (len_lo hR)) hT2 hD; have H := H.drops' (L := [_, _]); have H := H.drops' (L := [_, _]); exact ⟨_, _, rfl, hres, _, fp, (⟨R, T2, D, b⟩ : MItem), i6, h6, rfl, Di_of (len_lo hR) hb, hi6, H⟩
  refine ve q1 ?_
  by_cases q2 : (q : Int) = 2
  · refine ve q2 ?_
    refine x_lst H pl_i64 sl55 [-1, 100000, 100001] (by simp) fun g7 w10 H => vs ?_; refine x_call (l1PickInt_ok _ H hv hi5 (by simp)) fun _ w11 ⟨D2, i6, h6, e, _, hD2, hi6, H⟩ => ?_; subst e; refine vs ?_; refine x_st H sc3 fun w11 H => vs ?_; refine x_lda H st28 ?_; refine vs ?_; refine x_sta H st28 (vs := [.string ⟨R.toArray⟩, .int .i64 ((k : Int)), .int .i64 D2, .slice A b.length c]) (h1 := one_itemD) fun w12 H => vs ?_; have hres := res_cell H (g := g2) (cs := [.string ⟨R.toArray⟩, .int .i64 ((k : Int)), .int .i64 D2, .slice A b.length c]) st28; have H := H.front (c := curB g v i6 h6); have H := H.front (c := Ck.own (bytes 5) fb [.slice A b.length c] b); obtain ⟨fp, H⟩ := ownItem (⟨R, (k : Int), D2, b⟩ : MItem) H (len_lo2 (len_lo hR)) hk' hD2; have H := H.drops' (L := [_, _]); have H := H.drops' (L := [_, _]); exact ⟨_, _, rfl, hres, _, fp, (⟨R, (k : Int), D2, b⟩ : MItem), i6, h6, rfl, Di_of (len_lo hR) hb, hi6, H⟩
  refine ve q2 ?_; refine x_lda H st28 ?_; refine vs ?_; refine x_sta H st28 (vs := [.string ⟨R.toArray⟩, .int .i64 ((k : Int)), .int .i64 D, .slice A b.length c]) (h1 := one_itemD) fun w12 H => vs ?_; have hres := res_cell H (g := g2) (cs := [.string ⟨R.toArray⟩, .int .i64 ((k : Int)), .int .i64 D, .slice A b.length c]) st28; have H := H.front (c := curB g v i5 h5); have H := H.front (c := Ck.own (bytes 5) fb [.slice A b.length c] b); obtain ⟨fp, H⟩ := ownItem (⟨R, (k : Int), D, b⟩ : MItem) H (len_lo2 (len_lo hR)) hk' hD; have H := H.drops' (L := [_, _]); have H := H.drops' (L := [_, _]); exact ⟨_, _, rfl, hres, _, fp, (⟨R, (k : Int), D, b⟩ : MItem), i5, h5, rfl, Di_of (len_lo hR) hb, hi5, H⟩
theorem l14Dent_ok {n : Nat} {w0 w : World} {L : List Ck} {g : Nat} {v u : Value} {i h : Int} {a b : List UInt8} {fb : List Nat} (H : Sep n w0 w (Ck.own (bytes 5) fb [u] b :: curB g v i h :: L)) (hv : (bytes 5).rd w0 n [v] a) (hi : 0 ≤ i ∧ i ≤ a.length) (hb : b.length ≤ 1000000) :
    ACalls Tryz.prog 38 #[.pointer (some ⟨g, 0, none⟩), u] w fun r w' => ∃ (b' : List UInt8) (fp : List Nat) (i' h' : Int), b'.length ≤ b.length + 1 ∧ (0 ≤ i' ∧ i' ≤ a.length) ∧ Sep n w0 w' (Ck.own (bytes 5) fp [r] b' :: curB g v i' h' :: L) := by
  obtain ⟨A, c, rfl, hc1, hc2, _⟩ := sl_open (H.own (.head _)); refine body_of follows Tryz.func38 rfl rfl _ rfl (by kernel_rfl) (vs ?_); refine ve (show w64 ((b.length : Int) + 1) = ((b.length + 1 : Nat) : Int) by unfold w64; omega) ?_; have H := H.front (c := curB g v i h); refine x_call (l1Below_ok ((b.length + 1 : Nat) : Int) H hv hi) fun _ w1 ⟨k, i1, h1, e, hk, hi1, H⟩ => ?_; subst e; have hk2 : k ≤ b.length := by omega
  refine vs ?_; refine x_call (l1Below_ok 5 H hv hi1) fun _ w2 ⟨q, i2, h2, e, hq, hi2, H⟩ => ?_; subst e
  by_cases q0 : (q : Int) = 0
  · refine ve q0 ?_
    refine x_hiO sl22 (hi := k) (by omega) ?_; refine vs ?_; have H := (H.front (c := Ck.own (bytes 5) fb [.slice A b.length c] b)).takeO pl_u8 hk2; exact ⟨_, _, _, _, by rw [List.length_take]; omega, hi2, H⟩
  refine ve q0 ?_
  by_cases q1 : (q : Int) = 1
  · refine ve q1 ?_
    refine draw_of [(1, true), (2, true), (3, true), (5, true), (9, true), (10, true), (11, true), (0, false), (4, false), (6, false), (7, true), (8, false), (12, false), (13, false), (14, true)] n [] fun w3 hh hb3 => vs ?_; have H := H.go (hb3 _); have H3 := H; have hr := H.ow (bytes 5) fb [.slice A b.length c] b; refine q_toA sl22 rfl hr hk2 fun v1 hv1 => ?_; refine vs ?_; refine q_fromA sl22 rfl hr hk2 fun v2 hv2 => ?_; refine vs ?_; refine x_emp H pl_u8 sl22 fun g4 w4 H => vs ?_; refine ⟨kept_base H3 H, ?_⟩; have r1 := hv1 _ _ (H.ow (bytes 5) fb [.slice A b.length c] b); refine x_app H pl_u8 sl22 r1 ?_ ?_ fun f5 v5 w5 H => vs ?_
    · simp only [List.length_nil, List.length_take]; omega
    · simp only [List.length_nil, List.length_take]; omega
    refine ⟨kept_base H3 H, ?_⟩; rw [List.nil_append] at H; have H := H.front (c := curB g v i2 h2); refine x_call (l1Below_ok 4 H hv hi2) fun _ w6 ⟨q2, i3, h3, e, hq2, hi3, H⟩ => ?_; subst e; refine vs ?_; refine ⟨kept_base H3 H, ?_⟩; refine ve (u8_low (k := q2) (low4 hq2)) ?_; refine x_lst H pl_u8 sl22 [UInt8.ofNat q2] (by simp) fun g7 w7 H => vs ?_; refine ⟨kept_base H3 H, ?_⟩; have r2 := hv2 _ _ (H.ow (bytes 5) fb [.slice A b.length c] b); refine x_app H pl_u8 sl22 r2 ?_ ?_ (fun f8 v8 w8 H => vs ?_) (hm := .here)
    · simp only [List.length_cons, List.length_nil, List.length_drop]; omega
    · simp only [List.length_cons, List.length_nil, List.length_drop]; omega
    refine ⟨kept_base H3 H, ?_⟩; have r3 := H.ow (bytes 5) f8 [v8] ([UInt8.ofNat q2] ++ b.drop k); have H := H.front (c := Ck.own (bytes 5) f5 [v5] (b.take k)); refine x_app H pl_u8 sl22 r3 ?_ ?_ (fun f9 v9 w9 H => vs ?_) (hm := .here)
    · simp only [List.length_append, List.length_cons, List.length_nil, List.length_drop, List.length_take]; omega
    · simp only [List.length_append, List.length_cons, List.length_nil, List.length_drop, List.length_take]; omega
    refine ⟨kept_base H3 H, ?_⟩; have H := H.front (c := curB g v i3 h3); have H := H.front (c := Ck.own (bytes 5) f9 [v9] (b.take k ++ ([UInt8.ofNat q2] ++ b.drop k))); have H := H.drops' (L := [_, _]); have H := H.drops' (L := [_, _]); exact ⟨_, _, _, _, by simp only [List.length_append, List.length_cons, List.length_nil, List.length_drop, List.length_take]; omega, hi3, H⟩
  · refine ve q1 ?_
    have H := H.front (c := Ck.own (bytes 5) fb [.slice A b.length c] b); exact ⟨_, _, _, _, by omega, hi2, H⟩
section
variable {P : Program} {l : List Oper} {K : Sl → World → Prop} {s : Sl} {w : World}
theorem cut_to {tg : Tg (l.toArray, K)} {σ : Type} (sl : σ → List (Nat × Value)) (I : σ → World → Prop) (hd : Adraw P l.toArray (fun s w => ∃ x, Slots s (sl x) ∧ I x w) .mk s w) (hk : ∀ x s w, I x w → K (putAll s (sl x)) w) : Adraw P l.toArray K tg s w := by
  refine fun n a ha hok => wpAny_mono (fun e a w he => ?_) _ _ _ _ (hd n a ha hok)
  cases e with
  | normal =>
    obtain ⟨s, ha, x, hs, hI⟩ := he; refine ⟨s, ha, ?_⟩; have := hk x s w hI
    rwa [hs.put] at this
  | _ => exact he.elim
end
section
variable {P : Program} {m : Nat} {w : World} {KQ : Value → Prop} {G : List (Nat × Nat)} {tq : Tg (m, G, w, KQ)} {α : Type} {d : Kd α}
theorem q_subN {wr : World} {t e sz by_ : Nat} {z : Value} (HS : SlT P t e sz by_ z) (hd : d.sz = sz) {q : Nat} {v : Value} {l : List α} {k k' : IntKind} {li hi' : Int} (lo hi : Nat) (hr : (Kd.slice e d).rd wr q [v] l) (e1 : li = (lo : Int)) (e2 : hi' = (hi : Int)) (h0 : lo ≤ hi) (h1 : hi ≤ l.length)
    (h : ∀ v', (Kd.slice e d).rd wr q [v'] ((l.drop lo).take (hi - lo)) → KQ v') : QS P m G w KQ tq (Instr.sliceAt t v (some (.int k li)) (some (.int k' hi')) none) := by
  subst e1 e2; exact q_sub HS hd hr h0 h1 h
theorem q_fromN {wr : World} {t e sz by_ : Nat} {z : Value} (HS : SlT P t e sz by_ z) (hd : d.sz = sz) {q : Nat} {v : Value} {l : List α} {k : IntKind} {li : Int} (lo : Nat) (hr : (Kd.slice e d).rd wr q [v] l) (e1 : li = (lo : Int)) (h1 : lo ≤ l.length)
    (h : ∀ v', (Kd.slice e d).rd wr q [v'] (l.drop lo) → KQ v') : QS P m G w KQ tq (Instr.sliceAt t v (some (.int k li)) none none) := by
  subst e1; exact q_from HS hd hr h1 h
theorem q_toN {wr : World} {t e sz by_ : Nat} {z : Value} (HS : SlT P t e sz by_ z) (hd : d.sz = sz) {q : Nat} {v : Value} {l : List α} {k : IntKind} {hi' : Int} (hi : Nat) (hr : (Kd.slice e d).rd wr q [v] l) (e2 : hi' = (hi : Int)) (h1 : hi ≤ l.length)
    (h : ∀ v', (Kd.slice e d).rd wr q [v'] (l.take hi) → KQ v') : QS P m G w KQ tq (Instr.sliceAt t v none (some (.int k hi')) none) := by
  subst e2; exact q_to HS hd hr h1 h
end
section
variable {P : Program} {w : World} {K : Value → World → Prop} {tg : Tg K} {α : Type} {d : Kd α}
theorem x_subN {wr : World} {t e sz by_ : Nat} {z : Value} (HS : SlT P t e sz by_ z) (hd : d.sz = sz) {q : Nat} {v : Value} {l : List α} {k k' : IntKind} {li hi' : Int} (lo hi : Nat) (hr : (Kd.slice e d).rd wr q [v] l) (e1 : li = (lo : Int)) (e2 : hi' = (hi : Int)) (h0 : lo ≤ hi) (h1 : hi ≤ l.length)
    (h : ∀ v', (Kd.slice e d).rd wr q [v'] ((l.drop lo).take (hi - lo)) → K v' w) : VS P K tg (Instr.sliceAt t v (some (.int k li)) (some (.int k' hi')) none) w := by
  subst e1 e2; exact x_sub HS hd hr h0 h1 h
theorem x_fromN {wr : World} {t e sz by_ : Nat} {z : Value} (HS : SlT P t e sz by_ z) (hd : d.sz = sz) {q : Nat} {v : Value} {l : List α} {k : IntKind} {li : Int} (lo : Nat) (hr : (Kd.slice e d).rd wr q [v] l) (e1 : li = (lo : Int)) (h1 : lo ≤ l.length)
    (h : ∀ v', (Kd.slice e d).rd wr q [v'] (l.drop lo) → K v' w) : VS P K tg (Instr.sliceAt t v (some (.int k li)) none none) w := by
  subst e1; exact x_from HS hd hr h1 h
theorem x_toN {wr : World} {t e sz by_ : Nat} {z : Value} (HS : SlT P t e sz by_ z) (hd : d.sz = sz) {q : Nat} {v : Value} {l : List α} {k : IntKind} {hi' : Int} (hi : Nat) (hr : (Kd.slice e d).rd wr q [v] l) (e2 : hi' = (hi : Int)) (h1 : hi ≤ l.length)
    (h : ∀ v', (Kd.slice e d).rd wr q [v'] (l.take hi) → K v' w) : VS P K tg (Instr.sliceAt t v none (some (.int k hi')) none) w := by
  subst e2; exact x_to HS hd hr h1 h
end
section
variable {P : Program} {w : World} {K : Value → World → Prop} {tg : Tg K} {t : TypeId} {x y : Operand}
end
section
variable {P : Program} {s : Sl} {w : World} {K : Value → World → Prop} {d : Option Tmp} {ty : TypeId} {pos : String} {af : Array Edge} {g : Option (Nat × Bool)}
end
section
variable {P : Program} {n : Nat} {w0 w : World} {L : List Ck} {K : Value → World → Prop}
theorem x_staD (H : Sep n w0 w L) {g j : Nat} {cs vs : List Value} {t e : TypeId} {sz : Nat} {z : Array Value} {f : Ck → List Ck} {tg : Tg K} (HS : StT P e sz z) (h : ∀ w', Sep n w0 w' (f (Ck.box g (cs.take j ++ vs ++ cs.drop (j + vs.length)) t)) → Chg [g] w w' → K undef w')
    (hm : Hole (Ck.box g cs t) L f := by repeat (first | exact Hole.here | apply Hole.there)) (hl : vs.length = sz := by rfl) (hj : j + vs.length ≤ cs.length := by first | decide | simp) (h1 : ∀ v ∈ vs, v.oneCell' = true) :
    VU P K tg (Instr.storeAt e (.pointer (some ⟨g, j, none⟩)) (.agg vs.toArray)) w := by
  have hb : w.heap[g]? = some (.cells cs.toArray t (0, 0)) := H.ok _ hm.mem; obtain ⟨fs, hu⟩ := HS.un; obtain ⟨inf, hi, hs, _⟩ := HS.inf; have hst := run_storeCells_at P g j t vs 0 cs.toArray w hb (by simpa using hj) h1; have hchg : Chg [g] w (w.setRow g ((cs.take j ++ vs ++ cs.drop (j + vs.length)).toArray)) := ⟨rfl, rfl, rfl, by simp [World.setRow], fun k _ hk => setRow_other w g k _ (fun e => hk (by simp [e]))⟩; unfold VU; refine vU_run (u := ()) (w' := w.setRow g ((cs.take j ++ vs ++ cs.drop (j + vs.length)).toArray)) ?_ (h _ (H.put hm ?_ ?_ (by simp [Ck.box]) (fun b hb => ?_)) hchg)
  · simp only [Nat.add_zero] at hst
    simp [Instr.storeAt, Instr.sureAddr, storeVar, Value.cells, run_sizeOf' hi hs, hl, hst]
  · exact ⟨rfl, rfl, rfl, by simp [World.setRow], fun k _ hk => setRow_other w g k _ (fun e => hk (by simp [Ck.box, e]))⟩
  · exact setRow_heap w g _ _ t _ hb
  · simp only [Ck.box, List.mem_singleton] at hb ⊢
    refine ⟨.inl hb, ?_⟩; have := H.lt hm.mem
    simp [World.setRow]; omega
theorem Sep.boxne {M M' : List Ck} (H : Sep n w0 w L) {g g' : Nat} {cs cs' : List Value} {t t' : TypeId} (h : Out (Ck.box g cs t) L M := by repeat (first | exact Out.here | apply Out.there)) (h' : Out (Ck.box g' cs' t') M M' := by repeat (first | exact Out.here | apply Out.there)) : g ≠ g' := fun e => by
  have H1 := (H.out h).out (.there h'); have hnd := H1.nd; simp only [fps, Ck.box, List.singleton_append] at hnd; exact (List.nodup_cons.1 hnd).1 (List.mem_cons.2 (.inl e.symm))
end
theorem l14Item_ok (w : World) (cs : List Value) (l : MLine) (h : kLine.rd w w.heap.size cs l) (hb : l.f_Bytes.length ≤ 1099511627776) :
    ACalls Tryz.prog 115 #[.agg cs.toArray] w fun r w' => ∃ cs' fp, r = .agg cs'.toArray ∧ Sep w.heap.size w w' [Ck.own kItem fp cs' (itemOf l)] := by
  obtain ⟨v4, rfl, h0, h1, h2, h3, h4⟩ := kLine_open h; have H := Sep.start w; refine body_of follows Tryz.func115 rfl rfl _ rfl (by kernel_rfl) (vs ?_); refine x_bx H [.int .i64 l.f_Kind, .string ⟨(l.f_Route).toArray⟩, .int .i64 l.f_Topic, .int .i64 l.f_Due, v4] fun g1 w1 H => vs ?_; have J := Sep.start w1; refine x_al J st28 fun g2 w2 J => vs ?_; refine draw_of [(0, true), (1, true), (2, true), (3, true), (4, true), (5, true), (7, true), (8, true), (6, false), (9, false), (10, true), (11, false)] w1.heap.size [] fun w3 hh hb3 => vs ?_; have J := J.go (hb3 _); have J3 := J; refine q_ldB H J3 sc9 ?_; refine vs ?_; refine q_ldB H J3 sc3 ?_; refine vs ?_; refine q_ldB H J3 sc3 ?_; refine vs ?_; refine q_ldB H J3 sc22 ?_; refine vs ?_; refine x_emp J pl_u8 sl22 fun g4 w4 J => vs ?_; refine ⟨kept_base J3 J, ?_⟩; refine x_app J pl_u8 sl22 (J.rd (H.rd h4)) ?_ ?_ fun f4 r4 w5 J => vs ?_
  · simp only [List.length_nil]; omega
  · simp only [List.length_nil]; omega
  rw [List.nil_append] at J; refine ⟨kept_base J3 J, ?_⟩; obtain ⟨A4, c4, rfl, _⟩ := sl_open (J.own (.head _)); refine q_bld bl28 [_, _, _, _] ?_; refine vs ?_; obtain ⟨fp, J⟩ := ownItem (itemOf l) J h1 h2 h3; refine x_sta J st28 (h1 := Kd.one _ (J.own (.head _))) fun w7 J => vs ?_; refine ⟨kept_base J3 J, ?_⟩; have H := H.join J; simp only [List.cons_append, List.nil_append] at H; exact ⟨_, _, rfl, res_cell H st28, _, _, rfl, H.head⟩
theorem lineOk_1 {l : MLine} (h : l.f_Kind = 1) : lineOk l = itemOk (itemOf l) := by unfold lineOk; rw [if_pos h]
theorem lineOk_2 {l : MLine} (h : l.f_Kind = 2) : lineOk l = (isRoute l.f_Route && decide (l.f_Topic = 0) && decide (l.f_Due = 0) && decide (l.f_Bytes.length = 0)) := by
  unfold lineOk; rw [if_neg (by omega), if_pos h]
theorem lineOk_3 {l : MLine} (h : l.f_Kind = 3) : lineOk l = (decide (0 ≤ l.f_Due ∧ l.f_Due ≤ 100000) && decide (l.f_Route = []) && decide (l.f_Topic = 0) && decide (l.f_Bytes.length = 0)) := by
  unfold lineOk; rw [if_neg (by omega), if_neg (by omega), if_pos h]
theorem lineOk_0 {l : MLine} (h1 : ¬ l.f_Kind = 1) (h2 : ¬ l.f_Kind = 2) (h3 : ¬ l.f_Kind = 3) : lineOk l = false := by
  unfold lineOk; rw [if_neg h1, if_neg h2, if_neg h3]
theorem len0 (l : List UInt8) : decide (l.length = 0) = decide ((l.length : Int) = 0) := decide_eq_decide.2 (by omega)
theorem specLineOk_ok (w : World) (cs : List Value) (l : MLine) (h : kLine.rd w w.heap.size cs l) (hR : l.f_Route.length ≤ 1099511627776) (hb : l.f_Bytes.length ≤ 1099511627776) :
    ACalls Tryz.prog 89 #[.agg cs.toArray] w fun r w' => r = .bool (lineOk l) ∧ Below w.heap.size w w' := by
  have h9 := h; obtain ⟨v4, rfl, h0, h1, h2, h3, h4⟩ := kLine_open h; obtain ⟨A4, c4, rfl, _, _, _⟩ := sl_open h4; have H := Sep.start w; refine body_of follows Tryz.func89 rfl rfl _ rfl (by kernel_rfl) (vs ?_); refine x_bx H [.int .i64 l.f_Kind, .string ⟨(l.f_Route).toArray⟩, .int .i64 l.f_Topic, .int .i64 l.f_Due, .slice A4 l.f_Bytes.length c4] fun g1 w1 H => vs ?_; refine x_ld H sc3 ?_
  by_cases k1 : l.f_Kind = 1
  · refine ve (eq_true k1) ?_
    refine x_lda H st103 ?_; refine vs ?_; refine x_call (l14Item_ok w1 _ l (H.rd h9) hb) fun _ w2 ⟨cs2, f2, e, S⟩ => ?_; subst e; have H := H.join S; refine vs ?_; refine x_callb H (specItemOk_ok w2 _ (itemOf l) (H.own (.head _)) hR) fun w3 H => vs ?_; rw [lineOk_1 k1]
    first | exact ⟨rfl, H.bel⟩ | exact H.bel
  by_cases k2 : l.f_Kind = 2
  · refine ve (And.intro k1 (eq_true k2)) ?_
    refine x_ld H sc9 ?_; refine vs ?_; refine x_callb H (specIsRoute_ok w1 _ hR) fun w2 H => ?_
    cases hr : isRoute l.f_Route with
    | false =>
      refine vs ?_; rw [show lineOk l = false by rw [lineOk_2 k2, hr]; rfl]
      first | exact ⟨rfl, H.bel⟩ | exact H.bel
    | true =>
      refine vs ?_; refine x_ld H sc3 ?_
      by_cases hT : l.f_Topic = 0
      · refine ve (eq_true hT) ?_
        refine x_ld H sc3 ?_
        by_cases hD : l.f_Due = 0
        · refine ve (And.intro (eq_true hT) (eq_true hD)) ?_
          refine x_ld H sc22 ?_; refine ve (And.intro (eq_true hT) (eq_true hD)) ?_; rw [show lineOk l = decide ((l.f_Bytes.length : Int) = 0) by rw [lineOk_2 k2, hr, decide_eq_true hT, decide_eq_true hD, len0]; rfl]
          first | exact ⟨rfl, H.bel⟩ | exact H.bel
        · refine ve (And.intro (eq_true hT) hD) ?_
          rw [show lineOk l = false by rw [lineOk_2 k2, decide_eq_false hD]; simp]
          first | exact ⟨rfl, H.bel⟩ | exact H.bel
      · refine ve hT ?_
        rw [show lineOk l = false by rw [lineOk_2 k2, decide_eq_false hT]; simp]
        first | exact ⟨rfl, H.bel⟩ | exact H.bel
  by_cases k3 : l.f_Kind = 3
  · refine ve (And.intro k1 (And.intro k2 (eq_true k3))) ?_
    refine x_ld H sc9 ?_; refine vs ?_
    by_cases hE : l.f_Route = []
    · refine ve (eq_true hE) ?_
      refine x_ld H sc3 ?_
      by_cases hT : l.f_Topic = 0
      · refine ve (And.intro (eq_true hE) (eq_true hT)) ?_
        refine x_ld H sc3 ?_; refine ve (And.intro (eq_true hE) (eq_true hT)) ?_; refine x_callw (l1In_ok w1 _ _ _) ?_
        by_cases hD : 0 ≤ l.f_Due ∧ l.f_Due ≤ 100000
        · refine ve (And.intro hD (And.intro (eq_true hE) (eq_true hT))) ?_
          refine x_ld H sc22 ?_; refine ve (And.intro hD (And.intro (eq_true hE) (eq_true hT))) ?_; rw [show lineOk l = decide ((l.f_Bytes.length : Int) = 0) by rw [lineOk_3 k3, decide_eq_true hT, decide_eq_true hD, decide_eq_true hE, len0]; rfl]
          first | exact ⟨rfl, H.bel⟩ | exact H.bel
        · refine ve (And.intro hD (And.intro (eq_true hE) (eq_true hT))) ?_
          rw [show lineOk l = false by rw [lineOk_3 k3, decide_eq_false hD]; simp]
          first | exact ⟨rfl, H.bel⟩ | exact H.bel
      · refine ve (And.intro (eq_true hE) hT) ?_
        rw [show lineOk l = false by rw [lineOk_3 k3, decide_eq_false hT]; simp]
        first | exact ⟨rfl, H.bel⟩ | exact H.bel
    · refine ve hE ?_
      rw [show lineOk l = false by rw [lineOk_3 k3, decide_eq_false hE]; simp]
      first | exact ⟨rfl, H.bel⟩ | exact H.bel
  refine ve (And.intro k1 (And.intro k2 k3)) ?_; rw [lineOk_0 k1 k2 k3]
  first | exact ⟨rfl, H.bel⟩ | exact H.bel
theorem u8i_eq (n : Int) : n % 256 = ((u8i n).toNat : Int) := by
  unfold u8i; rw [UInt8.toNat_ofNat']; omega
theorem specLineBytes_ok (w : World) (cs : List Value) (l : MLine) (h : kLine.rd w w.heap.size cs l) (hR : l.f_Route.length ≤ 1099511627776) (hb : l.f_Bytes.length ≤ 1099511627776) :
    ACalls Tryz.prog 88 #[.agg cs.toArray] w fun r w' => ∃ fp, Sep w.heap.size w w' [Ck.own (bytes 5) fp [r] (lineBytes l)] := by
  have h9 := h; obtain ⟨v4, rfl, h0, h1, h2, h3, hb4⟩ := kLine_open h; have hb5 := hb4; obtain ⟨A4, c4, rfl, _, _, _⟩ := sl_open hb4; have H := Sep.start w; refine body_of follows Tryz.func88 rfl rfl _ rfl (by kernel_rfl) (vs ?_); refine x_bx H [.int .i64 l.f_Kind, .string ⟨(l.f_Route).toArray⟩, .int .i64 l.f_Topic, .int .i64 l.f_Due, .slice A4 l.f_Bytes.length c4] fun g1 w1 H => vs ?_; refine x_lda H st103 ?_; refine vs ?_; refine x_callb H (specLineOk_ok w1 _ l (H.rd h9) hR hb) fun w2 H => ?_
  cases hok : lineOk l with
  | false =>
    refine vs ?_; rw [lineBytes_no hok]; refine x_emp H pl_u8 sl22 fun g4 w4 H => vs ?_; exact ⟨_, H.head⟩
  | true =>
    have hlr := lineRoute_len hok; have hlb := lineOk_bytes hok; have hlh := lineHead_len hok; have hgd := greatB_len l.f_Due 4; have hgb := greatB_len (l.f_Bytes.length : Int) 2; have hgh := greatB_len ((lineHead l).length : Int) 2; have el : lineBytes l = lineHead l ++ greatB ((lineHead l).length : Int) 2 := by unfold lineBytes; rw [if_pos hok]
    have eh : lineHead l = [u8i l.f_Kind] ++ lineRoute l ++ [u8i l.f_Topic] ++ greatB l.f_Due 4 ++ greatB (l.f_Bytes.length : Int) 2 ++ l.f_Bytes := rfl; refine vs ?_; refine x_ld H sc9 ?_; refine vs ?_; refine x_call (specUnhex_ok w2 _ hR) fun _ w3 ⟨r3, f3, e, S⟩ => ?_; subst e; have H := H.join S; simp only [List.cons_append, List.nil_append] at H; refine vs ?_; refine x_ld H sc3 ?_
    by_cases k3 : l.f_Kind = 3
    · have er : lineRoute l = List.replicate 8 0 := by unfold lineRoute; rw [if_pos k3]
      refine ve (eq_true k3) ?_; refine x_mk H pl_u8 (x := 0) (m := 8) sl22 trivial (by decide) (by decide) fun g2 w3 H => vs ?_; rw [← er] at H; have hr3 := H.own (.head _); refine x_ld H sc3 ?_; refine ve (u8i_eq l.f_Kind) ?_; refine x_lst H pl_u8 sl22 [u8i l.f_Kind] (by simp) fun ga wa H => vs ?_; refine x_app H pl_u8 sl22 (H.own (.tail _ (.head _))) ?_ ?_ fun fb rb wb H => vs ?_
      · simp only [List.length_cons, List.length_nil]; omega
      · simp only [List.length_cons, List.length_nil]; omega
      refine x_ld H sc3 ?_; refine ve (u8i_eq l.f_Topic) ?_; refine x_lst H pl_u8 sl22 [u8i l.f_Topic] (by simp) fun gc wc H => vs ?_; refine x_app H pl_u8 sl22 (H.own (.head _)) ?_ ?_ fun fd rd wd H => vs ?_
      · simp only [List.length_append, List.length_cons, List.length_nil]; omega
      · simp only [List.length_append, List.length_cons, List.length_nil]; omega
      refine x_ld H sc3 ?_; refine vs ?_; refine x_callf H (specGreat_ok wd l.f_Due 4 (by omega)) fun re fe we H => vs ?_; refine x_app H pl_u8 sl22 (H.own (.head _)) ?_ ?_ fun ff rf wf H => vs ?_
      · simp only [List.length_append, List.length_cons, List.length_nil]; omega
      · simp only [List.length_append, List.length_cons, List.length_nil]; omega
      refine x_ld H sc22 ?_; refine vs ?_; refine x_callf H (specGreat_ok wf (l.f_Bytes.length : Int) 2 (by omega)) fun rg fg wg H => vs ?_; refine x_app H pl_u8 sl22 (H.own (.head _)) ?_ ?_ fun fh rh wh H => vs ?_
      · simp only [List.length_append, List.length_cons, List.length_nil]; omega
      · simp only [List.length_append, List.length_cons, List.length_nil]; omega
      refine x_ld H sc22 ?_; refine vs ?_; refine x_app H pl_u8 sl22 (H.rd hb5) ?_ ?_ fun fi ri wi H => vs ?_
      · simp only [List.length_append, List.length_cons, List.length_nil]; omega
      · simp only [List.length_append, List.length_cons, List.length_nil]; omega
      rw [← eh] at H; obtain ⟨Aj, cj, rfl, _⟩ := sl_open (H.om (fp := fi) (x := lineHead l)); refine vs ?_; refine x_callf H (specGreat_ok wi ((lineHead l).length : Int) 2 (by omega)) fun rj fj wj H => vs ?_; refine x_app H pl_u8 sl22 (H.own (.head _)) ?_ ?_ fun fk rk wk H => vs ?_
      · omega
      · omega
      rw [← el] at H; exact ⟨_, H.only⟩
    · have er : lineRoute l = unhexB l.f_Route := by unfold lineRoute; rw [if_neg k3]
      refine ve k3 ?_; rw [← er] at H; have hr3 := H.own (.head _); refine x_ld H sc3 ?_; refine ve (u8i_eq l.f_Kind) ?_; refine x_lst H pl_u8 sl22 [u8i l.f_Kind] (by simp) fun ga wa H => vs ?_; refine x_app H pl_u8 sl22 (H.own (.tail _ (.head _))) ?_ ?_ fun fb rb wb H => vs ?_
      · simp only [List.length_cons, List.length_nil]; omega
      · simp only [List.length_cons, List.length_nil]; omega
      refine x_ld H sc3 ?_; refine ve (u8i_eq l.f_Topic) ?_; refine x_lst H pl_u8 sl22 [u8i l.f_Topic] (by simp) fun gc wc H => vs ?_; refine x_app H pl_u8 sl22 (H.own (.head _)) ?_ ?_ fun fd rd wd H => vs ?_
      · simp only [List.length_append, List.length_cons, List.length_nil]; omega
      · simp only [List.length_append, List.length_cons, List.length_nil]; omega
      refine x_ld H sc3 ?_; refine vs ?_; refine x_callf H (specGreat_ok wd l.f_Due 4 (by omega)) fun re fe we H => vs ?_; refine x_app H pl_u8 sl22 (H.own (.head _)) ?_ ?_ fun ff rf wf H => vs ?_
      · simp only [List.length_append, List.length_cons, List.length_nil]; omega
      · simp only [List.length_append, List.length_cons, List.length_nil]; omega
      refine x_ld H sc22 ?_; refine vs ?_; refine x_callf H (specGreat_ok wf (l.f_Bytes.length : Int) 2 (by omega)) fun rg fg wg H => vs ?_; refine x_app H pl_u8 sl22 (H.own (.head _)) ?_ ?_ fun fh rh wh H => vs ?_
      · simp only [List.length_append, List.length_cons, List.length_nil]; omega
      · simp only [List.length_append, List.length_cons, List.length_nil]; omega
      refine x_ld H sc22 ?_; refine vs ?_; refine x_app H pl_u8 sl22 (H.rd hb5) ?_ ?_ fun fi ri wi H => vs ?_
      · simp only [List.length_append, List.length_cons, List.length_nil]; omega
      · simp only [List.length_append, List.length_cons, List.length_nil]; omega
      rw [← eh] at H; obtain ⟨Aj, cj, rfl, _⟩ := sl_open (H.om (fp := fi) (x := lineHead l)); refine vs ?_; refine x_callf H (specGreat_ok wi ((lineHead l).length : Int) 2 (by omega)) fun rj fj wj H => vs ?_; refine x_app H pl_u8 sl22 (H.own (.head _)) ?_ ?_ fun fk rk wk H => vs ?_
      · omega
      · omega
      rw [← el] at H; exact ⟨_, H.only⟩
theorem specSame_ok (w : World) (v v' : Value) (a b : List UInt8) (h : (bytes 5).rd w w.heap.size [v] a) (h' : (bytes 5).rd w w.heap.size [v'] b) :
    ACalls Tryz.prog 95 #[v, v'] w fun r w' => r = .bool (decide (a = b)) ∧ w' = w := by
  refine body_of follows Tryz.func95 rfl rfl _ rfl (by kernel_rfl) (vs ?_); refine x_str Tryz.underlying22 Tryz.underlying5 Tryz.underlying9 h (vs ?_); refine x_str Tryz.underlying22 Tryz.underlying5 Tryz.underlying9 h' (vs ?_)
  trivial
abbrev ints : Kd (List Int) := Kd.slice 3 Kd.i64
theorem specWord_ok (w : World) (n : Int) : ACalls Tryz.prog 147 #[.int .i64 n] w fun r w' => r = .int .i64 (word n) ∧ w' = w := by
  refine body_of follows Tryz.func147 rfl rfl _ rfl (by kernel_rfl) (vs ?_); exact i64_eq (iand_word n)
theorem mod32 (k : Int) : (k % 32).toNat < 32 := by omega
theorem sub32 (k : Int) : w64 (32 - ((k % 32).toNat : Int)) = ((32 - (k % 32).toNat : Nat) : Int) := by have := mod32 k; unfold w64; omega
theorem specTurn_ok (w : World) (n k : Int) : ACalls Tryz.prog 159 #[.int .i64 n, .int .i64 k] w fun r w' => r = .int .i64 (turn n k) ∧ Below w.heap.size w w' := by
  refine body_of follows Tryz.func159 rfl rfl _ rfl (by kernel_rfl) (vs ?_); refine x_callw (specWord_ok w n) (ve (iand_31 k) ?_); refine draw_at [(0, true), (1, true), (2, true), (3, true), (4, true), (5, true), (6, true), (7, true), (8, false), (9, true)] fun w3 hh hb3 => ve (sub32 k) ?_; refine x_callw (specWord_ok w3 _) (vs ?_); exact ⟨Kept.refl .., rfl, hb3 _⟩
theorem sub_32 (a : Nat) (h : a ≤ 32) : w64 (32 - (a : Int)) = 32 - (a : Int) := by unfold w64; omega
theorem specMix_ok (w : World) (x : Int) (a b c : Nat) (s : Bool) (ha : a ≤ 32) (hb : b ≤ 32) (hc : c ≤ 32) :
    ACalls Tryz.prog 155 #[.int .i64 x, .int .i64 (a : Int), .int .i64 (b : Int), .int .i64 (c : Int), .bool s] w fun r w' => r = .int .i64 (mix x a b c s) ∧ Below w.heap.size w w' := by
  have H := Sep.start w; refine body_of follows Tryz.func155 rfl rfl _ rfl (by kernel_rfl) (vs ?_); rw [sub_32 c hc]; refine x_callb H (specTurn_ok w x _) fun w1 H => ?_; unfold mix
  cases s with
  | true =>
    refine vs ?_; refine x_callw (specWord_ok w1 x) (vs ?_); rw [sub_32 a ha]; refine x_callb H (specTurn_ok w1 x _) fun w2 H => vs ?_; rw [sub_32 b hb]; refine x_callb H (specTurn_ok w2 x _) fun w3 H => vs ?_; exact H.bel
  | false =>
    refine vs ?_; rw [sub_32 a ha]; refine x_callb H (specTurn_ok w1 x _) fun w2 H => vs ?_; rw [sub_32 b hb]; refine x_callb H (specTurn_ok w2 x _) fun w3 H => vs ?_; exact H.bel
theorem w4_i64 (a b c d : UInt8) : -9223372036854775808 ≤ w4 a b c d ∧ w4 a b c d < 9223372036854775808 := by have := w4_range a b c d; omega
theorem specWords_ok (w : World) (v : Value) (b : List UInt8) (n : Nat) (h : (bytes 5).rd w w.heap.size [v] b) (hl : b.length = 4 * n) (hn : n ≤ 1073741824) :
    ACalls Tryz.prog 128 #[v, .bool true] w fun r w' => ∃ fp, Sep w.heap.size w w' [Ck.own ints fp [r] (wordsN b n)] := by
  obtain ⟨A, c, rfl, hc1, hc2, ha⟩ := sl_open h; have H := Sep.start w; refine body_of follows Tryz.func128 rfl rfl _ rfl (by kernel_rfl) (vs ?_); refine x_emp H pl_i64 sl55 fun g w1 H => vs ?_
  refine loop_at (σ := Nat × Value × List Nat) (fun x => [(0, .slice A b.length c), (1, .bool true), (5, x.2.1), (6, .int .i64 ((4 * x.1 : Nat) : Int))])
    (fun x w' => x.1 ≤ n ∧ Sep w.heap.size w w' [Ck.own ints x.2.2 [x.2.1] (wordsN b x.1)]) (fun x => n - x.1) (0, _, _) (vs ?_) ⟨Nat.zero_le _, H⟩ ?_
  · rfl
  rintro ⟨k, v', fp⟩ s w2 ⟨hk, H⟩; dsimp only at hk H; have e1 : w64 (((4 * k : Nat) : Int) + 1) = ((4 * k + 1 : Nat) : Int) := by unfold w64; omega
  have e2 : w64 (((4 * k : Nat) : Int) + 2) = ((4 * k + 2 : Nat) : Int) := by unfold w64; omega
  have e3 : w64 (((4 * k : Nat) : Int) + 3) = ((4 * k + 3 : Nat) : Int) := by unfold w64; omega
  have e4 : w64 (((4 * k : Nat) : Int) + 4) = ((4 * k + 4 : Nat) : Int) := by unfold w64; omega
  by_cases hlt : k < n
  · have e5 : (((4 * k + 3 : Nat) : Int) < (b.length : Int)) := by omega
    refine ve (And.intro e3 e5) ?_; refine draw_of [(0, true), (1, true), (2, true), (3, true), (4, true), (5, true), (6, true), (7, true), (8, true), (9, true), (10, true), (11, true), (12, true), (13, true), (14, true), (15, true), (16, true), (17, true), (18, true), (19, true), (20, true), (21, true), (22, true), (23, true), (24, true), (25, true), (26, true), (27, true), (28, true), (29, true), (30, false), (31, false), (32, true)] w.heap.size [] fun w3 hh hb3 => ve (And.intro e1 (And.intro e2 e3)) ?_; have H := H.go (hb3 _); have H3 := H; have ha := ha.mono H.bel; refine q_elV pl_u8 sl22 (4 * k) ha (getD_at (z := 0) (by omega)) rfl rfl fun ad hb hc _ => vs ?_; refine qx_load sc5 hc hb (by simp) (vs ?_); refine q_elV pl_u8 sl22 (4 * k + 1) ha (getD_at (z := 0) (by omega)) e1 rfl fun ad hb hc _ => vs ?_; refine qx_load sc5 hc hb (by simp) (vs ?_); refine q_elV pl_u8 sl22 (4 * k + 2) ha (getD_at (z := 0) (by omega)) e2 rfl fun ad hb hc _ => vs ?_; refine qx_load sc5 hc hb (by simp) (vs ?_); refine q_elV pl_u8 sl22 (4 * k + 3) ha (getD_at (z := 0) (by omega)) e3 rfl fun ad hb hc _ => vs ?_; refine qx_load sc5 hc hb (by simp) (vs ?_); refine x_lst H pl_i64 sl55 [w4 (b.getD (4 * k) 0) (b.getD (4 * k + 1) 0) (b.getD (4 * k + 2) 0) (b.getD (4 * k + 3) 0)] (fun x hx => by simp only [List.mem_singleton] at hx; subst hx; exact w4_i64 ..) fun g3 w4' H => vs ?_; refine ⟨kept_base H3 H, ?_⟩; have hlen : (wordsN b k).length = k := by simp [wordsN]
    refine x_app H pl_i64 sl55 (H.own (.head _)) ?_ ?_ fun fp5 v5 w5 H => vs ?_
    · simp only [List.length_cons, List.length_nil, hlen]; omega
    · simp only [List.length_cons, List.length_nil, hlen]; omega
    refine ⟨kept_base H3 H, (k + 1, v5, fp5), ⟨rfl, i64_eq (by show w64 (((4 * k : Nat) : Int) + 4) = ((4 * (k + 1) : Nat) : Int); rw [e4]; rfl)⟩, ⟨hlt, ?_⟩, by show n - (k + 1) < n - k; omega⟩; dsimp only; rw [wordsN_succ]; exact H.tail
  · have e5 : ¬ (((4 * k + 3 : Nat) : Int) < (b.length : Int)) := by omega
    refine ve (And.intro e3 e5) ?_; obtain rfl : k = n := by omega
    exact ⟨_, H⟩
end Go.Proofs.YtcmckbgiiclomabGreatDoor.V
