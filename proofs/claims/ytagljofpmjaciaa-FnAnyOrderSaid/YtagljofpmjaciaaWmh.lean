/- A key that was caught, or is caught by going on: the reference's side. -/
import Derived.Test.YtagljofpmjaciaaWmg
namespace Go.Proofs.Ytagljofpmjaciaa.V
open Go Go.RowKit
set_option maxRecDepth 100000
set_option maxHeartbeats 4000000
set_option linter.unusedSimpArgs false
set_option linter.unusedVariables false
set_option pp.deepTerms false
set_option pp.deepTerms.threshold 3

theorem ck_out {x : MCatch} {n : Int} (h : catchOk x = true) (hn : ¬ (0 ≤ n ∧ n ≤ 999)) : ck x n = (x, [], false) := by
  obtain ⟨p1, p2, p3⟩ := catchOk_p h
  obtain ⟨o1, o2, o3⟩ := chainOk_iff.1 p1
  refine ck_not h (ckAt_none fun j hj => ?_) (by omega)
  have := (p3 j hj).1
  omega
theorem smKept_take {l : List MKept} {k : Nat} (h : smKeptS l) : smKeptS (l.take k) := ⟨by rw [List.length_take]; have := h.1; omega, fun y hy => h.2 y (List.mem_of_mem_take hy)⟩
theorem smKept_drop {l : List MKept} {k : Nat} (h : smKeptS l) : smKeptS (l.drop k) := ⟨by rw [List.length_drop]; have := h.1; omega, fun y hy => h.2 y (List.mem_of_mem_drop hy)⟩

theorem Sep.four {n : Nat} {w0 w : World} {L M1 M2 M3 M4 : List Ck} (a b c d : Ck) (H : Sep n w0 w L) (h1 : Out a L M1 := by repeat (first | exact Out.here | apply Out.there)) (h2 : Out b M1 M2 := by repeat (first | exact Out.here | apply Out.there)) (h3 : Out c M2 M3 := by repeat (first | exact Out.here | apply Out.there)) (h4 : Out d M3 M4 := by repeat (first | exact Out.here | apply Out.there)) : Sep n w0 w [d, c, b, a] := by
  have H1 := ((((H.out h1).out (.there h2)).out (.there (.there h3))).out (.there (.there (.there h4))))
  exact H1.left (L := [d, c, b, a])
theorem specCatchKey_ok (w : World) (cs : List Value) (x : MCatch) (n : Int) (h : kCatch.rd w w.heap.size cs x) (hs : smCatch x) :
    ACalls Try.prog 53 #[.agg cs.toArray, .int .i64 n] w fun r w' => ∃ cs' fp v' fp', r = .tuple #[.agg cs'.toArray, v', .bool (ck x n).2.2] ∧ Sep w.heap.size w w' [Ck.own kCatch fp cs' (ck x n).1, Ck.own (bytes 5) fp' [v'] (ck x n).2.1] := by
  obtain ⟨v0, v1, rfl, h0, h1⟩ := kCatch_open h
  have h1' := h1
  have hlm := sl_len h1
  have hs0 := hs.2.1
  obtain ⟨A, c, rfl, _, _, ha⟩ := sl_open h1
  have H := Sep.start w
  refine body_of follows Try.func53 rfl rfl _ rfl (by kernel_rfl) (vs ?_)
  refine x_bx H [v0, .int .i64 x.f_Chain.f_N, .slice A x.f_List.length c] fun g1 w1 H => vs ?_
  refine x_al H st50 fun g3 w3 H => vs ?_
  refine x_lda H st50 ?_
  refine vs ?_
  refine x_call (l24Catch_ok w3 _ x (H.rd h) hs) fun _ w4 ⟨a0, f0, a1, f1, e, S⟩ => ?_
  subst e
  have H := H.join S
  simp only [List.cons_append, List.nil_append] at H
  have ht0 := H.own (.head _)
  obtain ⟨_, e0, ht1, _⟩ := kChain_open ht0
  simp only [List.cons.injEq, and_true] at e0
  obtain ⟨rfl, _⟩ := e0
  obtain ⟨A0, c0, rfl, _⟩ := sl_open ht1
  obtain ⟨A1, c1, rfl, _⟩ := sl_open (H.own (.tail _ (.head _)))
  refine vs ?_
  refine x_al H st50 fun g4 w5 H => vs ?_
  refine x_sta (vs := [.slice A0 x.f_Chain.f_Key.length c0, .int .i64 x.f_Chain.f_N, .slice A1 x.f_List.length c1]) H st50 (h1 := by simp [Value.oneCell']) fun w6 H => vs ?_
  refine x_lda H st50 ?_
  refine vs ?_
  refine x_callb H (specCatchOk_ok w6 _ _ (H.rd h)) fun w7 H => ?_
  cases hok : catchOk x with
  | false =>
    refine vs ?_
    rw [ck_bad hok]
    refine x_lda H st50 ?_
    refine vs ?_
    refine x_emp H pl_u8 sl22 fun ge we H => vs ?_
    refine x_sta H st50 (vs := [.slice A0 x.f_Chain.f_Key.length c0, .int .i64 x.f_Chain.f_N, .slice A1 x.f_List.length c1]) (h1 := by simp [Value.oneCell']) fun w8 H => vs ?_
    have H := H.front (c := Ck.own kepts f1 [.slice A1 x.f_List.length c1] x.f_List)
    have H := H.front (c := Ck.own kChain f0 [.slice A0 x.f_Chain.f_Key.length c0, .int .i64 x.f_Chain.f_N] x.f_Chain)
    obtain ⟨fp, H⟩ := ownCatch x H
    exact ⟨_, _, rfl, res_cell H st50, _, _, _, _, rfl, H.two .here .here⟩
  | true =>
    obtain ⟨p1, p2, p3⟩ := catchOk_p hok
    obtain ⟨o1, o2, o3⟩ := chainOk_iff.1 p1
    refine vs ?_
    refine x_callw (l1In_ok w7 _ _ _) ?_
    by_cases q0 : ¬ (0 ≤ n ∧ n ≤ 999)
    · refine ve q0 ?_
      rw [ck_out hok q0]
      refine x_lda H st50 ?_
      refine vs ?_
      refine x_emp H pl_u8 sl22 fun ge we H => vs ?_
      refine x_sta H st50 (vs := [.slice A0 x.f_Chain.f_Key.length c0, .int .i64 x.f_Chain.f_N, .slice A1 x.f_List.length c1]) (h1 := by simp [Value.oneCell']) fun w8 H => vs ?_
      have H := H.front (c := Ck.own kepts f1 [.slice A1 x.f_List.length c1] x.f_List)
      have H := H.front (c := Ck.own kChain f0 [.slice A0 x.f_Chain.f_Key.length c0, .int .i64 x.f_Chain.f_N] x.f_Chain)
      obtain ⟨fp, H⟩ := ownCatch x H
      exact ⟨_, _, rfl, res_cell H st50, _, _, _, _, rfl, H.two .here .here⟩
    have q0 := Classical.not_not.1 q0
    refine ve q0 ?_
    have H := H.front (c := Ck.own kChain f0 [.slice A0 x.f_Chain.f_Key.length c0, .int .i64 x.f_Chain.f_N] x.f_Chain)
    have H := H.front (c := Ck.own kepts f1 [.slice A1 x.f_List.length c1] x.f_List)
    refine loop_at (σ := Nat) (fun k => [(1, .int .i64 n), (2, .pointer (some ⟨g1, 0, none⟩)), (4, .pointer (some ⟨g3, 0, none⟩)), (7, .pointer (some ⟨g4, 0, none⟩)), (8, .int .i64 (k : Int))])
      (fun k w' => k ≤ x.f_List.length ∧ (∀ i (hi : i < x.f_List.length), i < k → ¬ x.f_List[i].f_N = n) ∧ Sep w.heap.size w w' [Ck.own kepts f1 [.slice A1 x.f_List.length c1] x.f_List, Ck.own kChain f0 [.slice A0 x.f_Chain.f_Key.length c0, .int .i64 x.f_Chain.f_N] x.f_Chain, Ck.box g4 [.slice A0 x.f_Chain.f_Key.length c0, .int .i64 x.f_Chain.f_N, .slice A1 x.f_List.length c1] 50, Ck.box g3 [.slice none 0 0, .int .i64 0, .slice none 0 0] 50, Ck.box g1 [v0, .int .i64 x.f_Chain.f_N, .slice A x.f_List.length c] 50]) (fun k => x.f_List.length - k) 0 (vs trivial) ⟨Nat.zero_le _, fun i hi h => absurd h (Nat.not_lt_zero i), H⟩ ?_
    rintro k s w2 ⟨hk, hall, H⟩
    refine vs ?_
    refine x_ld H sc48 ?_
    refine vs (ways ?_ ?_)
    · refine vh fun hlt => ?_
      have hk2 : k < x.f_List.length := by omega
      refine x_ld H sc48 ?_
      refine vs ?_
      refine x_ele H sl48 rfl k hk2 ha rfl fun ad es hb hr hc => vs ?_
      obtain ⟨u0, rfl, hy0, hy1⟩ := kKept_open hr
      refine x_lf0 sc3 hc (by decide) rfl ?_
      by_cases q1 : x.f_List[k].f_N = n
      · refine ve q1 ?_
        rw [ck_found hok hk2 (ckAt_some hk2 q1 hall)]
        refine draw_at [(0, true), (1, true), (2, true), (3, true), (5, true), (6, true), (7, true), (8, true), (9, true), (4, false), (10, false), (11, false), (12, true)] fun w8 hh hb8 => vs ?_
        have H := H.go (hb8 _)
        have J := Sep.start w8
        refine q_ldB H J sc48 ?_
        refine vs ?_
        refine q_to (wr := w) sl48 rfl h1 (Nat.le_of_lt hk2) fun v1 hv1 => vs ?_
        refine q_ldB H J sc48 ?_
        refine ve (show w64 ((k : Int) + 1) = ((k + 1 : Nat) : Int) from w64_succ (b := 1048576) (by omega) (by omega)) ?_
        refine q_from (wr := w) sl48 rfl h1 (lo := k + 1) hk2 fun v2 hv2 => vs ?_
        refine x_callf J (l24Kept_ok w8 v1 _ (H.rd hv1) (smKept_take hs.2)) fun r9 f9 w9 J => vs ?_
        refine ⟨kept_base (Sep.start w8) J, ?_⟩
        refine x_callf J (l24Kept_ok w9 v2 _ (J.rd (H.rd hv2)) (smKept_drop hs.2)) fun r10 f10 w10 J => vs ?_
        refine ⟨kept_base (Sep.start w8) J, ?_⟩
        refine x_appO sl48 J rfl ?_ ?_ fun f11 v11 w11 J => vs ?_
        · simp only [List.length_take, List.length_drop]; omega
        · simp only [List.length_take, List.length_drop]; omega
        refine ⟨kept_base (Sep.start w8) J, ?_⟩
        rw [← List.eraseIdx_eq_take_drop_succ] at J
        have H := H.join J
        simp only [List.cons_append, List.nil_append] at H
        have h11 := Kd.one _ (H.own (.head _)) v11 (by simp)
        obtain ⟨A11, c11, rfl, _⟩ := sl_open (H.own (.head _))
        refine draw_zat [(0, true), (1, true), (2, true), (3, true), (5, true), (6, true), (7, true), (8, true), (9, true), (10, true), (4, false), (11, false)] 12 [12, 13, 14] [] fun w12 hh hb12 => vs ?_
        have H := H.go (hb12 _)
        have J := Sep.start w12
        refine q_ldpB H J [.slice A0 x.f_Chain.f_Key.length c0, .int .i64 x.f_Chain.f_N] st43 ?_
        refine vs ?_
        refine q_bld bl50 [_, _, _] ?_
        refine vs ?_
        refine q_ldB H J sc48 ?_
        refine vs ?_
        refine q_ele H sl48 rfl k hk2 ha rfl fun ad2 es2 hb2 hr2 hc2 => vs ?_
        obtain ⟨u2, rfl, hz0, hz1⟩ := kKept_open hr2
        refine q_lfj sc22 hc2 (by decide) (Nat.lt_of_lt_of_le hb2 H.ns) rfl ?_
        refine vs ?_
        refine x_emp J pl_u8 sl22 fun g13 w13 J => vs ?_
        refine ⟨kept_base (Sep.start w12) J, ?_⟩
        have hsm : x.f_List[k].f_Key.length ≤ 1048576 := hs.2.2 x.f_List[k] (List.getElem_mem hk2)
        refine x_app (l := []) J pl_u8 sl22 (J.rd (H.rd hz1)) ?_ ?_ fun f14 v14 w14 J => vs ?_
        · simp only [List.length_nil]; omega
        · simp only [List.length_nil]; omega
        refine ⟨kept_base (Sep.start w12) J, ?_⟩
        rw [List.nil_append] at J
        have H := H.join J
        simp only [List.cons_append, List.nil_append] at H
        refine dl_cons ⟨_, rfl, vs ?_⟩
        refine x_sta H st50 (vs := [.slice A0 x.f_Chain.f_Key.length c0, .int .i64 x.f_Chain.f_N, .slice A11 (x.f_List.eraseIdx k).length c11]) (h1 := by simp [Value.oneCell']) fun w15 H => ?_
        refine dl_cons ⟨_, rfl, vs ?_⟩
        refine dl_cons ⟨_, rfl, vs ?_⟩
        refine dl_nil (vs ?_)
        have H := H.front (c := Ck.own kepts f11 [.slice A11 (x.f_List.eraseIdx k).length c11] (x.f_List.eraseIdx k))
        have H := H.front (c := Ck.own kChain f0 [.slice A0 x.f_Chain.f_Key.length c0, .int .i64 x.f_Chain.f_N] x.f_Chain)
        obtain ⟨fp, H⟩ := ownCatch (⟨x.f_Chain, x.f_List.eraseIdx k⟩ : MCatch) H
        exact ⟨_, _, rfl, res_cell H st50, _, _, _, _, rfl, H.two .here .here⟩
      · refine ve q1 ?_
        refine ⟨k + 1, i64_eq (by unfold w64; omega), ⟨hk2, fun i hi h => ?_, H⟩, by omega⟩
        by_cases h2 : i = k
        · subst h2; exact q1
        · exact hall i hi (by omega)
    · refine vh fun hlt => ?_
      have hat := ckAt_none (fun j hj => hall j hj (by omega))
      refine x_ld H sc3 ?_
      by_cases q1 : n < x.f_Chain.f_N
      · refine ve q1 ?_
        rw [ck_not hok hat (.inl q1)]
        refine x_lda H st50 ?_
        refine vs ?_
        refine x_emp H pl_u8 sl22 fun ge we H => vs ?_
        refine x_sta H st50 (vs := [.slice A0 x.f_Chain.f_Key.length c0, .int .i64 x.f_Chain.f_N, .slice A1 x.f_List.length c1]) (h1 := by simp [Value.oneCell']) fun w8 H => vs ?_
        have H := H.front (c := Ck.own kepts f1 [.slice A1 x.f_List.length c1] x.f_List)
        have H := H.front (c := Ck.own kChain f0 [.slice A0 x.f_Chain.f_Key.length c0, .int .i64 x.f_Chain.f_N] x.f_Chain)
        obtain ⟨fp, H⟩ := ownCatch x H
        exact ⟨_, _, rfl, res_cell H st50, _, _, _, _, rfl, H.two .here .here⟩
      refine ve q1 ?_
      refine x_ld H sc48 ?_
      refine ve (show w64 ((x.f_List.length : Int) + n) = x.f_List.length + n from w64_id (by omega) (by omega)) ?_
      refine x_ld H sc3 ?_
      refine ve (show w64 ((x.f_List.length : Int) + n - x.f_Chain.f_N) = x.f_List.length + n - x.f_Chain.f_N from w64_id (by omega) (by omega)) ?_
      by_cases q3 : 5 < (x.f_List.length : Int) + n - x.f_Chain.f_N
      · refine ve q3 ?_
        rw [ck_not hok hat (.inr (.inr q3))]
        refine x_lda H st50 ?_
        refine vs ?_
        refine x_emp H pl_u8 sl22 fun ge we H => vs ?_
        refine x_sta H st50 (vs := [.slice A0 x.f_Chain.f_Key.length c0, .int .i64 x.f_Chain.f_N, .slice A1 x.f_List.length c1]) (h1 := by simp [Value.oneCell']) fun w8 H => vs ?_
        have H := H.front (c := Ck.own kepts f1 [.slice A1 x.f_List.length c1] x.f_List)
        have H := H.front (c := Ck.own kChain f0 [.slice A0 x.f_Chain.f_Key.length c0, .int .i64 x.f_Chain.f_N] x.f_Chain)
        obtain ⟨fp, H⟩ := ownCatch x H
        exact ⟨_, _, rfl, res_cell H st50, _, _, _, _, rfl, H.two .here .here⟩
      refine ve q3 ?_
      have hgo := ck_go hok hat (by omega)
      refine x_lda H st50 ?_
      refine vs ?_
      refine x_call (l24Catch_ok w2 _ x (H.rd h) hs) fun _ w4 ⟨a0, f0, a1, f1, e, S⟩ => ?_
      subst e
      have H := H.join S
      simp only [List.cons_append, List.nil_append] at H
      have ht0 := H.own (.head _)
      obtain ⟨_, e0, ht1, _⟩ := kChain_open ht0
      simp only [List.cons.injEq, and_true] at e0
      obtain ⟨rfl, _⟩ := e0
      obtain ⟨B0, b0, rfl, _⟩ := sl_open ht1
      obtain ⟨B1, b1, rfl, _⟩ := sl_open (H.own (.tail _ (.head _)))
      refine vs ?_
      refine x_al H st50 fun g5 w5 H => vs ?_
      refine x_sta (vs := [.slice B0 x.f_Chain.f_Key.length b0, .int .i64 x.f_Chain.f_N, .slice B1 x.f_List.length b1]) H st50 (h1 := by simp [Value.oneCell']) fun w6 H => vs ?_
      have H := H.four (Ck.box g3 [.slice none 0 0, .int .i64 0, .slice none 0 0] 50) (Ck.box g5 [.slice B0 x.f_Chain.f_Key.length b0, .int .i64 x.f_Chain.f_N, .slice B1 x.f_List.length b1] 50) (Ck.own kepts f1 [.slice B1 x.f_List.length b1] x.f_List) (Ck.own kChain f0 [.slice B0 x.f_Chain.f_Key.length b0, .int .i64 x.f_Chain.f_N] x.f_Chain)
      refine loop_at (σ := MCatch × Value × List Nat × Value × List Nat) (fun y => [(1, .int .i64 n), (4, .pointer (some ⟨g3, 0, none⟩)), (10, .pointer (some ⟨g5, 0, none⟩))])
        (fun y w' => (chainOk y.1.f_Chain = true ∧ y.1.f_Chain.f_N ≤ n ∧ 0 ≤ y.1.f_Chain.f_N ∧ y.1.f_List.length ≤ 5 + y.1.f_Chain.f_N ∧ ck x n = ckGo (n - y.1.f_Chain.f_N).toNat y.1) ∧ Sep w.heap.size w w' [Ck.own kChain y.2.2.1 [y.2.1, .int .i64 y.1.f_Chain.f_N] y.1.f_Chain, Ck.own kepts y.2.2.2.2 [y.2.2.2.1] y.1.f_List, Ck.box g5 [y.2.1, .int .i64 y.1.f_Chain.f_N, y.2.2.2.1] 50, Ck.box g3 [.slice none 0 0, .int .i64 0, .slice none 0 0] 50]) (fun y => (n - y.1.f_Chain.f_N).toNat) (x, _, f0, _, f1) (vs trivial) ⟨⟨p1, by dsimp only; omega, by dsimp only; omega, by dsimp only; omega, hgo⟩, H⟩ ?_
      rintro ⟨y, a0, f0, a1, f1⟩ s w2 ⟨⟨r1, r2, r3, r4, r5⟩, H⟩
      dsimp only at r1 r2 r3 r4 r5 H
      have hgo1 := chainGo_of r1 (by omega)
      obtain ⟨o1', _, _⟩ := chainOk_iff.1 r1
      obtain ⟨s1, s2, s3⟩ := chainOk_next hgo1
      refine vs ?_
      refine x_ldp H [a0, .int .i64 y.f_Chain.f_N] st43 ?_
      refine vs ?_
      refine x_call (specChainNext_ok w2 _ y.f_Chain (H.own (.head _)) (by unfold smChain; omega)) fun _ w3 ⟨cs3, f3, v3, g5, e, S⟩ => ?_
      subst e
      rw [hgo1]
      have H := H.join S
      simp only [List.cons_append, List.nil_append] at H
      obtain ⟨t0, rfl, ht0, _⟩ := kChain_open (H.own (.head _))
      obtain ⟨A3, c3, rfl, _⟩ := sl_open ht0
      obtain ⟨A4, c4, rfl, _⟩ := sl_open (H.own (.tail _ (.head _)))
      have ha1 := Kd.one _ (H.own (.tail _ (.tail _ (.tail _ (.head _))))) a1 (by simp)
      refine vs ?_
      refine x_al H st43 fun g6 w4 H => vs ?_
      refine x_sta H st43 (vs := [.slice A3 (chainNextC y.f_Chain).f_Key.length c3, .int .i64 (chainNextC y.f_Chain).f_N]) (h1 := by simp [Value.oneCell']) fun w5 H => vs ?_
      refine x_ld H sc3 ?_
      refine vs ?_
      refine x_lda H st43 ?_
      refine vs ?_
      refine x_sta H st43 (vs := [.slice A3 (chainNextC y.f_Chain).f_Key.length c3, .int .i64 (chainNextC y.f_Chain).f_N]) (h1 := by simp [Value.oneCell']) fun w6 H => vs ?_
      by_cases q4 : y.f_Chain.f_N = n
      · refine ve q4 ?_
        have e5 : ck x n = (⟨chainNextC y.f_Chain, y.f_List⟩, chainNextK y.f_Chain, true) := by rw [r5, show (n - y.f_Chain.f_N).toNat = 0 by omega]; rfl
        rw [e5]
        refine x_lda H st50 ?_
        refine vs ?_
        refine x_sta H st50 (vs := [.slice A3 (chainNextC y.f_Chain).f_Key.length c3, .int .i64 (chainNextC y.f_Chain).f_N, a1]) (h1 := by intro v hv; simp only [List.mem_cons, List.not_mem_nil, or_false] at hv; rcases hv with rfl | rfl | rfl; rfl; rfl; exact ha1) fun w8 H => vs ?_
        have H := H.front (c := Ck.own kepts f1 [a1] y.f_List)
        have H := H.front (c := Ck.own kChain f3 [.slice A3 (chainNextC y.f_Chain).f_Key.length c3, .int .i64 (chainNextC y.f_Chain).f_N] (chainNextC y.f_Chain))
        obtain ⟨fp, H⟩ := ownCatch (⟨chainNextC y.f_Chain, y.f_List⟩ : MCatch) H
        exact ⟨_, _, rfl, res_cell H st50, _, _, _, _, rfl, H.two .here⟩
      · refine ve q4 ?_
        refine x_ld H sc48 ?_
        refine vs ?_
        refine x_build bl105 [.int .i64 y.f_Chain.f_N, .slice A4 (chainNextK y.f_Chain).length c4] ?_
        refine vs ?_
        have H := H.front (c := Ck.own (bytes 5) g5 [.slice A4 (chainNextK y.f_Chain).length c4] (chainNextK y.f_Chain))
        obtain ⟨f7, H⟩ := ownKept (⟨y.f_Chain.f_N, chainNextK y.f_Chain⟩ : MKept) H (by constructor <;> dsimp only <;> omega)
        refine x_lst1 sl48 H rfl rfl fun f8 v8 w8 H => vs ?_
        have H := H.front (c := Ck.own kepts f1 [a1] y.f_List)
        have H := H.front (c := Ck.own kepts f8 [v8] [⟨y.f_Chain.f_N, chainNextK y.f_Chain⟩])
        refine x_appO sl48 H rfl ?_ ?_ fun f9 v9 w9 H => vs ?_
        · simp only [List.length_cons, List.length_nil]; omega
        · simp only [List.length_cons, List.length_nil]; omega
        have h9 := Kd.one _ (H.own (.head _)) v9 (by simp)
        refine x_st H sc48 (h1 := h9) fun w10 H => vs ?_
        refine ⟨(⟨chainNextC y.f_Chain, y.f_List ++ [⟨y.f_Chain.f_N, chainNextK y.f_Chain⟩]⟩, .slice A3 (chainNextC y.f_Chain).f_Key.length c3, f3, v9, f9), ?_⟩
        refine ⟨⟨⟨s1, by dsimp only; omega, by dsimp only; omega, by dsimp only; simp only [List.length_append, List.length_cons, List.length_nil]; omega, ?_⟩, ?_⟩, ?_⟩
        · dsimp only
          rw [r5, show (n - y.f_Chain.f_N).toNat = (n - (chainNextC y.f_Chain).f_N).toNat + 1 by omega]; rfl
        · have H := H.front (c := Ck.own kepts f9 [v9] (y.f_List ++ [⟨y.f_Chain.f_N, chainNextK y.f_Chain⟩]))
          have H := H.front (c := Ck.own kChain f3 [.slice A3 (chainNextC y.f_Chain).f_Key.length c3, .int .i64 (chainNextC y.f_Chain).f_N] (chainNextC y.f_Chain))
          have H := H.drops (L := [_, _]) (c := Ck.box g6 _ _)
          have H := H.drops (L := [_, _]) (c := Ck.own kChain f0 _ _)
          exact H
        · dsimp only; omega

/-! ### how much is answered -/
theorem ckGo_sm : ∀ (k : Nat) (x : MCatch), x.f_List.length + k ≤ 1048576 → smChain x.f_Chain → (∀ y ∈ x.f_List, smKept y) → smCatch (ckGo k x).1 ∧ (ckGo k x).2.1.length ≤ 1048576
  | 0, x, h0, h1, h2 => ⟨⟨chainNextC_len h1 (by omega), by show x.f_List.length ≤ _; omega, h2⟩, by have := chainNextK_len x.f_Chain; show (chainNextK x.f_Chain).length ≤ _; omega⟩
  | k + 1, x, h0, h1, h2 => ckGo_sm k _ (by simp only [List.length_append, List.length_cons, List.length_nil]; omega) (chainNextC_len h1 (by omega)) (fun y hy => by
      simp only [List.mem_append, List.mem_singleton] at hy
      rcases hy with hy | rfl
      · exact h2 y hy
      · have := chainNextK_len x.f_Chain; show (chainNextK x.f_Chain).length ≤ _; omega)
theorem ck_sm {x : MCatch} {n : Int} (h : smCatch x) : smCatch (ck x n).1 ∧ (ck x n).2.1.length ≤ 1048576 := by
  cases hok : catchOk x with
  | false => rw [ck_bad hok]; exact ⟨h, by simp⟩
  | true =>
    obtain ⟨p1, p2, p3⟩ := catchOk_p hok
    obtain ⟨o1, o2, o3⟩ := chainOk_iff.1 p1
    cases ha : ckAt x.f_List n with
    | some i =>
      have hi : i < x.f_List.length := by
        unfold ckAt at ha
        rw [List.findIdx?_eq_some_iff_getElem] at ha
        exact ha.1
      rw [ck_found hok hi ha]
      refine ⟨⟨h.1, by show (x.f_List.eraseIdx i).length ≤ _; have := h.2.1; rw [List.length_eraseIdx, if_pos hi]; omega, fun y hy => h.2.2 y (List.mem_of_mem_eraseIdx hy)⟩, h.2.2 _ (List.getElem_mem hi)⟩
    | none =>
      by_cases q : n < x.f_Chain.f_N ∨ 1000 ≤ n ∨ 5 < x.f_List.length + n - x.f_Chain.f_N
      · rw [ck_not hok ha q]; exact ⟨h, by simp⟩
      · rw [ck_go hok ha q]
        exact ckGo_sm _ _ (by omega) h.1 h.2.2
end Go.Proofs.Ytagljofpmjaciaa.V
