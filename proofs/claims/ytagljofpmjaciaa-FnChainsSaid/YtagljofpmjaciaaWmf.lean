/- What was caught of a chain: copies, both sides. -/
import Derived.Test.YtagljofpmjaciaaWme
import Derived.Test.YtagljofpmjaciaaWe
import Derived.Test.YtagljofpmjaciaaVu
namespace Go.Proofs.Ytagljofpmjaciaa.V
open Go Go.RowKit
set_option maxRecDepth 100000
set_option maxHeartbeats 4000000
set_option linter.unusedSimpArgs false
set_option linter.unusedVariables false
set_option pp.deepTerms false
set_option pp.deepTerms.threshold 3

abbrev kepts : Kd (List MKept) := Kd.slice 105 kKept
theorem ownKept {n : Nat} {w0 w : World} {L : List Ck} {f1 : List Nat} {v1 : Value} (x : MKept) (H : Sep n w0 w (Ck.own (bytes 5) f1 [v1] x.f_Key :: L)) (r : -9223372036854775808 ≤ x.f_N ∧ x.f_N < 9223372036854775808) : ∃ fp, Sep n w0 w (Ck.own kKept fp [.int .i64 x.f_N, v1] x :: L) := by
  have H := H.plain pl_i64 (x := x.f_N) r
  have H := H.pair
  exact ⟨_, H.iso (f := fun c : MKept => (c.f_N, c.f_Key))⟩

theorem l24Kept_ok (w : World) (v : Value) (l : List MKept) (h : kepts.rd w w.heap.size [v] l) (hs : smKeptS l) :
    ACalls Try.prog 108 #[v] w fun r w' => ∃ fp, Sep w.heap.size w w' [Ck.own kepts fp [r] l] := by
  have hlm := sl_len h
  have hs0 := hs.1
  obtain ⟨A, c, rfl, hc1, hc2, ha⟩ := sl_open h
  refine body_of follows Try.func108 rfl rfl _ rfl (by kernel_rfl) (vs ?_)
  refine x_empO (d := kKept) (Sep.start w) sl48 fun g w1 H => vs ?_
  refine loop_at (σ := Nat × Value × List Nat) (fun x => [(0, .slice A l.length c), (3, x.2.1), (4, .int .i64 (x.1 : Int))])
    (fun x w' => x.1 ≤ l.length ∧ Sep w.heap.size w w' [Ck.own kepts x.2.2 [x.2.1] (l.take x.1)]) (fun x => l.length - x.1) (0, _, _) (vs trivial) ⟨Nat.zero_le _, H⟩ ?_
  rintro ⟨k, v', fp⟩ s w2 ⟨hk, H⟩
  dsimp only at hk H
  refine vs (ways ?_ ?_)
  · refine vh fun hlt => ?_
    have hk2 : k < l.length := by omega
    have hsm : l[k].f_Key.length ≤ 1048576 := hs.2 l[k] (List.getElem_mem hk2)
    refine draw_of [(0, true), (1, true), (2, true), (3, true), (4, true), (5, true), (7, true), (8, true), (9, true), (10, true), (11, true), (6, false), (12, false), (13, true), (14, false), (15, false), (16, true)] w.heap.size [] fun w3 hh hb3 => vs ?_
    have H := H.go (hb3 _)
    have H3 := H
    refine q_ele H sl48 rfl k hk2 ha rfl fun ad es hb hr hc => vs ?_
    obtain ⟨u1, rfl, hN, hK⟩ := kKept_open hr
    refine q_lf0 sc3 hc (by decide) hb rfl ?_
    refine vs ?_
    refine q_ele H sl48 rfl k hk2 ha rfl fun ad2 es2 hb2 hr2 hc2 => vs ?_
    obtain ⟨u2, rfl, _, hK2⟩ := kKept_open hr2
    refine q_lfj sc22 hc2 (by decide) hb2 rfl ?_
    refine vs ?_
    refine x_emp H pl_u8 sl22 fun g4 w4 H => vs ?_
    refine ⟨kept_base H3 H, ?_⟩
    refine x_app (l := []) H pl_u8 sl22 (H.rd hK2) ?_ ?_ fun f5 v5 w5 H => vs ?_
    · simp only [List.length_nil]; omega
    · simp only [List.length_nil]; omega
    refine ⟨kept_base H3 H, ?_⟩
    rw [List.nil_append] at H
    obtain ⟨A5, c5, rfl, _⟩ := sl_open (H.own (.head _))
    refine q_bld bl105 [_, _] ?_
    refine vs ?_
    obtain ⟨f6, H⟩ := ownKept l[k] H hN
    refine x_lst1 sl48 H rfl rfl fun f7 v7 w7 H => vs ?_
    refine ⟨kept_base H3 H, ?_⟩
    refine x_appO sl48 H rfl ?_ ?_ fun f8 v8 w8 H => vs ?_
    · simp only [List.length_take, List.length_cons, List.length_nil]; omega
    · simp only [List.length_take, List.length_cons, List.length_nil]; omega
    refine ⟨kept_base H3 H, (k + 1, v8, f8), ⟨rfl, i64_eq (by show w64 ((k : Int) + 1) = ((k + 1 : Nat) : Int); exact w64_succ (b := 1048576) (by omega) (by omega))⟩, ⟨hk2, ?_⟩, by show l.length - (k + 1) < l.length - k; omega⟩
    show Sep _ _ _ [Ck.own _ f8 [v8] (l.take (k + 1))]
    rw [List.take_succ_eq_append_getElem hk2]
    exact H
  · refine vh fun hlt => ?_
    obtain rfl : k = l.length := by omega
    rw [List.take_length] at H
    exact ⟨_, H⟩

/-- v[lo:hi:max] that nobody looks at. -/
theorem x_lhm {P : Program} {w : World} {K : Value → World → Prop} {tg : Tg K} {t e sz by_ : Nat} {z : Value} (HS : SlT P t e sz by_ z) {A : Option Addr} {m c : Nat} {k k' k'' : IntKind} {lo hi mx : Nat} (h1 : lo ≤ hi) (h2 : hi ≤ mx) (h3 : mx ≤ c) (h : ∀ v, K v w) :
    VS P K tg (Instr.sliceAt t (.slice A m c) (some (.int k (lo : Int))) (some (.int k' (hi : Int))) (some (.int k'' (mx : Int)))) w := by
  obtain ⟨i, hi', hs, _⟩ := HS.inf
  have he := elem_of HS.un
  have hu : P.underlying t = some (.slice (P.elem t)) := by rw [he]; exact HS.un
  have hsz : (sizeOf (P.elem t)).run P w = .ok sz w := by rw [he]; exact run_sizeOf' hi' hs
  refine vS_run (v := sliced A lo hi mx sz) ?_ (h _)
  rw [run_sliceAt_slice w t _ _ _ _ hu, run_slice_lhm w t A m c hu k k' k'' lo hi mx (by omega) (by omega) (by omega) (by omega), hsz]; rfl

theorem l24Catch_ok (w : World) (cs : List Value) (x : MCatch) (h : kCatch.rd w w.heap.size cs x) (hs : smCatch x) :
    ACalls Try.prog 107 #[.agg cs.toArray] w fun r w' => ∃ a0 f0 a1 f1, r = .agg #[a0, .int .i64 x.f_Chain.f_N, a1] ∧ Sep w.heap.size w w' [Ck.own kChain f0 [a0, .int .i64 x.f_Chain.f_N] x.f_Chain, Ck.own kepts f1 [a1] x.f_List] := by
  obtain ⟨v0, v1, rfl, h0, h1⟩ := kCatch_open h
  have H := Sep.start w
  refine body_of follows Try.func107 rfl rfl _ rfl (by kernel_rfl) (vs ?_)
  refine x_bx H [v0, .int .i64 x.f_Chain.f_N, v1] fun g1 w1 H => vs ?_
  have J := Sep.start w1
  refine x_al J st50 fun g2 w2 J => vs ?_
  refine draw_of [(0, true), (1, true), (3, true), (4, true), (2, false), (5, false), (6, true), (7, false)] w1.heap.size [] fun w3 hh hb3 => vs ?_
  have J := J.go (hb3 _)
  have J3 := J
  refine q_ldpB H J3 [v0, .int .i64 x.f_Chain.f_N] st43 ?_
  refine vs ?_
  refine q_ldB H J3 sc48 ?_
  refine vs ?_
  refine x_call (l24Copy_ok w3 _ x.f_Chain (J.rd (H.rd h0)) hs.1) fun _ w4 ⟨cs4, f4, e, S⟩ => ?_
  subst e
  have J := J.join S
  simp only [List.cons_append, List.nil_append] at J
  obtain ⟨t0, rfl, ht0, _⟩ := kChain_open (J.own (.head _))
  refine vs ?_
  refine ⟨kept_base J3 J, ?_⟩
  refine x_callf J (l24Kept_ok w4 v1 _ (J.rd (H.rd h1)) hs.2) fun r5 f5 w5 J => vs ?_
  refine ⟨kept_base J3 J, ?_⟩
  obtain ⟨A5, c5, rfl, _⟩ := sl_open (J.own (.head _))
  obtain ⟨A0, c0, rfl, _⟩ := sl_open ht0
  refine q_bld bl50 [_, _, _] ?_
  refine vs ?_
  refine x_sta J st50 (vs := [.slice A0 x.f_Chain.f_Key.length c0, .int .i64 x.f_Chain.f_N, .slice A5 x.f_List.length c5]) (h1 := by simp [Value.oneCell']) fun w7 J => vs ?_
  refine ⟨kept_base J3 J, ?_⟩
  have H := H.join J
  simp only [List.cons_append, List.nil_append] at H
  exact ⟨_, _, rfl, res_cell H st50, _, _, _, _, rfl, H.two (.there .here) .here⟩

theorem cloneCatch_ok (w : World) (cs : List Value) (x : MCatch) (h : kCatch.rd w w.heap.size cs x) (hs : smCatch x) :
    ACalls Try.prog 90 #[.agg cs.toArray] w fun r w' => ∃ a0 f0 a1 f1, r = .agg #[a0, .int .i64 x.f_Chain.f_N, a1] ∧ Sep w.heap.size w w' [Ck.own kChain f0 [a0, .int .i64 x.f_Chain.f_N] x.f_Chain, Ck.own kepts f1 [a1] x.f_List] := by
  obtain ⟨v0, v1, rfl, h0, h1⟩ := kCatch_open h
  have hlm := sl_len h1
  have hs0 := hs.2.1
  obtain ⟨A, c, rfl, _, _, ha⟩ := sl_open h1
  have H := Sep.start w
  refine body_of follows Try.func90 rfl rfl _ rfl (by kernel_rfl) (vs ?_)
  refine x_bx H [v0, .int .i64 x.f_Chain.f_N, .slice A x.f_List.length c] fun g1 w1 H => vs ?_
  refine x_al H st50 fun g2 w2 H => vs ?_
  refine x_ldp H [v0, .int .i64 x.f_Chain.f_N] st43 ?_
  refine vs ?_
  refine x_call (cloneChain_ok w2 _ x.f_Chain (H.rd h0) hs.1) fun _ w3 ⟨cs3, f3, e, S⟩ => ?_
  subst e
  have H := H.join S
  simp only [List.cons_append, List.nil_append] at H
  obtain ⟨t0, rfl, ht0, _⟩ := kChain_open (H.own (.head _))
  obtain ⟨A0, c0, rfl, _⟩ := sl_open ht0
  refine vs ?_
  refine x_build bl50 [.slice A0 x.f_Chain.f_Key.length c0, .int .i64 x.f_Chain.f_N, .slice none 0 0] ?_
  refine vs ?_
  refine x_al H st50 fun g4 w4 H => vs ?_
  refine x_sta (vs := [.slice A0 x.f_Chain.f_Key.length c0, .int .i64 x.f_Chain.f_N, .slice none 0 0]) H st50 (h1 := by simp [Value.oneCell']) fun w5 H => vs ?_
  refine x_ld H sc48 ?_
  refine vs ?_
  have H := H.nothing (d := kepts) (sl_zero w5)
  refine loop_at (σ := Nat × Value × List Nat) (fun y => [(2, .pointer (some ⟨g2, 0, none⟩)), (3, .pointer (some ⟨g4, 0, none⟩)), (11, .slice A x.f_List.length c), (12, .int .i64 (x.f_List.length : Int)), (13, .int .i64 (y.1 : Int))])
    (fun y w' => y.1 ≤ x.f_List.length ∧ Sep w.heap.size w w' [Ck.own kepts y.2.2 [y.2.1] (x.f_List.take y.1), Ck.box g4 [.slice A0 x.f_Chain.f_Key.length c0, .int .i64 x.f_Chain.f_N, y.2.1] 50, Ck.own kChain f3 [.slice A0 x.f_Chain.f_Key.length c0, .int .i64 x.f_Chain.f_N] x.f_Chain, Ck.box g2 [.slice none 0 0, .int .i64 0, .slice none 0 0] 50, Ck.box g1 [v0, .int .i64 x.f_Chain.f_N, .slice A x.f_List.length c] 50]) (fun y => x.f_List.length - y.1) (0, _, _) (vs trivial) ⟨Nat.zero_le _, H⟩ ?_
  rintro ⟨k, v', fp⟩ s w2 ⟨hk, H⟩
  dsimp only at hk H
  refine vs (ways ?_ ?_)
  · refine vh fun hlt => ?_
    have hk2 : k < x.f_List.length := by omega
    have hsm : x.f_List[k].f_Key.length ≤ 1048576 := hs.2.2 x.f_List[k] (List.getElem_mem hk2)
    refine x_elg sl48 rfl (ha.mono H.bel) (by omega) hlt fun ad es hb hr hc => vs ?_
    have hr : kKept.rd w2 w.heap.size es x.f_List[k] := hr
    refine x_lds st105 hc (Kd.len _ hr) (vs ?_)
    have J := Sep.start w2
    refine x_al J st105 fun g5 w3 J => vs ?_
    obtain ⟨u0, rfl, hy0, hy1⟩ := kKept_open hr
    obtain ⟨B, cb, rfl, _, _, _⟩ := sl_open hy1
    refine x_sta J st105 (h1 := Kd.one _ hr) fun w4 J => vs ?_
    refine draw_zat [(0, true), (1, true), (2, true), (3, true), (4, true), (5, true), (6, false), (7, true), (8, false), (9, false)] 10 [10, 11] (fpG fp) fun w5 hh hb5 => vs ?_
    have J := J.go (hb5 _)
    have hky := J.rd (Kd.le _ hy1 H.ns)
    have H := H.join J
    simp only [List.cons_append, List.nil_append] at H
    refine q_ldG H sc48 (H.apartG (.there .here) (.there .here)) ?_
    refine vs ?_
    refine q_ldG H sc3 (H.apartG (.there .here) .here) ?_
    refine vs ?_
    refine q_ldG H sc22 (H.apartG (.there .here) .here) ?_
    refine vs ?_
    have J := Sep.start w5
    refine x_callf J (cloneB_ok w5 _ _ hky (by omega)) fun r6 f6 w6 J => vs ?_
    refine ⟨kept_baseG (Sep.start w5) J, ?_⟩
    obtain ⟨A6, c6, rfl, _⟩ := sl_open (J.own (.head _))
    refine q_bld bl105 [_, _] ?_
    refine vs ?_
    obtain ⟨f7, J⟩ := ownKept x.f_List[k] J hy0
    refine x_lst1 sl48 J rfl rfl fun f8 v8 w8 J => vs ?_
    refine ⟨kept_baseG (Sep.start w5) J, ?_⟩
    have H := H.join J
    simp only [List.cons_append, List.nil_append] at H
    have H := H.front (c := Ck.own kepts fp [v'] (x.f_List.take k))
    have H := H.front (c := Ck.own kepts f8 [v8] [x.f_List[k]])
    refine x_appOC sl48 H rfl ?_ ?_ fun f9 v9 w9 H hchg => vs ?_
    · simp only [List.length_take, List.length_cons, List.length_nil]; omega
    · simp only [List.length_take, List.length_cons, List.length_nil]; omega
    refine ⟨kept_chg (kept_baseG (Sep.start w5) J) hchg (fun b hb => fpG_mem hb) J.ns fpG_zero, ?_⟩
    have h9 := Kd.one _ (H.own (.head _)) v9 (by simp)
    refine dl_cons ⟨_, rfl, vs ?_⟩
    refine dl_cons ⟨_, rfl, vs ?_⟩
    refine x_st H sc48 (h1 := h9) fun w10 H => ?_
    refine dl_nil (vs ?_)
    refine ⟨(k + 1, v9, f9), i64_eq (by show w64 ((k : Int) + 1) = ((k + 1 : Nat) : Int); exact w64_succ (b := 1048576) (by omega) (by omega)), ⟨hk2, ?_⟩, by show x.f_List.length - (k + 1) < x.f_List.length - k; omega⟩
    show Sep _ _ _ [Ck.own kepts f9 [v9] (x.f_List.take (k + 1)), _, _, _, _]
    rw [List.take_succ_eq_append_getElem hk2]
    have H := H.front (c := Ck.box g5 [.int .i64 x.f_List[k].f_N, .slice B x.f_List[k].f_Key.length cb] 105)
    exact H.tail
  · refine vh fun hlt => ?_
    obtain rfl : k = x.f_List.length := by omega
    rw [List.take_length] at H
    obtain ⟨A9, c9, rfl, _⟩ := sl_open (H.own (.head _))
    refine x_lda H st50 ?_
    refine vs ?_
    refine x_sta H st50 (vs := [.slice A0 x.f_Chain.f_Key.length c0, .int .i64 x.f_Chain.f_N, .slice A9 x.f_List.length c9]) (h1 := by simp [Value.oneCell']) fun w5 H => vs ?_
    exact ⟨_, _, rfl, res_cell H st50, _, _, _, _, rfl, H.two (.there (.there .here)) .here⟩
end Go.Proofs.Ytagljofpmjaciaa.V
