/- Items fetched at a post: both sides. Laid by a program. -/
import Derived.Test.YtdljbekkckfmnaaWqs
namespace Go.Proofs.Ytdljbekkckfmnaa.V
open Go Go.RowKit
set_option maxRecDepth 100000
set_option maxHeartbeats 4000000
set_option linter.unusedSimpArgs false
set_option linter.unusedVariables false
set_option pp.deepTerms false
set_option pp.deepTerms.threshold 3

theorem fetch_bad {p : MPost} {r : List UInt8} (h : ¬ (postOk p = true ∧ isRoute r = true)) : fetchP p r = (p, zItem, 1) := by
  unfold fetchP
  rw [if_neg]
  simp only [Bool.and_eq_true]; exact h
theorem fetch_none {p : MPost} {r : List UInt8} (h : postOk p = true) (h1 : isRoute r = true) (h2 : (takeQ p.f_Queue r).2.2 = false) : fetchP p r = (p, zItem, 3) := by
  unfold fetchP
  rw [if_pos (by rw [h, h1]; rfl), if_neg (by rw [h2]; decide)]
theorem fetch_full {p : MPost} {r : List UInt8} (h : postOk p = true) (h1 : isRoute r = true) (h2 : (takeQ p.f_Queue r).2.2 = true) (h3 : ¬ p.f_Book.length + (lineBytes (takeLine r)).length ≤ 12000) : fetchP p r = (p, zItem, 2) := by
  unfold fetchP
  rw [if_pos (by rw [h, h1]; rfl), if_pos h2, if_neg (by unfold fits; rw [decide_eq_false h3]; decide)]
theorem fetch_done {p : MPost} {r : List UInt8} (h : postOk p = true) (h1 : isRoute r = true) (h2 : (takeQ p.f_Queue r).2.2 = true) (h3 : p.f_Book.length + (lineBytes (takeLine r)).length ≤ 12000) : fetchP p r = (⟨(takeQ p.f_Queue r).2.1, p.f_Time, p.f_Book ++ lineBytes (takeLine r), p.f_Sure⟩, (takeQ p.f_Queue r).1, 0) := by
  unfold fetchP
  rw [if_pos (by rw [h, h1]; rfl), if_pos h2, if_pos (by unfold fits; rw [decide_eq_true h3])]
theorem takeLine_ok {r : List UInt8} (h : isRoute r = true) : lineOk (takeLine r) = true := by
  rw [lineOk_2 rfl]
  have e : isRoute (takeLine r).f_Route = true := h
  rw [e]; rfl
theorem takeLine_rd (w : World) (n : Nat) {r : List UInt8} (h : r.length ≤ 9223372036854775807) : kLine.rd w n [.int .i64 2, .string ⟨r.toArray⟩, .int .i64 0, .int .i64 0, .slice none 0 0] (takeLine r) :=
  kLine_of (takeLine r) (by show (-9223372036854775808 : Int) ≤ 2 ∧ (2 : Int) < 9223372036854775808; decide) h (by show (-9223372036854775808 : Int) ≤ 0 ∧ (0 : Int) < 9223372036854775808; decide) (by show (-9223372036854775808 : Int) ≤ 0 ∧ (0 : Int) < 9223372036854775808; decide) (Kd.own_rd _ (sl_zero w) (by simp))
theorem smItem_z : smItem zItem := by unfold smItem zItem; decide
theorem takeQ_sm {q : List MItem} {r : List UInt8} (hs : smItemS q) : smItem (takeQ q r).1 ∧ smItemS (takeQ q r).2.1 := by
  unfold takeQ
  split
  · refine ⟨?_, sm_erase hs _⟩
    show smItem (itAt q _)
    unfold itAt
    rw [List.getD_eq_getElem?_getD]
    rename_i i _
    by_cases h : i < q.length
    · rw [List.getElem?_eq_getElem h, Option.getD_some]; exact hs.2 _ (List.getElem_mem h)
    · rw [List.getElem?_eq_none (by omega), Option.getD_none]; exact smItem_z
  · exact ⟨smItem_z, hs⟩
theorem fetchP_sm {p : MPost} {r : List UInt8} (hs : smPost p) : smPost (fetchP p r).1 ∧ smItem (fetchP p r).2.1 := by
  have ht := takeQ_sm (r := r) hs.1
  unfold fetchP
  split
  · split
    · split
      · rename_i h2
        unfold fits at h2
        simp only [decide_eq_true_eq] at h2
        exact ⟨⟨ht.2, by show (p.f_Book ++ lineBytes (takeLine r)).length ≤ 1048576; rw [List.length_append]; omega⟩, ht.1⟩
      · exact ⟨hs, smItem_z⟩
    · exact ⟨hs, smItem_z⟩
  · exact ⟨hs, smItem_z⟩
theorem implFetch_ok (w : World) (cs : List Value) (p : MPost) (r : List UInt8) (h : kPost.rd w w.heap.size cs p) (hs : smPost p) (hrl : r.length ≤ 1048576) :
    ACalls Try.prog 35 #[.agg cs.toArray, .string ⟨r.toArray⟩] w fun z w' => ∃ cs' fp ds' fi, z = .tuple #[.agg cs'.toArray, .agg ds'.toArray, .int .i64 (fetchP p r).2.2] ∧ Sep w.heap.size w w' [Ck.own kPost fp cs' (fetchP p r).1, Ck.own kItem fi ds' (fetchP p r).2.1] := by
  have hs' := hs
  unfold smPost at hs'
  have h9 := h
  obtain ⟨v0, v2, rfl, h0, h1, h2, h3⟩ := kPost_open h
  obtain ⟨A2, c2, rfl, _⟩ := sl_open h2
  have H := Sep.start w
  refine body_of follows Try.func35 rfl rfl _ rfl (by kernel_rfl) (vs ?_)
  refine x_bx H [v0, .int .i64 p.f_Time, .slice A2 p.f_Book.length c2, .int .i64 p.f_Sure] fun g1 w1 H => vs ?_
  refine x_al H st37 fun g2 w2 H => vs ?_
  refine x_al H st51 fun g8 w9 H => vs ?_
  refine x_lda H st37 ?_
  refine vs ?_
  refine x_call (clonePost_ok _ _ p (H.rd h9) hs) fun _ w3 R => ?_
  unfold PostR at R
  obtain ⟨pa0, pf0, pa2, pf2, rfl, S⟩ := R
  have H := H.join S
  simp only [List.cons_append, List.nil_append] at H
  have po0 := one1 (fp := pf0) (x := p.f_Queue) H (.head _)
  obtain ⟨pB, pd, rfl, _⟩ := sl_open (H.own (fp := pf2) (x := p.f_Book) (.tail _ (.head _)))
  refine vs ?_
  refine x_al H st37 fun g4 w4 H => vs ?_
  refine x_sta H st37 (vs := [pa0, .int .i64 p.f_Time, .slice pB p.f_Book.length pd, .int .i64 p.f_Sure]) (h1 := one4 po0 rfl) fun w4 H => vs ?_
  refine x_lda H st37 ?_
  refine vs ?_
  refine x_callb H (implPostOk_ok _ _ p (H.rd h9) hs) fun w6 H => ?_
  cases hok : postOk p with
  | false =>
    refine vs ?_
    refine x_lda H st37 ?_
    refine vs ?_
    refine x_build bl51 [.string ⟨#[]⟩, .int .i64 0, .int .i64 0, .slice none 0 0] ?_
    refine vs ?_
    refine x_sta H st37 (vs := [pa0, .int .i64 p.f_Time, .slice pB p.f_Book.length pd, .int .i64 p.f_Sure]) (h1 := one4 po0 rfl) fun wz H => vs ?_
    have H := H.nothing (kItem_zero wz)
    refine x_sta H st51 (vs := [.string ⟨#[]⟩, .int .i64 0, .int .i64 0, .slice none 0 0]) (h1 := Kd.one _ (H.own (.head _))) fun wy H => vs ?_
    have H := H.front (c := Ck.own kItem [] [.string ⟨#[]⟩, .int .i64 0, .int .i64 0, .slice none 0 0] zItem)
    have H := H.front (c := Ck.own (bytes 5) pf2 [.slice pB p.f_Book.length pd] p.f_Book)
    have H := H.front (c := Ck.own items pf0 [pa0] p.f_Queue)
    obtain ⟨fz, H⟩ := ownPost p H h1 h3
    rw [fetch_bad (fun hh => by have := hh.1; rw [hok] at this; cases this)]
    exact ⟨_, _, rfl, res_cell H st37, _, _, rfl, res_cell H st51, _, _, _, _, rfl, H.two .here .here⟩
  | true =>
    refine vs ?_
    refine x_callb H (implIsRoute_ok w6 r (by omega)) fun w7 H => ?_
    cases hro : isRoute r with
    | false =>
      refine vs ?_
      refine x_lda H st37 ?_
      refine vs ?_
      refine x_build bl51 [.string ⟨#[]⟩, .int .i64 0, .int .i64 0, .slice none 0 0] ?_
      refine vs ?_
      refine x_sta H st37 (vs := [pa0, .int .i64 p.f_Time, .slice pB p.f_Book.length pd, .int .i64 p.f_Sure]) (h1 := one4 po0 rfl) fun wz H => vs ?_
      have H := H.nothing (kItem_zero wz)
      refine x_sta H st51 (vs := [.string ⟨#[]⟩, .int .i64 0, .int .i64 0, .slice none 0 0]) (h1 := Kd.one _ (H.own (.head _))) fun wy H => vs ?_
      have H := H.front (c := Ck.own kItem [] [.string ⟨#[]⟩, .int .i64 0, .int .i64 0, .slice none 0 0] zItem)
      have H := H.front (c := Ck.own (bytes 5) pf2 [.slice pB p.f_Book.length pd] p.f_Book)
      have H := H.front (c := Ck.own items pf0 [pa0] p.f_Queue)
      obtain ⟨fz, H⟩ := ownPost p H h1 h3
      rw [fetch_bad (fun hh => by have := hh.2; rw [hro] at this; cases this)]
      exact ⟨_, _, rfl, res_cell H st37, _, _, rfl, res_cell H st51, _, _, _, _, rfl, H.two .here .here⟩
    | true =>
      have hll := lineBytes_le (takeLine r)
      refine vs ?_
      refine x_ld H sc35 ?_
      refine vs ?_
      refine x_call (implTake_ok _ v0 _ r (H.rd h0) hs'.1) fun _ w8 ⟨ds, fi, vq, fq, e, S⟩ => ?_
      subst e
      have H := H.join S
      simp only [List.cons_append, List.nil_append] at H
      have oq := one1 (fp := fq) (x := (takeQ p.f_Queue r).2.1) H (.head _)
      have oi0 := Kd.one _ (H.own (fp := fi) (x := (takeQ p.f_Queue r).1) (.tail _ (.head _)))
      obtain ⟨u5, e5, _⟩ := kItem_open (H.own (fp := fi) (x := (takeQ p.f_Queue r).1) (.tail _ (.head _)))
      subst e5
      refine vs ?_
      refine x_al H st51 fun g6 wa H => vs ?_
      refine x_sta H st51 (h1 := oi0) fun wb H => ?_
      cases htk : (takeQ p.f_Queue r).2.2 with
      | false =>
        refine vs ?_
        refine x_lda H st37 ?_
        refine vs ?_
        refine x_build bl51 [.string ⟨#[]⟩, .int .i64 0, .int .i64 0, .slice none 0 0] ?_
        refine vs ?_
        refine x_sta H st37 (vs := [pa0, .int .i64 p.f_Time, .slice pB p.f_Book.length pd, .int .i64 p.f_Sure]) (h1 := one4 po0 rfl) fun wz H => vs ?_
        have H := H.nothing (kItem_zero wz)
        refine x_sta H st51 (vs := [.string ⟨#[]⟩, .int .i64 0, .int .i64 0, .slice none 0 0]) (h1 := Kd.one _ (H.own (.head _))) fun wy H => vs ?_
        have H := H.front (c := Ck.own kItem [] [.string ⟨#[]⟩, .int .i64 0, .int .i64 0, .slice none 0 0] zItem)
        have H := H.front (c := Ck.own (bytes 5) pf2 [.slice pB p.f_Book.length pd] p.f_Book)
        have H := H.front (c := Ck.own items pf0 [pa0] p.f_Queue)
        obtain ⟨fz, H⟩ := ownPost p H h1 h3
        rw [fetch_none hok hro htk]
        exact ⟨_, _, rfl, res_cell H st37, _, _, rfl, res_cell H st51, _, _, _, _, rfl, H.two .here .here⟩
      | true =>
        refine vs ?_
        refine x_build bl60 [.int .i64 2, .string ⟨r.toArray⟩, .int .i64 0, .int .i64 0, .slice none 0 0] ?_
        refine vs ?_
        have H := H.front (c := Ck.box g4 [pa0, .int .i64 p.f_Time, .slice pB p.f_Book.length pd, .int .i64 p.f_Sure] 37)
        have H := H.front (c := Ck.own (bytes 5) pf2 [.slice pB p.f_Book.length pd] p.f_Book)
        refine x_call (noted_ok [.int .i64 2, .string ⟨r.toArray⟩, .int .i64 0, .int .i64 0, .slice none 0 0] (takeLine r) H (takeLine_rd _ _ (by omega)) hrl (by show ([] : List UInt8).length ≤ 1048576; decide) hs'.2) fun _ wc ⟨e, f8, v8, H⟩ => ?_
        subst e
        by_cases hf : p.f_Book.length + (lineBytes (takeLine r)).length ≤ 12000
        rotate_left
        · rw [if_neg hf] at H
          refine ve hf ?_
          refine x_lda H st37 ?_
          refine vs ?_
          refine x_call (clonePost_ok _ _ p (H.rd h9) hs) fun _ wd R => ?_
          unfold PostR at R
          obtain ⟨ra0, rf0, ra2, rf2, rfl, S⟩ := R
          have H := H.join S
          simp only [List.cons_append, List.nil_append] at H
          have ro0 := one1 (fp := rf0) (x := p.f_Queue) H (.head _)
          obtain ⟨rB, rd, rfl, _⟩ := sl_open (H.own (fp := rf2) (x := p.f_Book) (.tail _ (.head _)))
          refine vs ?_
          refine x_build bl51 [.string ⟨#[]⟩, .int .i64 0, .int .i64 0, .slice none 0 0] ?_
          refine vs ?_
          refine x_sta H st37 (vs := [ra0, .int .i64 p.f_Time, .slice rB p.f_Book.length rd, .int .i64 p.f_Sure]) (h1 := one4 ro0 rfl) fun wz H => vs ?_
          have H := H.nothing (kItem_zero wz)
          refine x_sta H st51 (vs := [.string ⟨#[]⟩, .int .i64 0, .int .i64 0, .slice none 0 0]) (h1 := Kd.one _ (H.own (.head _))) fun wy H => vs ?_
          have H := H.front (c := Ck.own kItem [] [.string ⟨#[]⟩, .int .i64 0, .int .i64 0, .slice none 0 0] zItem)
          have H := H.front (c := Ck.own (bytes 5) rf2 [.slice rB p.f_Book.length rd] p.f_Book)
          have H := H.front (c := Ck.own items rf0 [ra0] p.f_Queue)
          obtain ⟨fz, H⟩ := ownPost p H h1 h3
          rw [fetch_full hok hro htk hf]
          exact ⟨_, _, rfl, res_cell H st37, _, _, rfl, res_cell H st51, _, _, _, _, rfl, H.two .here .here⟩
        rw [if_pos hf] at H
        refine ve (show (p.f_Book.length + (lineBytes (takeLine r)).length ≤ 12000) = True from eq_true hf) ?_
        have o8 := one1 H (.head _)
        refine x_st H sc35 (h1 := oq) fun wf H => vs ?_
        have oi := Kd.one _ (H.own (fp := fi) (x := (takeQ p.f_Queue r).1) (by repeat (first | exact List.mem_cons_self | apply List.mem_cons_of_mem)))
        have ne1 : g4 ≠ g2 := H.boxne (cs := [vq, .int .i64 p.f_Time, v8, .int .i64 p.f_Sure]) (cs' := [.slice none 0 0, .int .i64 0, .slice none 0 0, .int .i64 0]) (t := 37) (t' := 37)
        have ne2 : g4 ≠ g8 := H.boxne (cs := [vq, .int .i64 p.f_Time, v8, .int .i64 p.f_Sure]) (cs' := [.string ⟨#[]⟩, .int .i64 0, .int .i64 0, .slice none 0 0]) (t := 37) (t' := 51)
        have ne3 : g6 ≠ g2 := H.boxne (cs := [.string ⟨(takeQ p.f_Queue r).1.f_Route.toArray⟩, .int .i64 (takeQ p.f_Queue r).1.f_Topic, .int .i64 (takeQ p.f_Queue r).1.f_Due, u5]) (cs' := [.slice none 0 0, .int .i64 0, .slice none 0 0, .int .i64 0]) (t := 51) (t' := 37)
        have ne4 : g6 ≠ g8 := H.boxne (cs := [.string ⟨(takeQ p.f_Queue r).1.f_Route.toArray⟩, .int .i64 (takeQ p.f_Queue r).1.f_Topic, .int .i64 (takeQ p.f_Queue r).1.f_Due, u5]) (cs' := [.string ⟨#[]⟩, .int .i64 0, .int .i64 0, .slice none 0 0]) (t := 51) (t' := 51)
        refine draw_of [(0, true), (1, true), (2, false), (3, false), (4, true)] wf.heap.size [(g2, 0), (g8, 0)] fun wj hh hbj => vs ?_
        have H := H.go (hbj _)
        have hwj : wj.heap.size = wf.heap.size := by rw [hh]
        rw [← hwj]
        have qa : ∀ k, (g4, k) ∉ [(g2, 0), (g8, 0)] := fun k hk => by simp only [List.mem_cons, List.not_mem_nil, or_false, Prod.mk.injEq] at hk; omega
        have qb : ∀ k, (g6, k) ∉ [(g2, 0), (g8, 0)] := fun k hk => by simp only [List.mem_cons, List.not_mem_nil, or_false, Prod.mk.injEq] at hk; omega
        have z0 : ∀ g t, (g, t) ∈ [(g2, 0), (g8, 0)] → t = 0 := fun g t ht => by simp only [List.mem_cons, List.not_mem_nil, or_false, Prod.mk.injEq] at ht; omega
        refine q_ldaG H st37 qa (cs := [vq, .int .i64 p.f_Time, v8, .int .i64 p.f_Sure]) ?_
        refine vs ?_
        refine q_ldaG H st51 qb (cs := [.string ⟨(takeQ p.f_Queue r).1.f_Route.toArray⟩, .int .i64 (takeQ p.f_Queue r).1.f_Topic, .int .i64 (takeQ p.f_Queue r).1.f_Due, u5]) ?_
        refine vs ?_
        refine x_staD H st37 (vs := [vq, .int .i64 p.f_Time, v8, .int .i64 p.f_Sure]) (fun wk H hc1 => vs ?_) (h1 := one4 oq o8)
        have k1 := kept_chg (G := [(g2, 0), (g8, 0)]) (Kept.refl wj.heap.size _ wj) hc1 (fun b hb => by simp only [List.mem_singleton] at hb; subst hb; exact .head _) (Nat.le_refl _) z0
        refine ⟨k1, ?_⟩
        refine x_staD H st51 (vs := [.string ⟨(takeQ p.f_Queue r).1.f_Route.toArray⟩, .int .i64 (takeQ p.f_Queue r).1.f_Topic, .int .i64 (takeQ p.f_Queue r).1.f_Due, u5]) (fun wl H hc2 => vs ?_) (h1 := oi)
        refine ⟨kept_chg k1 hc2 (fun b hb => by simp only [List.mem_singleton] at hb; subst hb; exact .tail _ (.head _)) hc1.size z0, ?_⟩
        have H := H.front (c := Ck.own kItem fi [.string ⟨(takeQ p.f_Queue r).1.f_Route.toArray⟩, .int .i64 (takeQ p.f_Queue r).1.f_Topic, .int .i64 (takeQ p.f_Queue r).1.f_Due, u5] (takeQ p.f_Queue r).1)
        have H := H.front (c := Ck.own (bytes 5) f8 [v8] (p.f_Book ++ lineBytes (takeLine r)))
        have H := H.front (c := Ck.own items fq [vq] (takeQ p.f_Queue r).2.1)
        obtain ⟨fz, H⟩ := ownPost (⟨(takeQ p.f_Queue r).2.1, p.f_Time, p.f_Book ++ lineBytes (takeLine r), p.f_Sure⟩ : MPost) H h1 h3
        rw [fetch_done hok hro htk hf]
        exact ⟨_, _, rfl, res_cell H st37, _, _, rfl, res_cell H st51, _, _, _, _, rfl, H.two .here .here⟩
theorem specFetch_ok (w : World) (cs : List Value) (p : MPost) (r : List UInt8) (h : kPost.rd w w.heap.size cs p) (hs : smPost p) (hrl : r.length ≤ 1048576) :
    ACalls Try.prog 34 #[.agg cs.toArray, .string ⟨r.toArray⟩] w fun z w' => ∃ cs' fp ds' fi, z = .tuple #[.agg cs'.toArray, .agg ds'.toArray, .int .i64 (fetchP p r).2.2] ∧ Sep w.heap.size w w' [Ck.own kPost fp cs' (fetchP p r).1, Ck.own kItem fi ds' (fetchP p r).2.1] := by
  have hs' := hs
  unfold smPost at hs'
  have h9 := h
  obtain ⟨v0, v2, rfl, h0, h1, h2, h3⟩ := kPost_open h
  obtain ⟨A2, c2, rfl, _⟩ := sl_open h2
  have H := Sep.start w
  refine body_of follows Try.func34 rfl rfl _ rfl (by kernel_rfl) (vs ?_)
  refine x_bx H [v0, .int .i64 p.f_Time, .slice A2 p.f_Book.length c2, .int .i64 p.f_Sure] fun g1 w1 H => vs ?_
  refine x_al H st37 fun g2 w2 H => vs ?_
  refine x_al H st51 fun g8 w9 H => vs ?_
  refine x_lda H st37 ?_
  refine vs ?_
  refine x_call (l15Copy_ok _ _ p (H.rd h9) hs) fun _ w3 R => ?_
  unfold PostR at R
  obtain ⟨pa0, pf0, pa2, pf2, rfl, S⟩ := R
  have H := H.join S
  simp only [List.cons_append, List.nil_append] at H
  have po0 := one1 (fp := pf0) (x := p.f_Queue) H (.head _)
  obtain ⟨pB, pd, rfl, _⟩ := sl_open (H.own (fp := pf2) (x := p.f_Book) (.tail _ (.head _)))
  refine vs ?_
  refine x_al H st37 fun g4 w4 H => vs ?_
  refine x_sta H st37 (vs := [pa0, .int .i64 p.f_Time, .slice pB p.f_Book.length pd, .int .i64 p.f_Sure]) (h1 := one4 po0 rfl) fun w4 H => vs ?_
  refine x_lda H st37 ?_
  refine vs ?_
  refine x_callb H (specPostOk_ok _ _ p (H.rd h9) hs) fun w6 H => ?_
  cases hok : postOk p with
  | false =>
    refine vs ?_
    refine x_lda H st37 ?_
    refine vs ?_
    refine x_build bl51 [.string ⟨#[]⟩, .int .i64 0, .int .i64 0, .slice none 0 0] ?_
    refine vs ?_
    refine x_sta H st37 (vs := [pa0, .int .i64 p.f_Time, .slice pB p.f_Book.length pd, .int .i64 p.f_Sure]) (h1 := one4 po0 rfl) fun wz H => vs ?_
    have H := H.nothing (kItem_zero wz)
    refine x_sta H st51 (vs := [.string ⟨#[]⟩, .int .i64 0, .int .i64 0, .slice none 0 0]) (h1 := Kd.one _ (H.own (.head _))) fun wy H => vs ?_
    have H := H.front (c := Ck.own kItem [] [.string ⟨#[]⟩, .int .i64 0, .int .i64 0, .slice none 0 0] zItem)
    have H := H.front (c := Ck.own (bytes 5) pf2 [.slice pB p.f_Book.length pd] p.f_Book)
    have H := H.front (c := Ck.own items pf0 [pa0] p.f_Queue)
    obtain ⟨fz, H⟩ := ownPost p H h1 h3
    rw [fetch_bad (fun hh => by have := hh.1; rw [hok] at this; cases this)]
    exact ⟨_, _, rfl, res_cell H st37, _, _, rfl, res_cell H st51, _, _, _, _, rfl, H.two .here .here⟩
  | true =>
    refine vs ?_
    refine x_callb H (specIsRoute_ok w6 r (by omega)) fun w7 H => ?_
    cases hro : isRoute r with
    | false =>
      refine vs ?_
      refine x_lda H st37 ?_
      refine vs ?_
      refine x_build bl51 [.string ⟨#[]⟩, .int .i64 0, .int .i64 0, .slice none 0 0] ?_
      refine vs ?_
      refine x_sta H st37 (vs := [pa0, .int .i64 p.f_Time, .slice pB p.f_Book.length pd, .int .i64 p.f_Sure]) (h1 := one4 po0 rfl) fun wz H => vs ?_
      have H := H.nothing (kItem_zero wz)
      refine x_sta H st51 (vs := [.string ⟨#[]⟩, .int .i64 0, .int .i64 0, .slice none 0 0]) (h1 := Kd.one _ (H.own (.head _))) fun wy H => vs ?_
      have H := H.front (c := Ck.own kItem [] [.string ⟨#[]⟩, .int .i64 0, .int .i64 0, .slice none 0 0] zItem)
      have H := H.front (c := Ck.own (bytes 5) pf2 [.slice pB p.f_Book.length pd] p.f_Book)
      have H := H.front (c := Ck.own items pf0 [pa0] p.f_Queue)
      obtain ⟨fz, H⟩ := ownPost p H h1 h3
      rw [fetch_bad (fun hh => by have := hh.2; rw [hro] at this; cases this)]
      exact ⟨_, _, rfl, res_cell H st37, _, _, rfl, res_cell H st51, _, _, _, _, rfl, H.two .here .here⟩
    | true =>
      have hll := lineBytes_le (takeLine r)
      refine vs ?_
      refine x_ld H sc35 ?_
      refine vs ?_
      refine x_call (specTake_ok _ v0 _ r (H.rd h0) hs'.1) fun _ w8 ⟨ds, fi, vq, fq, e, S⟩ => ?_
      subst e
      have H := H.join S
      simp only [List.cons_append, List.nil_append] at H
      have oq := one1 (fp := fq) (x := (takeQ p.f_Queue r).2.1) H (.head _)
      have oi0 := Kd.one _ (H.own (fp := fi) (x := (takeQ p.f_Queue r).1) (.tail _ (.head _)))
      obtain ⟨u5, e5, _⟩ := kItem_open (H.own (fp := fi) (x := (takeQ p.f_Queue r).1) (.tail _ (.head _)))
      subst e5
      refine vs ?_
      refine x_al H st51 fun g6 wa H => vs ?_
      refine x_sta H st51 (h1 := oi0) fun wb H => ?_
      cases htk : (takeQ p.f_Queue r).2.2 with
      | false =>
        refine vs ?_
        refine x_lda H st37 ?_
        refine vs ?_
        refine x_build bl51 [.string ⟨#[]⟩, .int .i64 0, .int .i64 0, .slice none 0 0] ?_
        refine vs ?_
        refine x_sta H st37 (vs := [pa0, .int .i64 p.f_Time, .slice pB p.f_Book.length pd, .int .i64 p.f_Sure]) (h1 := one4 po0 rfl) fun wz H => vs ?_
        have H := H.nothing (kItem_zero wz)
        refine x_sta H st51 (vs := [.string ⟨#[]⟩, .int .i64 0, .int .i64 0, .slice none 0 0]) (h1 := Kd.one _ (H.own (.head _))) fun wy H => vs ?_
        have H := H.front (c := Ck.own kItem [] [.string ⟨#[]⟩, .int .i64 0, .int .i64 0, .slice none 0 0] zItem)
        have H := H.front (c := Ck.own (bytes 5) pf2 [.slice pB p.f_Book.length pd] p.f_Book)
        have H := H.front (c := Ck.own items pf0 [pa0] p.f_Queue)
        obtain ⟨fz, H⟩ := ownPost p H h1 h3
        rw [fetch_none hok hro htk]
        exact ⟨_, _, rfl, res_cell H st37, _, _, rfl, res_cell H st51, _, _, _, _, rfl, H.two .here .here⟩
      | true =>
        refine vs ?_
        refine x_lda H st37 ?_
        refine vs ?_
        refine x_call (l15Copy_ok _ _ p (H.rd h9) hs) fun _ wc R => ?_
        unfold PostR at R
        obtain ⟨ra0, rf0, ra2, rf2, rfl, S⟩ := R
        have H := H.join S
        simp only [List.cons_append, List.nil_append] at H
        have ro0 := one1 (fp := rf0) (x := p.f_Queue) H (.head _)
        refine vs ?_
        refine x_build bl60 [.int .i64 2, .string ⟨r.toArray⟩, .int .i64 0, .int .i64 0, .slice none 0 0] ?_
        refine vs ?_
        refine x_call (l15Noted_ok p.f_Time p.f_Sure [.int .i64 2, .string ⟨r.toArray⟩, .int .i64 0, .int .i64 0, .slice none 0 0] (takeLine r) H (takeLine_rd _ _ (by omega)) hrl (by show ([] : List UInt8).length ≤ 1048576; decide) hs'.2) fun _ wd ⟨f8, v8, e, H⟩ => ?_
        subst e
        rw [takeLine_ok hro, Bool.true_and]
        have o8 := one1 (fp := f8) (x := p.f_Book ++ lineBytes (takeLine r)) H (.tail _ (.head _))
        refine vs ?_
        refine x_al H st37 fun g7 we H => vs ?_
        refine x_sta H st37 (vs := [ra0, .int .i64 p.f_Time, v8, .int .i64 p.f_Sure]) (h1 := one4 ro0 o8) fun wf H => vs ?_
        by_cases hf : p.f_Book.length + (lineBytes (takeLine r)).length ≤ 12000
        rotate_left
        · refine ve hf ?_
          refine x_lda H st37 ?_
          refine vs ?_
          refine x_build bl51 [.string ⟨#[]⟩, .int .i64 0, .int .i64 0, .slice none 0 0] ?_
          refine vs ?_
          refine x_sta H st37 (vs := [pa0, .int .i64 p.f_Time, .slice pB p.f_Book.length pd, .int .i64 p.f_Sure]) (h1 := one4 po0 rfl) fun wz H => vs ?_
          have H := H.nothing (kItem_zero wz)
          refine x_sta H st51 (vs := [.string ⟨#[]⟩, .int .i64 0, .int .i64 0, .slice none 0 0]) (h1 := Kd.one _ (H.own (.head _))) fun wy H => vs ?_
          have H := H.front (c := Ck.own kItem [] [.string ⟨#[]⟩, .int .i64 0, .int .i64 0, .slice none 0 0] zItem)
          have H := H.front (c := Ck.own (bytes 5) pf2 [.slice pB p.f_Book.length pd] p.f_Book)
          have H := H.front (c := Ck.own items pf0 [pa0] p.f_Queue)
          obtain ⟨fz, H⟩ := ownPost p H h1 h3
          rw [fetch_full hok hro htk hf]
          exact ⟨_, _, rfl, res_cell H st37, _, _, rfl, res_cell H st51, _, _, _, _, rfl, H.two .here .here⟩
        refine ve (show (p.f_Book.length + (lineBytes (takeLine r)).length ≤ 12000) = True from eq_true hf) ?_
        refine x_st H sc35 (h1 := oq) fun wg H => vs ?_
        have oi := Kd.one _ (H.own (fp := fi) (x := (takeQ p.f_Queue r).1) (by repeat (first | exact List.mem_cons_self | apply List.mem_cons_of_mem)))
        have ne1 : g7 ≠ g2 := H.boxne (cs := [vq, .int .i64 p.f_Time, v8, .int .i64 p.f_Sure]) (cs' := [.slice none 0 0, .int .i64 0, .slice none 0 0, .int .i64 0]) (t := 37) (t' := 37)
        have ne2 : g7 ≠ g8 := H.boxne (cs := [vq, .int .i64 p.f_Time, v8, .int .i64 p.f_Sure]) (cs' := [.string ⟨#[]⟩, .int .i64 0, .int .i64 0, .slice none 0 0]) (t := 37) (t' := 51)
        have ne3 : g6 ≠ g2 := H.boxne (cs := [.string ⟨(takeQ p.f_Queue r).1.f_Route.toArray⟩, .int .i64 (takeQ p.f_Queue r).1.f_Topic, .int .i64 (takeQ p.f_Queue r).1.f_Due, u5]) (cs' := [.slice none 0 0, .int .i64 0, .slice none 0 0, .int .i64 0]) (t := 51) (t' := 37)
        have ne4 : g6 ≠ g8 := H.boxne (cs := [.string ⟨(takeQ p.f_Queue r).1.f_Route.toArray⟩, .int .i64 (takeQ p.f_Queue r).1.f_Topic, .int .i64 (takeQ p.f_Queue r).1.f_Due, u5]) (cs' := [.string ⟨#[]⟩, .int .i64 0, .int .i64 0, .slice none 0 0]) (t := 51) (t' := 51)
        refine draw_of [(0, true), (1, true), (2, false), (3, false), (4, true)] wg.heap.size [(g2, 0), (g8, 0)] fun wj hh hbj => vs ?_
        have H := H.go (hbj _)
        have hwj : wj.heap.size = wg.heap.size := by rw [hh]
        rw [← hwj]
        have qa : ∀ k, (g7, k) ∉ [(g2, 0), (g8, 0)] := fun k hk => by simp only [List.mem_cons, List.not_mem_nil, or_false, Prod.mk.injEq] at hk; omega
        have qb : ∀ k, (g6, k) ∉ [(g2, 0), (g8, 0)] := fun k hk => by simp only [List.mem_cons, List.not_mem_nil, or_false, Prod.mk.injEq] at hk; omega
        have z0 : ∀ g t, (g, t) ∈ [(g2, 0), (g8, 0)] → t = 0 := fun g t ht => by simp only [List.mem_cons, List.not_mem_nil, or_false, Prod.mk.injEq] at ht; omega
        refine q_ldaG H st37 qa (cs := [vq, .int .i64 p.f_Time, v8, .int .i64 p.f_Sure]) ?_
        refine vs ?_
        refine q_ldaG H st51 qb (cs := [.string ⟨(takeQ p.f_Queue r).1.f_Route.toArray⟩, .int .i64 (takeQ p.f_Queue r).1.f_Topic, .int .i64 (takeQ p.f_Queue r).1.f_Due, u5]) ?_
        refine vs ?_
        refine x_staD H st37 (vs := [vq, .int .i64 p.f_Time, v8, .int .i64 p.f_Sure]) (fun wk H hc1 => vs ?_) (h1 := one4 oq o8)
        have k1 := kept_chg (G := [(g2, 0), (g8, 0)]) (Kept.refl wj.heap.size _ wj) hc1 (fun b hb => by simp only [List.mem_singleton] at hb; subst hb; exact .head _) (Nat.le_refl _) z0
        refine ⟨k1, ?_⟩
        refine x_staD H st51 (vs := [.string ⟨(takeQ p.f_Queue r).1.f_Route.toArray⟩, .int .i64 (takeQ p.f_Queue r).1.f_Topic, .int .i64 (takeQ p.f_Queue r).1.f_Due, u5]) (fun wl H hc2 => vs ?_) (h1 := oi)
        refine ⟨kept_chg k1 hc2 (fun b hb => by simp only [List.mem_singleton] at hb; subst hb; exact .tail _ (.head _)) hc1.size z0, ?_⟩
        have H := H.front (c := Ck.own kItem fi [.string ⟨(takeQ p.f_Queue r).1.f_Route.toArray⟩, .int .i64 (takeQ p.f_Queue r).1.f_Topic, .int .i64 (takeQ p.f_Queue r).1.f_Due, u5] (takeQ p.f_Queue r).1)
        have H := H.front (c := Ck.own (bytes 5) f8 [v8] (p.f_Book ++ lineBytes (takeLine r)))
        have H := H.front (c := Ck.own items fq [vq] (takeQ p.f_Queue r).2.1)
        obtain ⟨fz, H⟩ := ownPost (⟨(takeQ p.f_Queue r).2.1, p.f_Time, p.f_Book ++ lineBytes (takeLine r), p.f_Sure⟩ : MPost) H h1 h3
        rw [fetch_done hok hro htk hf]
        exact ⟨_, _, rfl, res_cell H st37, _, _, rfl, res_cell H st51, _, _, _, _, rfl, H.two .here .here⟩
end Go.Proofs.Ytdljbekkckfmnaa.V
