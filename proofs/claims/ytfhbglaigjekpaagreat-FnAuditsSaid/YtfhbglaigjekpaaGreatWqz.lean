/- What a post answers of its book: both sides. Laid by a program. -/
import Derived.Test.YtfhbglaigjekpaaGreatWsn
import Derived.Test.YtfhbglaigjekpaaGreatZn
namespace Go.Proofs.YtfhbglaigjekpaaGreat.V
open Go Go.RowKit
set_option maxRecDepth 100000
set_option maxHeartbeats 4000000
set_option linter.unusedSimpArgs false
set_option linter.unusedVariables false
set_option pp.deepTerms false
set_option pp.deepTerms.threshold 3

theorem qx_ext0 {P : Program} {m : Nat} {w : World} {KQ : Value → Prop} {G : List (Nat × Nat)} {tq : Tg (m, G, w, KQ)} {v0 v1 : Value} (h : KQ v0) : QS P m G w KQ tq (Instr.extract (.tuple #[v0, v1]) 0) :=
  QS_of (fun w _ => by simp [Instr.extract]) h
theorem qx_ext1 {P : Program} {m : Nat} {w : World} {KQ : Value → Prop} {G : List (Nat × Nat)} {tq : Tg (m, G, w, KQ)} {v0 v1 : Value} (h : KQ v1) : QS P m G w KQ tq (Instr.extract (.tuple #[v0, v1]) 1) :=
  QS_of (fun w _ => by simp [Instr.extract]) h
theorem linesOf_few (b : List UInt8) : Few (linesOf b) := by
  have := linesGo_len 40 b
  exact fun a ha => by have := this.2 a ha; omega
theorem linesOf_40 (b : List UInt8) : (linesOf b).length ≤ 40 := (linesGo_len 40 b).1
noncomputable def postRoot (p : MPost) : List UInt8 := if postOk p = true then rootOf (linesOf p.f_Book) else []
theorem postRoot_bad {p : MPost} (h : postOk p = false) : postRoot p = [] := by unfold postRoot; rw [if_neg (by rw [h]; decide)]
theorem postRoot_ok {p : MPost} (h : postOk p = true) : postRoot p = rootOf (linesOf p.f_Book) := by unfold postRoot; rw [if_pos h]
noncomputable def postProof (p : MPost) (i : Int) : List (List UInt8) × List UInt8 × Bool := if postOk p = true ∧ (0 ≤ i ∧ i ≤ ((linesOf p.f_Book).length : Int) - 1) then (pathOf (linesOf p.f_Book) i, (linesOf p.f_Book).getD i.toNat [], true) else ([], [], false)
theorem postProof_bad {p : MPost} {i : Int} (h : ¬ (postOk p = true ∧ (0 ≤ i ∧ i ≤ ((linesOf p.f_Book).length : Int) - 1))) : postProof p i = ([], [], false) := by unfold postProof; rw [if_neg h]
theorem postProof_ok {p : MPost} {i : Int} (h : postOk p = true) (h2 : 0 ≤ i ∧ i ≤ ((linesOf p.f_Book).length : Int) - 1) : postProof p i = (pathOf (linesOf p.f_Book) i, (linesOf p.f_Book).getD i.toNat [], true) := by unfold postProof; rw [if_pos ⟨h, h2⟩]
theorem postProof_sm (p : MPost) (i : Int) : ((postProof p i).1.length ≤ 1048576 ∧ ∀ y ∈ (postProof p i).1, y.length ≤ 1048576) ∧ (postProof p i).2.1.length ≤ 1048576 := by
  unfold postProof
  split
  · have h1 := pathOf_len _ (linesOf p.f_Book) i (Nat.le_refl _)
    have h2 := linesOf_sm p.f_Book
    refine ⟨⟨by have := h1.1; have := h2.1; dsimp only; omega, fun y hy => by have := h1.2 y hy; omega⟩, ?_⟩
    dsimp only
    rw [List.getD_eq_getElem?_getD]
    by_cases h : i.toNat < (linesOf p.f_Book).length
    · rw [List.getElem?_eq_getElem h, Option.getD_some]; exact h2.2 _ (List.getElem_mem h)
    · rw [List.getElem?_eq_none (by omega), Option.getD_none]; simp
  · simp
theorem implPostRoot_ok (w : World) (cs : List Value) (p : MPost) (h : kPost.rd w w.heap.size cs p) (hs : smPost p) :
    ACalls Tryz.prog 44 #[.agg cs.toArray] w fun r w' => ∃ fp, Sep w.heap.size w w' [Ck.own (bytes 5) fp [r] (postRoot p)] := by
  have hs' := hs
  unfold smPost at hs'
  have h9 := h
  obtain ⟨v0, v2, rfl, h0, h1, h2, h3⟩ := kPost_open h
  obtain ⟨A2, c2, rfl, _⟩ := sl_open h2
  have H := Sep.start w
  refine body_of follows Tryz.func44 rfl rfl _ rfl (by kernel_rfl) (vs ?_)
  refine x_bx H [v0, .int .i64 p.f_Time, .slice A2 p.f_Book.length c2, .int .i64 p.f_Sure] fun g1 w1 H => vs ?_
  refine x_lda H st37 ?_
  refine vs ?_
  refine x_callb H (implPostOk_ok _ _ p (H.rd h9) hs) fun w2 H => ?_
  cases hok : postOk p with
  | false =>
    have et := postRoot_bad hok
    refine vs ?_
    rw [et]
    exact ⟨_, (H.nothing (sl_zero w2)).head⟩
  | true =>
    have et := postRoot_ok hok
    refine vs ?_
    refine x_ld H sc22 ?_
    refine vs ?_
    refine x_callf H (implLinesOf_ok w2 _ p.f_Book (H.rd h2) hs'.2) fun r3 f3 w3 H => vs ?_
    refine x_callf H (implRootOf_ok w3 _ _ (H.own (.head _)) (linesOf_few _)) fun r4 f4 w4 H => vs ?_
    rw [et]
    exact ⟨_, H.head⟩
theorem specPostRoot_ok (w : World) (cs : List Value) (p : MPost) (h : kPost.rd w w.heap.size cs p) (hs : smPost p) :
    ACalls Tryz.prog 45 #[.agg cs.toArray] w fun r w' => ∃ fp, Sep w.heap.size w w' [Ck.own (bytes 5) fp [r] (postRoot p)] := by
  have hs' := hs
  unfold smPost at hs'
  have h9 := h
  obtain ⟨v0, v2, rfl, h0, h1, h2, h3⟩ := kPost_open h
  obtain ⟨A2, c2, rfl, _⟩ := sl_open h2
  have H := Sep.start w
  refine body_of follows Tryz.func45 rfl rfl _ rfl (by kernel_rfl) (vs ?_)
  refine x_bx H [v0, .int .i64 p.f_Time, .slice A2 p.f_Book.length c2, .int .i64 p.f_Sure] fun g1 w1 H => vs ?_
  refine x_lda H st37 ?_
  refine vs ?_
  refine x_callb H (specPostOk_ok _ _ p (H.rd h9) hs) fun w2 H => ?_
  cases hok : postOk p with
  | false =>
    have et := postRoot_bad hok
    refine vs ?_
    refine x_emp H pl_u8 sl22 fun gb wb H => vs ?_
    rw [et]
    exact ⟨_, H.head⟩
  | true =>
    have et := postRoot_ok hok
    refine vs ?_
    refine x_ld H sc22 ?_
    refine vs ?_
    refine x_callf H (specLinesOf_ok w2 _ p.f_Book (H.rd h2) hs'.2) fun r3 f3 w3 H => vs ?_
    refine x_callf H (specRootOf_ok w3 _ _ (H.own (.head _)) (linesOf_few _)) fun r4 f4 w4 H => vs ?_
    rw [et]
    exact ⟨_, H.head⟩
abbrev LL : Kd (List (List UInt8)) := Kd.slice 22 (bytes 5)
theorem implPostProof_ok (w : World) (cs : List Value) (p : MPost) (i : Int) (h : kPost.rd w w.heap.size cs p) (hs : smPost p) (hi : -9223372036854775808 ≤ i ∧ i < 9223372036854775808) :
    ACalls Tryz.prog 36 #[.agg cs.toArray, .int .i64 i] w fun r w' => ∃ v1 f1 v2 f2, r = .tuple #[v1, v2, .bool (postProof p i).2.2] ∧ Sep w.heap.size w w' [Ck.own LL f1 [v1] (postProof p i).1, Ck.own (bytes 5) f2 [v2] (postProof p i).2.1] := by
  have hs' := hs
  unfold smPost at hs'
  have h9 := h
  obtain ⟨v0, v2, rfl, h0, h1, h2, h3⟩ := kPost_open h
  obtain ⟨A2, c2, rfl, _⟩ := sl_open h2
  have H := Sep.start w
  refine body_of follows Tryz.func36 rfl rfl _ rfl (by kernel_rfl) (vs ?_)
  refine x_bx H [v0, .int .i64 p.f_Time, .slice A2 p.f_Book.length c2, .int .i64 p.f_Sure] fun g1 w1 H => vs ?_
  refine x_ld H sc22 ?_
  refine vs ?_
  refine x_callf H (implLinesOf_ok w1 _ p.f_Book (H.rd h2) hs'.2) fun r3 f3 w3 H => ?_
  obtain ⟨B3, d3, rfl, _⟩ := sl_open (H.own (fp := f3) (x := linesOf p.f_Book) (.head _))
  have hfw := linesOf_few p.f_Book
  refine vs ?_
  refine x_lda H st37 ?_
  refine vs ?_
  refine x_callb H (implPostOk_ok _ _ p (H.rd h9) hs) fun w4 H => ?_
  cases hok : postOk p with
  | false =>
    have et := postProof_bad (p := p) (i := i) (fun hh => by have := hh.1; rw [hok] at this; cases this)
    refine vs ?_
    have H := H.nothing (sl_zero (e := 5) (d := Kd.u8) _)
    have H := H.nothing (sl_zero (e := 22) (d := bytes 5) _)
    rw [et]
    exact ⟨_, _, _, _, rfl, H.left (L := [_, _])⟩
  | true =>
    refine ve (show w64 (((linesOf p.f_Book).length : Int) - 1) = ((linesOf p.f_Book).length : Int) - 1 by unfold w64; have := linesOf_40 p.f_Book; omega) ?_
    refine x_callw (in_ok _ _ _ _) ?_
    by_cases hr : 0 ≤ i ∧ i ≤ ((linesOf p.f_Book).length : Int) - 1
    rotate_left
    · have et := postProof_bad (p := p) (i := i) (fun hh => hr hh.2)
      refine ve hr ?_
      have H := H.nothing (sl_zero (e := 5) (d := Kd.u8) _)
      have H := H.nothing (sl_zero (e := 22) (d := bytes 5) _)
      rw [et]
      exact ⟨_, _, _, _, rfl, H.left (L := [_, _])⟩
    have et := postProof_ok hok hr
    obtain ⟨k, rfl⟩ := Int.eq_ofNat_of_zero_le hr.1
    have hk : k < (linesOf p.f_Book).length := by omega
    refine ve hr ?_
    have hl := H.own (fp := f3) (x := linesOf p.f_Book) (by repeat (first | exact List.mem_cons_self | apply List.mem_cons_of_mem))
    have H := H.front (c := Ck.own LL f3 [.slice B3 (linesOf p.f_Book).length d3] (linesOf p.f_Book))
    obtain ⟨g5, c5, pre, post, fpi, es, R5, hv, hpl, H, hes, _⟩ := H.openEl k hk
    obtain ⟨rfl, rfl⟩ : B3 = some ⟨g5, 0, none⟩ ∧ d3 = c5 := by simpa using hv
    have hes1 : es.length = 1 := hes
    obtain ⟨ve5, rfl⟩ : ∃ v, es = [v] := by
      cases es with
      | nil => simp at hes1
      | cons a t => cases t with
        | nil => exact ⟨a, rfl⟩
        | cons b t => simp at hes1
    have hpl : pre.length = k := by rw [hpl]; exact Nat.mul_one k
    have hce : (pre ++ [ve5] ++ post)[k]? = some ve5 := by rw [← hpl]; simp
    have hgd : (linesOf p.f_Book).getD ((k : Int)).toNat [] = (linesOf p.f_Book)[k] := by rw [Int.toNat_natCast, List.getD_eq_getElem?_getD, List.getElem?_eq_getElem hk, Option.getD_some]
    have ea : (adA (some ⟨g5, 0, none⟩)).add (((k : Int)).toNat * 1) = ⟨g5, k, none⟩ := by simp [adA, Addr.add]; exact fun e => e.symm
    refine draw_of [(0, true), (1, true), (3, true), (4, true), (5, true), (6, true), (2, false), (7, true), (8, true), (9, true)] w4.heap.size [] fun w5 hh hb5 => vs ?_
    have J := (Sep.start w4).go (hb5 _)
    have J3 := J
    refine qx_index sl26 rfl (by omega) (by omega) ?_
    refine ve ea ?_
    refine q_ldB H J3 sc22 (cs := pre ++ [ve5] ++ post) (hv := hce) ?_
    refine vs ?_
    refine x_callf J (implPathOf_ok w5 _ _ (k : Int) (J.rd hl) hfw) fun r6 f6 w6 J => vs ?_
    refine ⟨kept_base J3 J, ?_⟩
    have H := H.join J
    simp only [List.cons_append, List.nil_append] at H
    rw [et, hgd]
    exact ⟨_, _, _, _, rfl, H.two .here (.there .here)⟩
theorem specPostProof_ok (w : World) (cs : List Value) (p : MPost) (i : Int) (h : kPost.rd w w.heap.size cs p) (hs : smPost p) (hi : -9223372036854775808 ≤ i ∧ i < 9223372036854775808) :
    ACalls Tryz.prog 37 #[.agg cs.toArray, .int .i64 i] w fun r w' => ∃ v1 f1 v2 f2, r = .tuple #[v1, v2, .bool (postProof p i).2.2] ∧ Sep w.heap.size w w' [Ck.own LL f1 [v1] (postProof p i).1, Ck.own (bytes 5) f2 [v2] (postProof p i).2.1] := by
  have hs' := hs
  unfold smPost at hs'
  have h9 := h
  obtain ⟨v0, v2, rfl, h0, h1, h2, h3⟩ := kPost_open h
  obtain ⟨A2, c2, rfl, _⟩ := sl_open h2
  have H := Sep.start w
  refine body_of follows Tryz.func37 rfl rfl _ rfl (by kernel_rfl) (vs ?_)
  refine x_bx H [v0, .int .i64 p.f_Time, .slice A2 p.f_Book.length c2, .int .i64 p.f_Sure] fun g1 w1 H => vs ?_
  refine x_ld H sc22 ?_
  refine vs ?_
  refine x_callf H (specLinesOf_ok w1 _ p.f_Book (H.rd h2) hs'.2) fun r3 f3 w3 H => ?_
  obtain ⟨B3, d3, rfl, _⟩ := sl_open (H.own (fp := f3) (x := linesOf p.f_Book) (.head _))
  have hfw := linesOf_few p.f_Book
  refine vs ?_
  refine x_lda H st37 ?_
  refine vs ?_
  refine x_callb H (specPostOk_ok _ _ p (H.rd h9) hs) fun w4 H => ?_
  cases hok : postOk p with
  | false =>
    have et := postProof_bad (p := p) (i := i) (fun hh => by have := hh.1; rw [hok] at this; cases this)
    refine vs ?_
    refine x_empO (d := bytes 5) H sl26 fun ga wa H => vs ?_
    refine x_emp H pl_u8 sl22 fun gb wb H => vs ?_
    rw [et]
    exact ⟨_, _, _, _, rfl, H.two (.there .here) .here⟩
  | true =>
    refine ve (show w64 (((linesOf p.f_Book).length : Int) - 1) = ((linesOf p.f_Book).length : Int) - 1 by unfold w64; have := linesOf_40 p.f_Book; omega) ?_
    refine x_callw (l1In_ok _ _ _ _) ?_
    by_cases hr : 0 ≤ i ∧ i ≤ ((linesOf p.f_Book).length : Int) - 1
    rotate_left
    · have et := postProof_bad (p := p) (i := i) (fun hh => hr hh.2)
      refine ve hr ?_
      refine x_empO (d := bytes 5) H sl26 fun ga wa H => vs ?_
      refine x_emp H pl_u8 sl22 fun gb wb H => vs ?_
      rw [et]
      exact ⟨_, _, _, _, rfl, H.two (.there .here) .here⟩
    have et := postProof_ok hok hr
    obtain ⟨k, rfl⟩ := Int.eq_ofNat_of_zero_le hr.1
    have hk : k < (linesOf p.f_Book).length := by omega
    refine ve hr ?_
    have hl := H.own (fp := f3) (x := linesOf p.f_Book) (by repeat (first | exact List.mem_cons_self | apply List.mem_cons_of_mem))
    have H := H.front (c := Ck.own LL f3 [.slice B3 (linesOf p.f_Book).length d3] (linesOf p.f_Book))
    obtain ⟨g5, c5, pre, post, fpi, es, R5, hv, hpl, H, hes, _⟩ := H.openEl k hk
    obtain ⟨rfl, rfl⟩ : B3 = some ⟨g5, 0, none⟩ ∧ d3 = c5 := by simpa using hv
    have hes1 : es.length = 1 := hes
    obtain ⟨ve5, rfl⟩ : ∃ v, es = [v] := by
      cases es with
      | nil => simp at hes1
      | cons a t => cases t with
        | nil => exact ⟨a, rfl⟩
        | cons b t => simp at hes1
    have hpl : pre.length = k := by rw [hpl]; exact Nat.mul_one k
    have hce : (pre ++ [ve5] ++ post)[k]? = some ve5 := by rw [← hpl]; simp
    have hgd : (linesOf p.f_Book).getD ((k : Int)).toNat [] = (linesOf p.f_Book)[k] := by rw [Int.toNat_natCast, List.getD_eq_getElem?_getD, List.getElem?_eq_getElem hk, Option.getD_some]
    have ea : (adA (some ⟨g5, 0, none⟩)).add (((k : Int)).toNat * 1) = ⟨g5, k, none⟩ := by simp [adA, Addr.add]; exact fun e => e.symm
    refine draw_of [(0, true), (1, true), (3, true), (4, true), (5, true), (6, true), (2, false), (7, true), (8, true), (9, true)] w4.heap.size [] fun w5 hh hb5 => vs ?_
    have J := (Sep.start w4).go (hb5 _)
    have J3 := J
    refine qx_index sl26 rfl (by omega) (by omega) ?_
    refine ve ea ?_
    refine q_ldB H J3 sc22 (cs := pre ++ [ve5] ++ post) (hv := hce) ?_
    refine vs ?_
    refine x_callf J (specPathOf_ok w5 _ _ (k : Int) (J.rd hl) hfw) fun r6 f6 w6 J => vs ?_
    refine ⟨kept_base J3 J, ?_⟩
    have H := H.join J
    simp only [List.cons_append, List.nil_append] at H
    rw [et, hgd]
    exact ⟨_, _, _, _, rfl, H.two .here (.there .here)⟩
noncomputable def postGrew (p q : MPost) : List (List UInt8) × Bool := if postOk p = true ∧ postOk q = true ∧ (1 ≤ (linesOf p.f_Book).length ∧ (linesOf p.f_Book).length ≤ (linesOf q.f_Book).length) ∧ linesOf p.f_Book = (linesOf q.f_Book).take (linesOf p.f_Book).length then (grownOf (linesOf q.f_Book) ((linesOf p.f_Book).length : Int), true) else ([], false)
theorem postGrew_bad {p q : MPost} (h : ¬ (postOk p = true ∧ postOk q = true ∧ (1 ≤ (linesOf p.f_Book).length ∧ (linesOf p.f_Book).length ≤ (linesOf q.f_Book).length) ∧ linesOf p.f_Book = (linesOf q.f_Book).take (linesOf p.f_Book).length)) : postGrew p q = ([], false) := by unfold postGrew; rw [if_neg h]
theorem postGrew_ok {p q : MPost} (h : postOk p = true ∧ postOk q = true ∧ (1 ≤ (linesOf p.f_Book).length ∧ (linesOf p.f_Book).length ≤ (linesOf q.f_Book).length) ∧ linesOf p.f_Book = (linesOf q.f_Book).take (linesOf p.f_Book).length) : postGrew p q = (grownOf (linesOf q.f_Book) ((linesOf p.f_Book).length : Int), true) := by unfold postGrew; rw [if_pos h]
theorem postGrew_sm (p q : MPost) : (postGrew p q).1.length ≤ 1048576 ∧ ∀ y ∈ (postGrew p q).1, y.length ≤ 1048576 := by
  unfold postGrew
  split
  · have h1 := grownOf_len (linesOf q.f_Book) ((linesOf p.f_Book).length : Int)
    exact ⟨by have := h1.1; dsimp only; omega, fun y hy => by have := h1.2 y hy; omega⟩
  · simp
theorem take_step {a b : List (List UInt8)} {k : Nat} (ha : k < a.length) (hb : k < b.length) (h : a.take k = b.take k) (he : a[k] = b[k]) : a.take (k + 1) = b.take (k + 1) := by
  rw [List.take_add_one, List.take_add_one, h, List.getElem?_eq_getElem ha, List.getElem?_eq_getElem hb, he]
theorem take_ne {a b : List (List UInt8)} {k : Nat} (ha : k < a.length) (hb : k < b.length) (he : ¬ a[k] = b[k]) : ¬ a = b.take a.length := by
  intro h
  apply he
  have h2 : a[k]? = (b.take a.length)[k]? := by rw [← h]
  rw [List.getElem?_take_of_lt ha, List.getElem?_eq_getElem ha, List.getElem?_eq_getElem hb] at h2
  exact Option.some.inj h2
theorem implPostGrew_ok (w : World) (cs : List Value) (p : MPost) (ds : List Value) (q : MPost) (h : kPost.rd w w.heap.size cs p) (h' : kPost.rd w w.heap.size ds q) (hs : smPost p) (ht : smPost q) :
    ACalls Tryz.prog 39 #[.agg cs.toArray, .agg ds.toArray] w fun r w' => ∃ v1 f1, r = .tuple #[v1, .bool (postGrew p q).2] ∧ Sep w.heap.size w w' [Ck.own LL f1 [v1] (postGrew p q).1] := by
  have hs' := hs
  unfold smPost at hs'
  have h9 := h
  obtain ⟨v0, v2, rfl, h0, h1, h2, h3⟩ := kPost_open h
  obtain ⟨A2, c2, rfl, _⟩ := sl_open h2
  have H := Sep.start w
  have ht' := ht
  unfold smPost at ht'
  have h8 := h'
  obtain ⟨u0, u2, rfl, k0, k1, k2, k3⟩ := kPost_open h'
  obtain ⟨B2, e2, rfl, _⟩ := sl_open k2
  refine body_of follows Tryz.func39 rfl rfl _ rfl (by kernel_rfl) (vs ?_)
  refine x_bx H [v0, .int .i64 p.f_Time, .slice A2 p.f_Book.length c2, .int .i64 p.f_Sure] fun g1 w1 H => vs ?_
  refine x_bx H [u0, .int .i64 q.f_Time, .slice B2 q.f_Book.length e2, .int .i64 q.f_Sure] fun g2 w2 H => vs ?_
  refine draw_of [(0, true), (1, true), (3, true), (4, true), (2, false), (5, false), (6, true), (7, true)] w2.heap.size [] fun w3 hh hb3 => vs ?_
  have J := (Sep.start w2).go (hb3 _)
  have J3 := J
  refine q_ldB H J3 sc22 ?_
  refine vs ?_
  refine q_ldB H J3 sc22 ?_
  refine vs ?_
  refine x_callf J (implLinesOf_ok w3 _ p.f_Book (J.rd (H.rd h2)) hs'.2) fun r4 f4 w4 J => vs ?_
  refine ⟨kept_base J3 J, ?_⟩
  refine x_callf J (implLinesOf_ok w4 _ q.f_Book (J.rd (H.rd k2)) ht'.2) fun r5 f5 w5 J => vs ?_
  refine ⟨kept_base J3 J, ?_⟩
  have H := H.join J
  simp only [List.cons_append, List.nil_append] at H
  obtain ⟨Aa, ca, rfl, _⟩ := sl_open (H.own (fp := f4) (x := linesOf p.f_Book) (by repeat (first | exact List.mem_cons_self | apply List.mem_cons_of_mem)))
  obtain ⟨Ab, cb, rfl, _⟩ := sl_open (H.own (fp := f5) (x := linesOf q.f_Book) (by repeat (first | exact List.mem_cons_self | apply List.mem_cons_of_mem)))
  have l1 := linesOf_40 p.f_Book
  have l2 := linesOf_40 q.f_Book
  refine x_lda H st37 ?_
  refine vs ?_
  refine x_callb H (implPostOk_ok _ _ p (H.rd h9) hs) fun w6 H => ?_
  cases hok : postOk p with
  | false =>
    have et := postGrew_bad (p := p) (q := q) (fun hh => by have := hh.1; rw [hok] at this; cases this)
    refine vs ?_
    have H := H.nothing (sl_zero (e := 22) (d := bytes 5) _)
    rw [et]
    exact ⟨_, _, rfl, H.head⟩
  | true =>
    refine vs ?_
    refine x_lda H st37 ?_
    refine vs ?_
    refine x_callb H (implPostOk_ok _ _ q (H.rd h8) ht) fun w7 H => ?_
    cases hoq : postOk q with
    | false =>
      have et := postGrew_bad (p := p) (q := q) (fun hh => by have := hh.2.1; rw [hoq] at this; cases this)
      refine vs ?_
      have H := H.nothing (sl_zero (e := 22) (d := bytes 5) _)
      rw [et]
      exact ⟨_, _, rfl, H.head⟩
    | true =>
      refine vs ?_
      refine x_callw (in_ok _ _ _ _) ?_
      by_cases hr : (1 : Int) ≤ ((linesOf p.f_Book).length : Int) ∧ ((linesOf p.f_Book).length : Int) ≤ ((linesOf q.f_Book).length : Int)
      rotate_left
      · have et := postGrew_bad (p := p) (q := q) (fun hh => hr (by have := hh.2.2.1; omega))
        refine ve hr ?_
        have H := H.nothing (sl_zero (e := 22) (d := bytes 5) _)
        rw [et]
        exact ⟨_, _, rfl, H.head⟩
      refine ve hr ?_
      have ra := H.own (fp := f4) (x := linesOf p.f_Book) (by repeat (first | exact List.mem_cons_self | apply List.mem_cons_of_mem))
      have rb := H.own (fp := f5) (x := linesOf q.f_Book) (by repeat (first | exact List.mem_cons_self | apply List.mem_cons_of_mem))
      obtain ⟨_, _, ea, _, _, ha⟩ := sl_open ra
      obtain ⟨_, _, eb, _, _, hb⟩ := sl_open rb
      simp only [Value.slice.injEq, true_and] at ea eb
      obtain ⟨rfl, rfl⟩ := ea
      obtain ⟨rfl, rfl⟩ := eb
      refine loop_at (σ := Nat) (fun k => [(6, .slice Aa (linesOf p.f_Book).length ca), (7, .slice Ab (linesOf q.f_Book).length cb), (32, .slice Aa (linesOf p.f_Book).length ca), (33, .int .i64 ((linesOf p.f_Book).length : Int)), (34, .int .i64 (k : Int))])
        (fun k w' => k ≤ (linesOf p.f_Book).length ∧ (linesOf p.f_Book).take k = (linesOf q.f_Book).take k ∧ Sep w7.heap.size w7 w' []) (fun k => (linesOf p.f_Book).length - k) 0 (vs trivial) ⟨Nat.zero_le _, rfl, Sep.start w7⟩ ?_
      rintro k s w8 ⟨hk, htk, T⟩
      refine vs (ways ?_ ?_)
      · refine vh fun hlt => ?_
        have hka : k < (linesOf p.f_Book).length := by omega
        have hkb : k < (linesOf q.f_Book).length := by omega
        refine x_ele T sl26 rfl k hka ha rfl fun ad es hb1 hr1 hc1 => vs ?_
        obtain ⟨x1, rfl⟩ := sl_one hr1
        refine x_ld1 sc22 hc1 rfl (vs ?_)
        refine x_ele T sl26 rfl k hkb hb rfl fun ad es hb2 hr2 hc2 => vs ?_
        obtain ⟨x2, rfl⟩ := sl_one hr2
        refine x_ld1 sc22 hc2 rfl (vs ?_)
        refine x_callw (implSame_ok w8 _ _ _ _ (T.rd hr1) (T.rd hr2)) ?_
        by_cases he : (linesOf p.f_Book)[k] = (linesOf q.f_Book)[k]
        · refine ve he ?_
          exact ⟨k + 1, i64_eq (by unfold w64; omega), ⟨hka, take_step hka hkb htk he, T⟩, by omega⟩
        · have et := postGrew_bad (p := p) (q := q) (fun hh => take_ne hka hkb he hh.2.2.2)
          refine ve he ?_
          have H := H.go T.bel
          have H := H.nothing (sl_zero (e := 22) (d := bytes 5) _)
          rw [et]
          exact ⟨_, _, rfl, H.head⟩
      · refine vh fun hlt => ?_
        have hkl : k = (linesOf p.f_Book).length := by omega
        subst hkl
        have hall : linesOf p.f_Book = (linesOf q.f_Book).take (linesOf p.f_Book).length := by rw [← htk, List.take_length]
        have et := postGrew_ok (p := p) (q := q) ⟨hok, hoq, by omega, hall⟩
        have H := H.go T.bel
        refine x_callf H (implGrownOf_ok w8 _ _ _ (T.rd rb) (linesOf_few _)) fun rz fz wz H => vs ?_
        rw [et]
        exact ⟨_, _, rfl, H.head⟩
theorem specPostGrew_ok (w : World) (cs : List Value) (p : MPost) (ds : List Value) (q : MPost) (h : kPost.rd w w.heap.size cs p) (h' : kPost.rd w w.heap.size ds q) (hs : smPost p) (ht : smPost q) :
    ACalls Tryz.prog 40 #[.agg cs.toArray, .agg ds.toArray] w fun r w' => ∃ v1 f1, r = .tuple #[v1, .bool (postGrew p q).2] ∧ Sep w.heap.size w w' [Ck.own LL f1 [v1] (postGrew p q).1] := by
  have hs' := hs
  unfold smPost at hs'
  have h9 := h
  obtain ⟨v0, v2, rfl, h0, h1, h2, h3⟩ := kPost_open h
  obtain ⟨A2, c2, rfl, _⟩ := sl_open h2
  have H := Sep.start w
  have ht' := ht
  unfold smPost at ht'
  have h8 := h'
  obtain ⟨u0, u2, rfl, k0, k1, k2, k3⟩ := kPost_open h'
  obtain ⟨B2, e2, rfl, _⟩ := sl_open k2
  refine body_of follows Tryz.func40 rfl rfl _ rfl (by kernel_rfl) (vs ?_)
  refine x_bx H [v0, .int .i64 p.f_Time, .slice A2 p.f_Book.length c2, .int .i64 p.f_Sure] fun g1 w1 H => vs ?_
  refine x_bx H [u0, .int .i64 q.f_Time, .slice B2 q.f_Book.length e2, .int .i64 q.f_Sure] fun g2 w2 H => vs ?_
  refine draw_of [(0, true), (1, true), (3, true), (4, true), (2, false), (5, false), (6, true), (7, true)] w2.heap.size [] fun w3 hh hb3 => vs ?_
  have J := (Sep.start w2).go (hb3 _)
  have J3 := J
  refine q_ldB H J3 sc22 ?_
  refine vs ?_
  refine q_ldB H J3 sc22 ?_
  refine vs ?_
  refine x_callf J (specLinesOf_ok w3 _ p.f_Book (J.rd (H.rd h2)) hs'.2) fun r4 f4 w4 J => vs ?_
  refine ⟨kept_base J3 J, ?_⟩
  refine x_callf J (specLinesOf_ok w4 _ q.f_Book (J.rd (H.rd k2)) ht'.2) fun r5 f5 w5 J => vs ?_
  refine ⟨kept_base J3 J, ?_⟩
  have H := H.join J
  simp only [List.cons_append, List.nil_append] at H
  obtain ⟨Aa, ca, rfl, _⟩ := sl_open (H.own (fp := f4) (x := linesOf p.f_Book) (by repeat (first | exact List.mem_cons_self | apply List.mem_cons_of_mem)))
  obtain ⟨Ab, cb, rfl, _⟩ := sl_open (H.own (fp := f5) (x := linesOf q.f_Book) (by repeat (first | exact List.mem_cons_self | apply List.mem_cons_of_mem)))
  have l1 := linesOf_40 p.f_Book
  have l2 := linesOf_40 q.f_Book
  refine x_lda H st37 ?_
  refine vs ?_
  refine x_callb H (specPostOk_ok _ _ p (H.rd h9) hs) fun w6 H => ?_
  cases hok : postOk p with
  | false =>
    have et := postGrew_bad (p := p) (q := q) (fun hh => by have := hh.1; rw [hok] at this; cases this)
    refine vs ?_
    refine x_empO (d := bytes 5) H sl26 fun ga wy H => vs ?_
    rw [et]
    exact ⟨_, _, rfl, H.head⟩
  | true =>
    refine vs ?_
    refine x_lda H st37 ?_
    refine vs ?_
    refine x_callb H (specPostOk_ok _ _ q (H.rd h8) ht) fun w7 H => ?_
    cases hoq : postOk q with
    | false =>
      have et := postGrew_bad (p := p) (q := q) (fun hh => by have := hh.2.1; rw [hoq] at this; cases this)
      refine vs ?_
      refine x_empO (d := bytes 5) H sl26 fun ga wy H => vs ?_
      rw [et]
      exact ⟨_, _, rfl, H.head⟩
    | true =>
      by_cases hz : ((linesOf p.f_Book).length : Int) = 0
      · have et := postGrew_bad (p := p) (q := q) (fun hh => by have := hh.2.2.1; omega)
        refine ve hz ?_
        refine x_empO (d := bytes 5) H sl26 fun ga wy H => vs ?_
        rw [et]
        exact ⟨_, _, rfl, H.head⟩
      by_cases hgt : ((linesOf q.f_Book).length : Int) < ((linesOf p.f_Book).length : Int)
      · have et := postGrew_bad (p := p) (q := q) (fun hh => by have := hh.2.2.1; omega)
        refine ve hz ?_
        refine ve hgt ?_
        refine x_empO (d := bytes 5) H sl26 fun ga wy H => vs ?_
        rw [et]
        exact ⟨_, _, rfl, H.head⟩
      have hr : (1 : Int) ≤ ((linesOf p.f_Book).length : Int) ∧ ((linesOf p.f_Book).length : Int) ≤ ((linesOf q.f_Book).length : Int) := by omega
      refine ve hz ?_
      refine ve hgt ?_
      have ra := H.own (fp := f4) (x := linesOf p.f_Book) (by repeat (first | exact List.mem_cons_self | apply List.mem_cons_of_mem))
      have rb := H.own (fp := f5) (x := linesOf q.f_Book) (by repeat (first | exact List.mem_cons_self | apply List.mem_cons_of_mem))
      obtain ⟨_, _, ea, _, _, ha⟩ := sl_open ra
      obtain ⟨_, _, eb, _, _, hb⟩ := sl_open rb
      simp only [Value.slice.injEq, true_and] at ea eb
      obtain ⟨rfl, rfl⟩ := ea
      obtain ⟨rfl, rfl⟩ := eb
      refine loop_at (σ := Nat) (fun k => [(6, .slice Aa (linesOf p.f_Book).length ca), (7, .slice Ab (linesOf q.f_Book).length cb), (8, .int .i64 (k : Int))])
        (fun k w' => k ≤ (linesOf p.f_Book).length ∧ (linesOf p.f_Book).take k = (linesOf q.f_Book).take k ∧ Sep w7.heap.size w7 w' []) (fun k => (linesOf p.f_Book).length - k) 0 (vs trivial) ⟨Nat.zero_le _, rfl, Sep.start w7⟩ ?_
      rintro k s w8 ⟨hk, htk, T⟩
      refine vs (ways ?_ ?_)
      · refine vh fun hlt => ?_
        have hka : k < (linesOf p.f_Book).length := by omega
        have hkb : k < (linesOf q.f_Book).length := by omega
        refine draw_of [(0, true), (1, true), (2, true), (3, true), (4, true), (5, true), (6, true), (7, true), (8, false), (9, true)] w8.heap.size [] fun w9 hh hb9 => vs ?_
        have hw9 : w9.heap.size = w8.heap.size := by rw [hh]
        have T := T.go (hb9 _)
        have T3 := T
        have hns : w7.heap.size ≤ w8.heap.size := by rw [← hw9]; exact T.ns
        refine q_ele T sl26 rfl k hka ha rfl fun ad es hb1 hr1 hc1 => vs ?_
        obtain ⟨x1, rfl⟩ := sl_one hr1
        refine q_ld1 sc22 hc1 rfl (Nat.lt_of_lt_of_le hb1 hns) ?_
        refine vs ?_
        refine q_ele T sl26 rfl k hkb hb rfl fun ad es hb2 hr2 hc2 => vs ?_
        obtain ⟨x2, rfl⟩ := sl_one hr2
        refine q_ld1 sc22 hc2 rfl (Nat.lt_of_lt_of_le hb2 hns) ?_
        refine vs ?_
        refine x_callw (specSame_ok w9 _ _ _ _ (T.rd hr1) (T.rd hr2)) ?_
        refine vs ?_
        refine ⟨Kept.refl _ _ _, ?_⟩
        by_cases he : (linesOf p.f_Book)[k] = (linesOf q.f_Book)[k]
        · refine ve he ?_
          exact ⟨k + 1, i64_eq (by unfold w64; omega), ⟨hka, take_step hka hkb htk he, T⟩, by omega⟩
        · have et := postGrew_bad (p := p) (q := q) (fun hh => take_ne hka hkb he hh.2.2.2)
          refine ve he ?_
          have H := H.go T.bel
          refine x_empO (d := bytes 5) H sl26 fun ga wy H => vs ?_
          rw [et]
          exact ⟨_, _, rfl, H.head⟩
      · refine vh fun hlt => ?_
        have hkl : k = (linesOf p.f_Book).length := by omega
        subst hkl
        have hall : linesOf p.f_Book = (linesOf q.f_Book).take (linesOf p.f_Book).length := by rw [← htk, List.take_length]
        have et := postGrew_ok (p := p) (q := q) ⟨hok, hoq, by omega, hall⟩
        have H := H.go T.bel
        refine x_callf H (specGrownOf_ok w8 _ _ _ (T.rd rb) (linesOf_few _)) fun rz fz wz H => vs ?_
        rw [et]
        exact ⟨_, _, rfl, H.head⟩
end Go.Proofs.YtfhbglaigjekpaaGreat.V
