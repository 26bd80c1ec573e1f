/- Texts laid by programs, part 11. -/
import Derived.Test.YtcmckbgiiclomabGreatDoorU10
import Derived.Test.YtcmckbgiiclomabGreatDoorU09
import Derived.Test.YtcmckbgiiclomabGreatDoorU07
import Derived.Test.YtcmckbgiiclomabGreatDoorU04
import Derived.Test.YtcmckbgiiclomabGreatDoorU05
import Derived.Test.YtcmckbgiiclomabGreatDoorU03
namespace Go.Proofs.YtcmckbgiiclomabGreatDoor.V
open Go Go.RowKit
set_option maxRecDepth 100000
set_option maxHeartbeats 16000000
set_option linter.unusedSimpArgs false
set_option linter.unusedVariables false
set_option pp.deepTerms false
set_option pp.deepTerms.threshold 3
theorem one13w {a b c d e f g h : Value} {i j k l m : Int} (h1 : a.oneCell' = true) (h2 : b.oneCell' = true) (h3 : c.oneCell' = true) (h4 : d.oneCell' = true) (h5 : e.oneCell' = true) (h6 : f.oneCell' = true) (h7 : g.oneCell' = true) (h8 : h.oneCell' = true) :
    ∀ v ∈ [a, .int .i64 i, .int .i64 j, b, .int .i64 k, c, .int .i64 l, d, .int .i64 m, e, f, g, h], v.oneCell' = true := by
  intro v hv; simp only [List.mem_cons, List.not_mem_nil, or_false] at hv
  rcases hv with rfl | rfl | rfl | rfl | rfl | rfl | rfl | rfl | rfl | rfl | rfl | rfl | rfl
  · exact h1
  · rfl
  · rfl
  · exact h2
  · rfl
  · exact h3
  · rfl
  · exact h4
  · rfl
  · exact h5
  · exact h6
  · exact h7
  · exact h8
theorem kPost_rg {w : World} {n : Nat} {cs : List Value} {p : MPost} (h : kPost.rd w n cs p) : (-9223372036854775808 ≤ p.f_Time ∧ p.f_Time < 9223372036854775808) ∧ (-9223372036854775808 ≤ p.f_Sure ∧ p.f_Sure < 9223372036854775808) := by
  obtain ⟨_, _, _, _, h1, _, h3⟩ := kPost_open h; exact ⟨h1, h3⟩
theorem PostR.agg {w w' : World} {p : MPost} {r : Value} (hp : (-9223372036854775808 ≤ p.f_Time ∧ p.f_Time < 9223372036854775808) ∧ (-9223372036854775808 ≤ p.f_Sure ∧ p.f_Sure < 9223372036854775808)) (h : PostR w p r w') : ∃ v0 v2 fp, r = .agg #[v0, .int .i64 p.f_Time, v2, .int .i64 p.f_Sure] ∧ Sep w.heap.size w w' [Ck.own kPost fp [v0, .int .i64 p.f_Time, v2, .int .i64 p.f_Sure] p] := by
  obtain ⟨v0, f0, v2, f2, e, S⟩ := h; obtain ⟨fp, S⟩ := ownPost p S hp.1 hp.2; exact ⟨v0, v2, fp, e, S⟩
theorem l17Copy_ok (w : World) (cs : List Value) (x : MWorld) (h : kWorld.rd w w.heap.size cs x) (hs : smWorld x) :
    ACalls Tryz.prog 42 #[.agg cs.toArray] w fun r w' => ∃ (cs' : List Value) (fp : List Nat), r = .agg cs'.toArray ∧ Sep w.heap.size w w' [Ck.own kWorld fp cs' x] := by
  obtain ⟨y0, y3, y4, y5, y6, y7, y8, y9, rfl, h0, h1, h2, h3, h4, h5, h6⟩ := kWorld_open h; obtain ⟨hs0, hsp, hsr, hsn, hss⟩ := hs; have hn1 := hsn.1; have hn2 := hss.1; have hpr := kPost_rg h3; have hlm5 := sl_len h5; have hlm6 := sl_len h6; obtain ⟨A8, c8, rfl, _, _, ha5⟩ := sl_open h5; obtain ⟨A9, c9, rfl, _, _, ha6⟩ := sl_open h6; have H := Sep.start w; refine body_of follows Tryz.func42 rfl rfl _ rfl (by kernel_rfl) (vs ?_); refine x_bx H (wX x y0 y3 y4 y5 y6 y7 (.slice A8 x.f_Net.length c8) (.slice A9 x.f_Sent.length c9)) fun g1 w1 H => vs ?_; refine x_al H st39 fun g2 w2 H => vs ?_; have H : Sep w.heap.size w w2 [Ck.box g2 zW 39, wB g1 (wX x y0 y3 y4 y5 y6 y7 (.slice A8 x.f_Net.length c8) (.slice A9 x.f_Sent.length c9))] := H
  refine cut_to (σ := Nat × (Value × Value × Value × Value × Value × Value) × List Nat × List Nat × List Nat) (fun y => [(1, .pointer (some ⟨g1, 0, none⟩)), (2, .pointer (some ⟨g2, 0, none⟩)), (3, .pointer (some ⟨y.1, 0, none⟩))])
    (fun y w' => (y.2.1.1.oneCell' = true ∧ y.2.1.2.1.oneCell' = true ∧ y.2.1.2.2.1.oneCell' = true ∧ y.2.1.2.2.2.1.oneCell' = true ∧ y.2.1.2.2.2.2.1.oneCell' = true ∧ y.2.1.2.2.2.2.2.oneCell' = true) ∧ Sep w2.heap.size w2 w' [wB y.1 (wX x y.2.1.1 y.2.1.2.1 y.2.1.2.2.1 y.2.1.2.2.2.1 y.2.1.2.2.2.2.1 y.2.1.2.2.2.2.2 (.slice none 0 0) (.slice none 0 0)), oB y.2.2.1 y.2.1.1 x.f_Seed, oP y.2.2.2.1 x.f_Post y.2.1.2.1 y.2.1.2.2.1, oR y.2.2.2.2 x.f_Reader y.2.1.2.2.2.1 y.2.1.2.2.2.2.1 y.2.1.2.2.2.2.2]) ?_ ?_
  · have J := Sep.start w2
    refine fork_draw w2.heap.size [] fun w3 hh hb3 => ?_; have J := J.go (hb3 _); have J3 := J; refine rest_pre [(1, true), (2, true), (4, true), (5, true), (6, true), (7, true), (8, true), (9, true), (11, true), (12, true)] 7 ?_; refine vs ?_; refine q_ldB H J3 sc22 ?_; refine vs ?_; refine q_ldB H J3 sc3 ?_; refine vs ?_; refine q_ldB H J3 sc3 ?_; refine vs ?_; refine q_ldpB H J3 (pC x.f_Post y3 y4) st32 ?_; refine vs ?_; refine q_ldpB H J3 (rC x.f_Reader y5 y6 y7) st35 ?_; refine vs ?_; refine rest_fork 0 15 6 ?_ ?_
    · refine vs ?_
      refine x_emp J pl_u8 sl22 fun ga wa J => vs ?_; refine ⟨kept_base J3 J, ?_⟩; refine rest_fork 3 15 5 ?_ ?_
      · refine vs ?_
        refine x_app (l := []) J pl_u8 sl22 (J.rd (H.rd h0)) ?_ ?_ fun f0 r0 wb J => vs ?_
        · simp only [List.length_nil]; omega
        · simp only [List.length_nil]; omega
        rw [List.nil_append] at J; refine ⟨kept_base J3 J, ?_⟩; obtain ⟨A0, c0, rfl, _⟩ := sl_open (J.ow (bytes 5) f0 [r0] x.f_Seed); refine rest_fork 10 15 4 ?_ ?_
        · refine vs ?_
          refine x_call (l15Copy_ok _ _ x.f_Post (J.rd (H.rd h3)) hsp) fun _ wc hPR => ?_; obtain ⟨p0, p2, f3, e, S⟩ := hPR.agg hpr; subst e; have J := J.join S; simp only [List.cons_append, List.nil_append] at J; have op := Kd.one _ (J.ow kPost f3 (pC x.f_Post p0 p2) x.f_Post); refine vs ?_; refine ⟨kept_base J3 J, ?_⟩; refine rest_fork 13 15 3 ?_ ?_
          · refine vs ?_
            refine x_call (l16Copy_ok _ _ x.f_Reader (J.rd (H.rd h4)) hsr) fun _ wd ⟨csr, f4, e, S⟩ => ?_; subst e; have J := J.join S; simp only [List.cons_append, List.nil_append] at J; obtain ⟨q0, q2, q3, rfl, _⟩ := kReader_open (J.ow kReader f4 csr x.f_Reader); have oq := Kd.one _ (J.ow kReader f4 (rC x.f_Reader q0 q2 q3) x.f_Reader); refine vs ?_; refine ⟨kept_base J3 J, ?_⟩; refine rest_end [(14, true), (15, false), (16, false)] ?_; refine vs ?_; refine q_bld bl39 (wX x (.slice A0 x.f_Seed.length c0) p0 p2 q0 q2 q3 (.slice none 0 0) (.slice none 0 0)) ?_ (by kernel_rfl); refine vs ?_; refine x_al J st39 fun g3 we J => vs ?_; refine ⟨kept_base J3 J, ?_⟩; refine x_sta J st39 (vs := (wX x (.slice A0 x.f_Seed.length c0) p0 p2 q0 q2 q3 (.slice none 0 0) (.slice none 0 0))) (h1 := one13w rfl (op p0 (by simp)) (op p2 (by simp)) (oq q0 (by simp)) (oq q2 (by simp)) (oq q3 (by simp)) rfl rfl) fun wf J => vs ?_; refine ⟨kept_base J3 J, ?_⟩; have J := J.front (c := oR f4 x.f_Reader q0 q2 q3); have J := J.front (c := oP f3 x.f_Post p0 p2); have J := J.front (c := oB f0 (.slice A0 x.f_Seed.length c0) x.f_Seed); have J := J.front (c := wB g3 (wX x (.slice A0 x.f_Seed.length c0) p0 p2 q0 q2 q3 (.slice none 0 0) (.slice none 0 0))); exact ⟨(g3, (.slice A0 x.f_Seed.length c0, p0, p2, q0, q2, q3), f0, f3, f4), vs trivial, ⟨rfl, op p0 (by simp), op p2 (by simp), oq q0 (by simp), oq q2 (by simp), oq q3 (by simp)⟩, Sep.left (L := [_, _, _, _]) J⟩
          · refine vs ?_
            refine x_al J st39 fun g3 we J => vs ?_; refine ⟨kept_base J3 J, ?_⟩; refine rest_end [(13, false), (14, true), (16, false)] ?_; refine vs ?_; refine x_call (l16Copy_ok _ _ x.f_Reader (J.rd (H.rd h4)) hsr) fun _ wd ⟨csr, f4, e, S⟩ => ?_; subst e; have J := J.join S; simp only [List.cons_append, List.nil_append] at J; obtain ⟨q0, q2, q3, rfl, _⟩ := kReader_open (J.ow kReader f4 csr x.f_Reader); have oq := Kd.one _ (J.ow kReader f4 (rC x.f_Reader q0 q2 q3) x.f_Reader); refine vs ?_; refine ⟨kept_base J3 J, ?_⟩; refine q_bld bl39 (wX x (.slice A0 x.f_Seed.length c0) p0 p2 q0 q2 q3 (.slice none 0 0) (.slice none 0 0)) ?_ (by kernel_rfl); refine vs ?_; refine x_sta J st39 (vs := (wX x (.slice A0 x.f_Seed.length c0) p0 p2 q0 q2 q3 (.slice none 0 0) (.slice none 0 0))) (h1 := one13w rfl (op p0 (by simp)) (op p2 (by simp)) (oq q0 (by simp)) (oq q2 (by simp)) (oq q3 (by simp)) rfl rfl) fun wf J => vs ?_; refine ⟨kept_base J3 J, ?_⟩; have J := J.front (c := oR f4 x.f_Reader q0 q2 q3); have J := J.front (c := oP f3 x.f_Post p0 p2); have J := J.front (c := oB f0 (.slice A0 x.f_Seed.length c0) x.f_Seed); have J := J.front (c := wB g3 (wX x (.slice A0 x.f_Seed.length c0) p0 p2 q0 q2 q3 (.slice none 0 0) (.slice none 0 0))); exact ⟨(g3, (.slice A0 x.f_Seed.length c0, p0, p2, q0, q2, q3), f0, f3, f4), vs trivial, ⟨rfl, op p0 (by simp), op p2 (by simp), oq q0 (by simp), oq q2 (by simp), oq q3 (by simp)⟩, Sep.left (L := [_, _, _, _]) J⟩
        · refine vs ?_
          refine x_al J st39 fun g3 we J => vs ?_; refine ⟨kept_base J3 J, ?_⟩; refine rest_end [(10, false), (13, false), (14, true), (16, false)] ?_; refine vs ?_; refine x_call (l15Copy_ok _ _ x.f_Post (J.rd (H.rd h3)) hsp) fun _ wc hPR => ?_; obtain ⟨p0, p2, f3, e, S⟩ := hPR.agg hpr; subst e; have J := J.join S; simp only [List.cons_append, List.nil_append] at J; have op := Kd.one _ (J.ow kPost f3 (pC x.f_Post p0 p2) x.f_Post); refine vs ?_; refine ⟨kept_base J3 J, ?_⟩; refine x_call (l16Copy_ok _ _ x.f_Reader (J.rd (H.rd h4)) hsr) fun _ wd ⟨csr, f4, e, S⟩ => ?_; subst e; have J := J.join S; simp only [List.cons_append, List.nil_append] at J; obtain ⟨q0, q2, q3, rfl, _⟩ := kReader_open (J.ow kReader f4 csr x.f_Reader); have oq := Kd.one _ (J.ow kReader f4 (rC x.f_Reader q0 q2 q3) x.f_Reader); refine vs ?_; refine ⟨kept_base J3 J, ?_⟩; refine q_bld bl39 (wX x (.slice A0 x.f_Seed.length c0) p0 p2 q0 q2 q3 (.slice none 0 0) (.slice none 0 0)) ?_ (by kernel_rfl); refine vs ?_; refine x_sta J st39 (vs := (wX x (.slice A0 x.f_Seed.length c0) p0 p2 q0 q2 q3 (.slice none 0 0) (.slice none 0 0))) (h1 := one13w rfl (op p0 (by simp)) (op p2 (by simp)) (oq q0 (by simp)) (oq q2 (by simp)) (oq q3 (by simp)) rfl rfl) fun wf J => vs ?_; refine ⟨kept_base J3 J, ?_⟩; have J := J.front (c := oR f4 x.f_Reader q0 q2 q3); have J := J.front (c := oP f3 x.f_Post p0 p2); have J := J.front (c := oB f0 (.slice A0 x.f_Seed.length c0) x.f_Seed); have J := J.front (c := wB g3 (wX x (.slice A0 x.f_Seed.length c0) p0 p2 q0 q2 q3 (.slice none 0 0) (.slice none 0 0))); exact ⟨(g3, (.slice A0 x.f_Seed.length c0, p0, p2, q0, q2, q3), f0, f3, f4), vs trivial, ⟨rfl, op p0 (by simp), op p2 (by simp), oq q0 (by simp), oq q2 (by simp), oq q3 (by simp)⟩, Sep.left (L := [_, _, _, _]) J⟩
      · refine vs ?_
        refine x_al J st39 fun g3 we J => vs ?_; refine ⟨kept_base J3 J, ?_⟩; refine rest_end [(3, false), (10, false), (13, false), (14, true), (16, false)] ?_; refine vs ?_; refine x_app (l := []) J pl_u8 sl22 (J.rd (H.rd h0)) ?_ ?_ fun f0 r0 wb J => vs ?_
        · simp only [List.length_nil]; omega
        · simp only [List.length_nil]; omega
        rw [List.nil_append] at J; refine ⟨kept_base J3 J, ?_⟩; obtain ⟨A0, c0, rfl, _⟩ := sl_open (J.ow (bytes 5) f0 [r0] x.f_Seed); refine x_call (l15Copy_ok _ _ x.f_Post (J.rd (H.rd h3)) hsp) fun _ wc hPR => ?_; obtain ⟨p0, p2, f3, e, S⟩ := hPR.agg hpr; subst e; have J := J.join S; simp only [List.cons_append, List.nil_append] at J; have op := Kd.one _ (J.ow kPost f3 (pC x.f_Post p0 p2) x.f_Post); refine vs ?_; refine ⟨kept_base J3 J, ?_⟩; refine x_call (l16Copy_ok _ _ x.f_Reader (J.rd (H.rd h4)) hsr) fun _ wd ⟨csr, f4, e, S⟩ => ?_; subst e; have J := J.join S; simp only [List.cons_append, List.nil_append] at J; obtain ⟨q0, q2, q3, rfl, _⟩ := kReader_open (J.ow kReader f4 csr x.f_Reader); have oq := Kd.one _ (J.ow kReader f4 (rC x.f_Reader q0 q2 q3) x.f_Reader); refine vs ?_; refine ⟨kept_base J3 J, ?_⟩; refine q_bld bl39 (wX x (.slice A0 x.f_Seed.length c0) p0 p2 q0 q2 q3 (.slice none 0 0) (.slice none 0 0)) ?_ (by kernel_rfl); refine vs ?_; refine x_sta J st39 (vs := (wX x (.slice A0 x.f_Seed.length c0) p0 p2 q0 q2 q3 (.slice none 0 0) (.slice none 0 0))) (h1 := one13w rfl (op p0 (by simp)) (op p2 (by simp)) (oq q0 (by simp)) (oq q2 (by simp)) (oq q3 (by simp)) rfl rfl) fun wf J => vs ?_; refine ⟨kept_base J3 J, ?_⟩; have J := J.front (c := oR f4 x.f_Reader q0 q2 q3); have J := J.front (c := oP f3 x.f_Post p0 p2); have J := J.front (c := oB f0 (.slice A0 x.f_Seed.length c0) x.f_Seed); have J := J.front (c := wB g3 (wX x (.slice A0 x.f_Seed.length c0) p0 p2 q0 q2 q3 (.slice none 0 0) (.slice none 0 0))); exact ⟨(g3, (.slice A0 x.f_Seed.length c0, p0, p2, q0, q2, q3), f0, f3, f4), vs trivial, ⟨rfl, op p0 (by simp), op p2 (by simp), oq q0 (by simp), oq q2 (by simp), oq q3 (by simp)⟩, Sep.left (L := [_, _, _, _]) J⟩
    · refine vs ?_
      refine x_al J st39 fun g3 we J => vs ?_; refine ⟨kept_base J3 J, ?_⟩; refine rest_end [(0, false), (3, false), (10, false), (13, false), (14, true), (16, false)] ?_; refine vs ?_; refine x_emp J pl_u8 sl22 fun ga wa J => vs ?_; refine ⟨kept_base J3 J, ?_⟩; refine x_app (l := []) J pl_u8 sl22 (J.rd (H.rd h0)) ?_ ?_ fun f0 r0 wb J => vs ?_
      · simp only [List.length_nil]; omega
      · simp only [List.length_nil]; omega
      rw [List.nil_append] at J; refine ⟨kept_base J3 J, ?_⟩; obtain ⟨A0, c0, rfl, _⟩ := sl_open (J.ow (bytes 5) f0 [r0] x.f_Seed); refine x_call (l15Copy_ok _ _ x.f_Post (J.rd (H.rd h3)) hsp) fun _ wc hPR => ?_; obtain ⟨p0, p2, f3, e, S⟩ := hPR.agg hpr; subst e; have J := J.join S; simp only [List.cons_append, List.nil_append] at J; have op := Kd.one _ (J.ow kPost f3 (pC x.f_Post p0 p2) x.f_Post); refine vs ?_; refine ⟨kept_base J3 J, ?_⟩; refine x_call (l16Copy_ok _ _ x.f_Reader (J.rd (H.rd h4)) hsr) fun _ wd ⟨csr, f4, e, S⟩ => ?_; subst e; have J := J.join S; simp only [List.cons_append, List.nil_append] at J; obtain ⟨q0, q2, q3, rfl, _⟩ := kReader_open (J.ow kReader f4 csr x.f_Reader); have oq := Kd.one _ (J.ow kReader f4 (rC x.f_Reader q0 q2 q3) x.f_Reader); refine vs ?_; refine ⟨kept_base J3 J, ?_⟩; refine q_bld bl39 (wX x (.slice A0 x.f_Seed.length c0) p0 p2 q0 q2 q3 (.slice none 0 0) (.slice none 0 0)) ?_ (by kernel_rfl); refine vs ?_; refine x_sta J st39 (vs := (wX x (.slice A0 x.f_Seed.length c0) p0 p2 q0 q2 q3 (.slice none 0 0) (.slice none 0 0))) (h1 := one13w rfl (op p0 (by simp)) (op p2 (by simp)) (oq q0 (by simp)) (oq q2 (by simp)) (oq q3 (by simp)) rfl rfl) fun wf J => vs ?_; refine ⟨kept_base J3 J, ?_⟩; have J := J.front (c := oR f4 x.f_Reader q0 q2 q3); have J := J.front (c := oP f3 x.f_Post p0 p2); have J := J.front (c := oB f0 (.slice A0 x.f_Seed.length c0) x.f_Seed); have J := J.front (c := wB g3 (wX x (.slice A0 x.f_Seed.length c0) p0 p2 q0 q2 q3 (.slice none 0 0) (.slice none 0 0))); exact ⟨(g3, (.slice A0 x.f_Seed.length c0, p0, p2, q0, q2, q3), f0, f3, f4), vs trivial, ⟨rfl, op p0 (by simp), op p2 (by simp), oq q0 (by simp), oq q2 (by simp), oq q3 (by simp)⟩, Sep.left (L := [_, _, _, _]) J⟩
  rintro ⟨g3, ⟨u0, p0, p2, q0, q2, q3⟩, f0, f3, f4⟩ s5 w5 ⟨⟨o1, o2, o3, o4, o5, o6⟩, J⟩; dsimp only at o1 o2 o3 o4 o5 o6 J; have H := H.join J; simp only [List.cons_append, List.nil_append] at H; refine vs ?_; have H := H.nothing (d := wires) (sl_zero w5)
  refine loop_at (σ := Nat × Value × List Nat) (fun y => [(1, .pointer (some ⟨g1, 0, none⟩)), (2, .pointer (some ⟨g2, 0, none⟩)), (3, .pointer (some ⟨g3, 0, none⟩)), (4, .int .i64 (y.1 : Int))])
    (fun y w' => y.1 ≤ x.f_Net.length ∧ Sep w.heap.size w w' [oN y.2.2 y.2.1 (x.f_Net.take y.1), wB g3 (wX x u0 p0 p2 q0 q2 q3 y.2.1 (.slice none 0 0)), oB f0 u0 x.f_Seed, oP f3 x.f_Post p0 p2, oR f4 x.f_Reader q0 q2 q3, Ck.box g2 zW 39, wB g1 (wX x y0 y3 y4 y5 y6 y7 (.slice A8 x.f_Net.length c8) (.slice A9 x.f_Sent.length c9))]) (fun y => x.f_Net.length - y.1) (0, .slice none 0 0, []) (vs trivial) ⟨Nat.zero_le _, H⟩ ?_
  rintro ⟨k, vn, fn⟩ s w6 ⟨hk, H⟩; dsimp only at hk H; refine vs ?_; refine x_ld H sc36 ?_; refine vs (ways ?_ ?_)
  · refine vh fun hlt => ?_
    have hk2 : k < x.f_Net.length := by omega
    have hsm := hsn.2 x.f_Net[k] (List.getElem_mem hk2); refine x_ld H sc36 ?_; refine vs ?_; refine x_ele H sl36 rfl k hk2 ha5 rfl fun ad es hb hr hc => vs ?_; obtain ⟨X, hX⟩ : ∃ X, X = x.f_Net[k] := ⟨_, rfl⟩; rw [← hX] at hr hsm; have hr9 := hr; obtain ⟨i3, b2, rfl, _, hxi, hxb⟩ := kWire_open hr; have oX := Kd.one _ hr9; have hxm := hsm; unfold smWire at hxm; refine x_lds st64 hc (Kd.len _ hr9) ?_; refine vs ?_; refine x_al H st64 fun g5 w7 H => vs ?_; refine x_sta H st64 (vs := (tC X i3 b2)) (h1 := oX) fun w8 H => vs ?_; have H : Sep w.heap.size w w8 (Ck.box g5 (tC X i3 b2) 64 :: _) := H; have J := Sep.start w8; refine fork_zdraw 13 w8.heap.size [] fun w9 hh hb9 => ?_; have J := J.go (hb9 _); have J3 := J; refine restz_pre [(0, true), (1, true), (2, true), (3, true), (4, true), (5, true), (8, true), (9, true)] 8 ?_; refine vs ?_; refine q_ldB H J3 sc36 ?_; refine vs ?_; refine q_ldB H J3 sc4 ?_; refine vs ?_; refine q_ldpB H J3 (iC X.f_Item i3) st28 ?_; refine vs ?_; refine q_ldB H J3 sc22 ?_; refine vs ?_; refine restz_fork 6 7 7 ?_ ?_
    · refine vs ?_
      refine x_call (l13Item_ok _ _ X.f_Item (J.rd (H.rd hxi)) hxm.1) fun _ wa ⟨csi, fi, e, S⟩ => ?_; subst e; have J := J.join S; simp only [List.cons_append, List.nil_append] at J; obtain ⟨j3, rfl, _⟩ := kItem_open (J.ow kItem fi csi X.f_Item); refine vs ?_; refine ⟨kept_base J3 J, ?_⟩; refine restz_pre [(7, false), (10, false), (11, true), (12, false)] 3 ?_; refine vs ?_; refine x_emp J pl_u8 sl22 fun ga wb J => vs ?_; refine ⟨kept_base J3 J, ?_⟩; refine x_app (l := []) J pl_u8 sl22 (J.rd (H.rd hxb)) ?_ ?_ fun fb rb wc J => vs ?_
      · simp only [List.length_nil]; omega
      · simp only [List.length_nil]; omega
      rw [List.nil_append] at J; refine ⟨kept_base J3 J, ?_⟩; obtain ⟨Ab, cb, rfl, _⟩ := sl_open (J.ow (bytes 5) fb [rb] X.f_Bytes); refine q_bld bl64 (tC X j3 (.slice Ab X.f_Bytes.length cb)) ?_ (by kernel_rfl); refine vs ?_; have J := J.front (c := oB fb (.slice Ab X.f_Bytes.length cb) X.f_Bytes); have J := J.front (c := oI fi X.f_Item j3); obtain ⟨fw, J⟩ := ownWire X J trivial; refine x_lst1 sl36 J rfl rfl fun f6 v6 wd J => vs ?_; refine ⟨kept_base J3 J, ?_⟩; refine restz_late [13, 14, 15] ?_; have H := H.join J; simp only [List.cons_append, List.nil_append] at H; have H := H.front (c := oN fn vn (x.f_Net.take k)); have H := H.front (c := Ck.own wires f6 [v6] [X]); refine dl_cons ⟨_, rfl, vs ?_⟩; refine x_appO sl36 H rfl ?_ ?_ fun f7 v7 we H => ?_
      · simp only [List.length_take, List.length_cons, List.length_nil]; omega
      · simp only [List.length_take, List.length_cons, List.length_nil]; omega
      have o7 := one1 H (.head _); refine dl_cons ⟨_, rfl, vs ?_⟩; refine dl_cons ⟨_, rfl, vs ?_⟩; refine x_st H sc36 (h1 := o7) fun wf H => ?_; refine dl_nil (vs ?_); have e7 : x.f_Net.take k ++ [X] = x.f_Net.take (k + 1) := by rw [List.take_succ_eq_append_getElem hk2, hX]
      rw [e7] at H; have H := H.front (c := wB g1 (wX x y0 y3 y4 y5 y6 y7 (.slice A8 x.f_Net.length c8) (.slice A9 x.f_Sent.length c9))); have H := H.front (c := Ck.box g2 zW 39); have H := H.front (c := oR f4 x.f_Reader q0 q2 q3); have H := H.front (c := oP f3 x.f_Post p0 p2); have H := H.front (c := oB f0 u0 x.f_Seed); have H := H.front (c := wB g3 (wX x u0 p0 p2 q0 q2 q3 v7 (.slice none 0 0))); have H := H.front (c := oN f7 v7 (x.f_Net.take (k + 1))); refine ⟨(k + 1, v7, f7), i64_eq (by show w64 ((k : Int) + 1) = ((k + 1 : Nat) : Int); unfold w64; omega), ⟨hk2, ?_⟩, by show x.f_Net.length - (k + 1) < x.f_Net.length - k; omega⟩; exact Sep.left (L := [_, _, _, _, _, _, _]) H
    · refine vs ?_
      refine x_emp J pl_u8 sl22 fun ga wb J => vs ?_; refine ⟨kept_base J3 J, ?_⟩; refine restz_pre [(6, false), (10, false), (11, true), (12, false)] 3 ?_; refine vs ?_; refine x_call (l13Item_ok _ _ X.f_Item (J.rd (H.rd hxi)) hxm.1) fun _ wa ⟨csi, fi, e, S⟩ => ?_; subst e; have J := J.join S; simp only [List.cons_append, List.nil_append] at J; obtain ⟨j3, rfl, _⟩ := kItem_open (J.ow kItem fi csi X.f_Item); refine vs ?_; refine ⟨kept_base J3 J, ?_⟩; refine x_app (l := []) J pl_u8 sl22 (J.rd (H.rd hxb)) ?_ ?_ fun fb rb wc J => vs ?_
      · simp only [List.length_nil]; omega
      · simp only [List.length_nil]; omega
      rw [List.nil_append] at J; refine ⟨kept_base J3 J, ?_⟩; obtain ⟨Ab, cb, rfl, _⟩ := sl_open (J.ow (bytes 5) fb [rb] X.f_Bytes); refine q_bld bl64 (tC X j3 (.slice Ab X.f_Bytes.length cb)) ?_ (by kernel_rfl); refine vs ?_; have J := J.front (c := oB fb (.slice Ab X.f_Bytes.length cb) X.f_Bytes); have J := J.front (c := oI fi X.f_Item j3); obtain ⟨fw, J⟩ := ownWire X J trivial; refine x_lst1 sl36 J rfl rfl fun f6 v6 wd J => vs ?_; refine ⟨kept_base J3 J, ?_⟩; refine restz_late [13, 14, 15] ?_; have H := H.join J; simp only [List.cons_append, List.nil_append] at H; have H := H.front (c := oN fn vn (x.f_Net.take k)); have H := H.front (c := Ck.own wires f6 [v6] [X]); refine dl_cons ⟨_, rfl, vs ?_⟩; refine x_appO sl36 H rfl ?_ ?_ fun f7 v7 we H => ?_
      · simp only [List.length_take, List.length_cons, List.length_nil]; omega
      · simp only [List.length_take, List.length_cons, List.length_nil]; omega
      have o7 := one1 H (.head _); refine dl_cons ⟨_, rfl, vs ?_⟩; refine dl_cons ⟨_, rfl, vs ?_⟩; refine x_st H sc36 (h1 := o7) fun wf H => ?_; refine dl_nil (vs ?_); have e7 : x.f_Net.take k ++ [X] = x.f_Net.take (k + 1) := by rw [List.take_succ_eq_append_getElem hk2, hX]
      rw [e7] at H; have H := H.front (c := wB g1 (wX x y0 y3 y4 y5 y6 y7 (.slice A8 x.f_Net.length c8) (.slice A9 x.f_Sent.length c9))); have H := H.front (c := Ck.box g2 zW 39); have H := H.front (c := oR f4 x.f_Reader q0 q2 q3); have H := H.front (c := oP f3 x.f_Post p0 p2); have H := H.front (c := oB f0 u0 x.f_Seed); have H := H.front (c := wB g3 (wX x u0 p0 p2 q0 q2 q3 v7 (.slice none 0 0))); have H := H.front (c := oN f7 v7 (x.f_Net.take (k + 1))); refine ⟨(k + 1, v7, f7), i64_eq (by show w64 ((k : Int) + 1) = ((k + 1 : Nat) : Int); unfold w64; omega), ⟨hk2, ?_⟩, by show x.f_Net.length - (k + 1) < x.f_Net.length - k; omega⟩; exact Sep.left (L := [_, _, _, _, _, _, _]) H
  · refine vh fun hlt => ?_
    obtain rfl : k = x.f_Net.length := by omega
    rw [List.take_length] at H; have on := one1 H (.head _); have H := H.nothing (d := sents) (sl_zero w6); have H := H.front (c := oN fn vn x.f_Net); have H := H.front (c := wB g3 (wX x u0 p0 p2 q0 q2 q3 vn (.slice none 0 0))); have H := H.front (c := Ck.own sents [] [.slice none 0 0] [])
    refine loop_at (σ := Nat × Value × List Nat) (fun y => [(1, .pointer (some ⟨g1, 0, none⟩)), (2, .pointer (some ⟨g2, 0, none⟩)), (3, .pointer (some ⟨g3, 0, none⟩)), (6, .int .i64 (y.1 : Int))])
      (fun y w' => y.1 ≤ x.f_Sent.length ∧ Sep w.heap.size w w' [oS y.2.2 y.2.1 (x.f_Sent.take y.1), wB g3 (wX x u0 p0 p2 q0 q2 q3 vn y.2.1), oN fn vn x.f_Net, oB f0 u0 x.f_Seed, oP f3 x.f_Post p0 p2, oR f4 x.f_Reader q0 q2 q3, Ck.box g2 zW 39, wB g1 (wX x y0 y3 y4 y5 y6 y7 (.slice A8 x.f_Net.length c8) (.slice A9 x.f_Sent.length c9))]) (fun y => x.f_Sent.length - y.1) (0, .slice none 0 0, []) (vs trivial) ⟨Nat.zero_le _, H⟩ ?_
    rintro ⟨k, vs1, fs1⟩ s w6 ⟨hk, H⟩; dsimp only at hk H; refine vs ?_; refine x_ld H sc37 ?_; refine vs (ways ?_ ?_)
    · refine vh fun hlt => ?_
      have hk2 : k < x.f_Sent.length := by omega
      have hsm := hss.2 x.f_Sent[k] (List.getElem_mem hk2); refine x_ld H sc37 ?_; refine vs ?_; refine x_ele H sl37 rfl k hk2 ha6 rfl fun ad es hb hr hc => vs ?_; obtain ⟨X, hX⟩ : ∃ X, X = x.f_Sent[k] := ⟨_, rfl⟩; rw [← hX] at hr hsm; have hr9 := hr; obtain ⟨b2, b3, rfl, hx0, hx1, hx2, hx3⟩ := kSent_open hr; have oX := Kd.one _ hr9; have hxm := hsm; unfold smSent at hxm; refine x_lds st66 hc (Kd.len _ hr9) ?_; refine vs ?_; refine x_al H st66 fun g7 w7 H => vs ?_; refine x_sta H st66 (vs := [.string ⟨(X.f_Route).toArray⟩, .int .i64 X.f_Epoch, b2, b3]) (h1 := oX) fun w8 H => vs ?_; have H : Sep w.heap.size w w8 (Ck.box g7 [.string ⟨(X.f_Route).toArray⟩, .int .i64 X.f_Epoch, b2, b3] 66 :: _) := H; have J := Sep.start w8; refine fork_zdraw 16 w8.heap.size [] fun w9 hh hb9 => ?_; have J := J.go (hb9 _); have J3 := J; refine restz_pre [(0, true), (1, true), (2, true), (3, true), (4, true), (5, true), (7, true), (8, true), (11, true), (12, true)] 9 ?_; refine vs ?_; refine q_ldB H J3 sc37 ?_; refine vs ?_; refine q_ldB H J3 sc9 ?_; refine vs ?_; refine q_ldB H J3 sc3 ?_; refine vs ?_; refine q_ldB H J3 sc22 ?_; refine vs ?_; refine q_ldB H J3 sc22 ?_; refine vs ?_; refine restz_fork 6 10 8 ?_ ?_
      · refine vs ?_
        refine x_emp J pl_u8 sl22 fun ga wb J => vs ?_; refine ⟨kept_base J3 J, ?_⟩; refine restz_fork 9 10 7 ?_ ?_
        · refine vs ?_
          have J := J.front (c := oB [ga] (.slice (some ⟨ga, 0, none⟩) 0 0) []); refine x_app (l := []) J pl_u8 sl22 (J.rd (H.rd hx2)) ?_ ?_ (fun fb rb wc J => vs ?_)
          · simp only [List.length_nil]; omega
          · simp only [List.length_nil]; omega
          rw [List.nil_append] at J; refine ⟨kept_base J3 J, ?_⟩; obtain ⟨Ab, cb, rfl, _⟩ := sl_open (J.ow (bytes 5) fb [rb] X.f_Note); refine restz_pre [(10, false), (13, false), (14, true), (15, false)] 3 ?_; refine vs ?_; refine x_emp J pl_u8 sl22 fun gd wb J => vs ?_; refine ⟨kept_base J3 J, ?_⟩; have J := J.front (c := oB [gd] (.slice (some ⟨gd, 0, none⟩) 0 0) []); refine x_app (l := []) J pl_u8 sl22 (J.rd (H.rd hx3)) ?_ ?_ (fun fd rd wc J => vs ?_)
          · simp only [List.length_nil]; omega
          · simp only [List.length_nil]; omega
          rw [List.nil_append] at J; refine ⟨kept_base J3 J, ?_⟩; obtain ⟨Ad, cd, rfl, _⟩ := sl_open (J.ow (bytes 5) fd [rd] X.f_Bytes); refine q_bld bl66 [.string ⟨(X.f_Route).toArray⟩, .int .i64 X.f_Epoch, .slice Ab X.f_Note.length cb, .slice Ad X.f_Bytes.length cd] ?_ (by kernel_rfl); refine vs ?_; have J := J.front (c := oB fd (.slice Ad X.f_Bytes.length cd) X.f_Bytes); have J := J.front (c := oB fb (.slice Ab X.f_Note.length cb) X.f_Note); obtain ⟨fw, J⟩ := ownSent X J hx0 hx1; refine x_lst1 sl37 J rfl rfl fun f6 v6 wd J => vs ?_; refine ⟨kept_base J3 J, ?_⟩; refine restz_late [16, 17, 18] ?_; have H := H.join J; simp only [List.cons_append, List.nil_append] at H; have H := H.front (c := oS fs1 vs1 (x.f_Sent.take k)); have H := H.front (c := Ck.own sents f6 [v6] [X]); refine dl_cons ⟨_, rfl, vs ?_⟩; refine x_appO sl37 H rfl ?_ ?_ fun f7 v7 we H => ?_
          · simp only [List.length_take, List.length_cons, List.length_nil]; omega
          · simp only [List.length_take, List.length_cons, List.length_nil]; omega
          have o7 := one1 H (.head _); refine dl_cons ⟨_, rfl, vs ?_⟩; refine dl_cons ⟨_, rfl, vs ?_⟩; refine x_st H sc37 (h1 := o7) fun wf H => ?_; refine dl_nil (vs ?_); have e7 : x.f_Sent.take k ++ [X] = x.f_Sent.take (k + 1) := by rw [List.take_succ_eq_append_getElem hk2, hX]
          rw [e7] at H; have H := H.front (c := wB g1 (wX x y0 y3 y4 y5 y6 y7 (.slice A8 x.f_Net.length c8) (.slice A9 x.f_Sent.length c9))); have H := H.front (c := Ck.box g2 zW 39); have H := H.front (c := oR f4 x.f_Reader q0 q2 q3); have H := H.front (c := oP f3 x.f_Post p0 p2); have H := H.front (c := oB f0 u0 x.f_Seed); have H := H.front (c := oN fn vn x.f_Net); have H := H.front (c := wB g3 (wX x u0 p0 p2 q0 q2 q3 vn v7)); have H := H.front (c := oS f7 v7 (x.f_Sent.take (k + 1))); refine ⟨(k + 1, v7, f7), i64_eq (by show w64 ((k : Int) + 1) = ((k + 1 : Nat) : Int); unfold w64; omega), ⟨hk2, ?_⟩, by show x.f_Sent.length - (k + 1) < x.f_Sent.length - k; omega⟩; exact Sep.left (L := [_, _, _, _, _, _, _, _]) H
        · refine vs ?_
          refine x_emp J pl_u8 sl22 fun gd wb J => vs ?_; refine ⟨kept_base J3 J, ?_⟩; refine restz_pre [(9, false), (13, false), (14, true), (15, false)] 3 ?_; refine vs ?_; have J := J.front (c := oB [ga] (.slice (some ⟨ga, 0, none⟩) 0 0) []); refine x_app (l := []) J pl_u8 sl22 (J.rd (H.rd hx2)) ?_ ?_ (fun fb rb wc J => vs ?_)
          · simp only [List.length_nil]; omega
          · simp only [List.length_nil]; omega
          rw [List.nil_append] at J; refine ⟨kept_base J3 J, ?_⟩; obtain ⟨Ab, cb, rfl, _⟩ := sl_open (J.ow (bytes 5) fb [rb] X.f_Note); have J := J.front (c := oB [gd] (.slice (some ⟨gd, 0, none⟩) 0 0) []); refine x_app (l := []) J pl_u8 sl22 (J.rd (H.rd hx3)) ?_ ?_ (fun fd rd wc J => vs ?_)
          · simp only [List.length_nil]; omega
          · simp only [List.length_nil]; omega
          rw [List.nil_append] at J; refine ⟨kept_base J3 J, ?_⟩; obtain ⟨Ad, cd, rfl, _⟩ := sl_open (J.ow (bytes 5) fd [rd] X.f_Bytes); refine q_bld bl66 [.string ⟨(X.f_Route).toArray⟩, .int .i64 X.f_Epoch, .slice Ab X.f_Note.length cb, .slice Ad X.f_Bytes.length cd] ?_ (by kernel_rfl); refine vs ?_; have J := J.front (c := oB fd (.slice Ad X.f_Bytes.length cd) X.f_Bytes); have J := J.front (c := oB fb (.slice Ab X.f_Note.length cb) X.f_Note); obtain ⟨fw, J⟩ := ownSent X J hx0 hx1; refine x_lst1 sl37 J rfl rfl fun f6 v6 wd J => vs ?_; refine ⟨kept_base J3 J, ?_⟩; refine restz_late [16, 17, 18] ?_; have H := H.join J; simp only [List.cons_append, List.nil_append] at H; have H := H.front (c := oS fs1 vs1 (x.f_Sent.take k)); have H := H.front (c := Ck.own sents f6 [v6] [X]); refine dl_cons ⟨_, rfl, vs ?_⟩; refine x_appO sl37 H rfl ?_ ?_ fun f7 v7 we H => ?_
          · simp only [List.length_take, List.length_cons, List.length_nil]; omega
          · simp only [List.length_take, List.length_cons, List.length_nil]; omega
          have o7 := one1 H (.head _); refine dl_cons ⟨_, rfl, vs ?_⟩; refine dl_cons ⟨_, rfl, vs ?_⟩; refine x_st H sc37 (h1 := o7) fun wf H => ?_; refine dl_nil (vs ?_); have e7 : x.f_Sent.take k ++ [X] = x.f_Sent.take (k + 1) := by rw [List.take_succ_eq_append_getElem hk2, hX]
          rw [e7] at H; have H := H.front (c := wB g1 (wX x y0 y3 y4 y5 y6 y7 (.slice A8 x.f_Net.length c8) (.slice A9 x.f_Sent.length c9))); have H := H.front (c := Ck.box g2 zW 39); have H := H.front (c := oR f4 x.f_Reader q0 q2 q3); have H := H.front (c := oP f3 x.f_Post p0 p2); have H := H.front (c := oB f0 u0 x.f_Seed); have H := H.front (c := oN fn vn x.f_Net); have H := H.front (c := wB g3 (wX x u0 p0 p2 q0 q2 q3 vn v7)); have H := H.front (c := oS f7 v7 (x.f_Sent.take (k + 1))); refine ⟨(k + 1, v7, f7), i64_eq (by show w64 ((k : Int) + 1) = ((k + 1 : Nat) : Int); unfold w64; omega), ⟨hk2, ?_⟩, by show x.f_Sent.length - (k + 1) < x.f_Sent.length - k; omega⟩; exact Sep.left (L := [_, _, _, _, _, _, _, _]) H
      · refine vs ?_
        refine x_emp J pl_u8 sl22 fun gd wb J => vs ?_; refine ⟨kept_base J3 J, ?_⟩; refine restz_pre [(6, false), (9, false), (13, false), (14, true), (15, false)] 3 ?_; refine vs ?_; refine x_emp J pl_u8 sl22 fun ga wb J => vs ?_; refine ⟨kept_base J3 J, ?_⟩; have J := J.front (c := oB [ga] (.slice (some ⟨ga, 0, none⟩) 0 0) []); refine x_app (l := []) J pl_u8 sl22 (J.rd (H.rd hx2)) ?_ ?_ (fun fb rb wc J => vs ?_)
        · simp only [List.length_nil]; omega
        · simp only [List.length_nil]; omega
        rw [List.nil_append] at J; refine ⟨kept_base J3 J, ?_⟩; obtain ⟨Ab, cb, rfl, _⟩ := sl_open (J.ow (bytes 5) fb [rb] X.f_Note); have J := J.front (c := oB [gd] (.slice (some ⟨gd, 0, none⟩) 0 0) []); refine x_app (l := []) J pl_u8 sl22 (J.rd (H.rd hx3)) ?_ ?_ (fun fd rd wc J => vs ?_)
        · simp only [List.length_nil]; omega
        · simp only [List.length_nil]; omega
        rw [List.nil_append] at J; refine ⟨kept_base J3 J, ?_⟩; obtain ⟨Ad, cd, rfl, _⟩ := sl_open (J.ow (bytes 5) fd [rd] X.f_Bytes); refine q_bld bl66 [.string ⟨(X.f_Route).toArray⟩, .int .i64 X.f_Epoch, .slice Ab X.f_Note.length cb, .slice Ad X.f_Bytes.length cd] ?_ (by kernel_rfl); refine vs ?_; have J := J.front (c := oB fd (.slice Ad X.f_Bytes.length cd) X.f_Bytes); have J := J.front (c := oB fb (.slice Ab X.f_Note.length cb) X.f_Note); obtain ⟨fw, J⟩ := ownSent X J hx0 hx1; refine x_lst1 sl37 J rfl rfl fun f6 v6 wd J => vs ?_; refine ⟨kept_base J3 J, ?_⟩; refine restz_late [16, 17, 18] ?_; have H := H.join J; simp only [List.cons_append, List.nil_append] at H; have H := H.front (c := oS fs1 vs1 (x.f_Sent.take k)); have H := H.front (c := Ck.own sents f6 [v6] [X]); refine dl_cons ⟨_, rfl, vs ?_⟩; refine x_appO sl37 H rfl ?_ ?_ fun f7 v7 we H => ?_
        · simp only [List.length_take, List.length_cons, List.length_nil]; omega
        · simp only [List.length_take, List.length_cons, List.length_nil]; omega
        have o7 := one1 H (.head _); refine dl_cons ⟨_, rfl, vs ?_⟩; refine dl_cons ⟨_, rfl, vs ?_⟩; refine x_st H sc37 (h1 := o7) fun wf H => ?_; refine dl_nil (vs ?_); have e7 : x.f_Sent.take k ++ [X] = x.f_Sent.take (k + 1) := by rw [List.take_succ_eq_append_getElem hk2, hX]
        rw [e7] at H; have H := H.front (c := wB g1 (wX x y0 y3 y4 y5 y6 y7 (.slice A8 x.f_Net.length c8) (.slice A9 x.f_Sent.length c9))); have H := H.front (c := Ck.box g2 zW 39); have H := H.front (c := oR f4 x.f_Reader q0 q2 q3); have H := H.front (c := oP f3 x.f_Post p0 p2); have H := H.front (c := oB f0 u0 x.f_Seed); have H := H.front (c := oN fn vn x.f_Net); have H := H.front (c := wB g3 (wX x u0 p0 p2 q0 q2 q3 vn v7)); have H := H.front (c := oS f7 v7 (x.f_Sent.take (k + 1))); refine ⟨(k + 1, v7, f7), i64_eq (by show w64 ((k : Int) + 1) = ((k + 1 : Nat) : Int); unfold w64; omega), ⟨hk2, ?_⟩, by show x.f_Sent.length - (k + 1) < x.f_Sent.length - k; omega⟩; exact Sep.left (L := [_, _, _, _, _, _, _, _]) H
    · refine vh fun hlt => ?_
      obtain rfl : k = x.f_Sent.length := by omega
      rw [List.take_length] at H; have os := one1 H (.head _); refine x_lda H st39 ?_; refine vs ?_; refine x_sta H st39 (vs := (wX x u0 p0 p2 q0 q2 q3 vn vs1)) (h1 := one13w o1 o2 o3 o4 o5 o6 on os) fun w9 H => vs ?_; have hres := res_cell H (g := g2) (cs := (wX x u0 p0 p2 q0 q2 q3 vn vs1)) st39; have H := H.front (c := oS fs1 vs1 x.f_Sent); have H := H.front (c := oN fn vn x.f_Net); have H := H.front (c := oR f4 x.f_Reader q0 q2 q3); have H := H.front (c := oP f3 x.f_Post p0 p2); have H := H.front (c := oB f0 u0 x.f_Seed); obtain ⟨fp, H⟩ := ownWorld x H h1 h2; exact ⟨_, _, rfl, hres, _, fp, rfl, H.head⟩
def WOut (n : Nat) (w0 : World) (L : List Ck) (m : Nat) (r : Value) (w' : World) : Prop := ∃ (cs' : List Value) (fp : List Nat) (y : MWorld) (code : Int), r = .tuple #[.agg cs'.toArray, .int .i64 code] ∧ smWorld y ∧ y.f_Sent.length + y.f_Net.length ≤ m ∧ Sep n w0 w' (Ck.own kWorld fp cs' y :: L)
theorem wout {n : Nat} {w0 w : World} {L : List Ck} {m : Nat} {fp : List Nat} {cs' : List Value} (y : MWorld) (code : Int) (hs : smWorld y) (hk : y.f_Sent.length + y.f_Net.length ≤ m) (H : Sep n w0 w (Ck.own kWorld fp cs' y :: L)) : WOut n w0 L m (.tuple #[.agg cs'.toArray, .int .i64 code]) w := ⟨cs', fp, y, code, rfl, hs, hk, H⟩
theorem kW_rd {w : World} {n : Nat} {v0 p0 p2 q0 q2 q3 v5 v6 : Value} {x : MWorld} (h : kWorld.rd w n [v0, .int .i64 x.f_Count, .int .i64 x.f_Known, p0, .int .i64 x.f_Post.f_Time, p2, .int .i64 x.f_Post.f_Sure, q0, .int .i64 x.f_Reader.f_Epoch, q2, q3, v5, v6] x) :
    (bytes 5).rd w n [v0] x.f_Seed ∧ kPost.rd w n [p0, .int .i64 x.f_Post.f_Time, p2, .int .i64 x.f_Post.f_Sure] x.f_Post ∧ kReader.rd w n [q0, .int .i64 x.f_Reader.f_Epoch, q2, q3] x.f_Reader ∧ wires.rd w n [v5] x.f_Net ∧ sents.rd w n [v6] x.f_Sent := by
  obtain ⟨a0, a1, a2, a3, a4, a5, a6, a7, e, h0, _, _, h3, h4, h5, h6⟩ := kWorld_open h; simp only [List.cons.injEq, true_and, and_true] at e; obtain ⟨rfl, rfl, rfl, rfl, rfl, rfl, rfl, rfl⟩ := e; exact ⟨h0, h3, h4, h5, h6⟩
theorem kR_rd {w : World} {n : Nat} {q0 q2 q3 : Value} {x : MReader} (h : kReader.rd w n [q0, .int .i64 x.f_Epoch, q2, q3] x) : (bytes 5).rd w n [q0] x.f_Seed := by
  obtain ⟨a0, a1, a2, e, h0, _⟩ := kReader_open h; simp only [List.cons.injEq, true_and, and_true] at e; obtain ⟨rfl, rfl, rfl⟩ := e; exact h0
theorem kI_rd {w : World} {n : Nat} {v : Value} {x : MItem} (h : kItem.rd w n [.string ⟨(x.f_Route).toArray⟩, .int .i64 x.f_Topic, .int .i64 x.f_Due, v] x) : (bytes 5).rd w n [v] x.f_Bytes := by
  obtain ⟨a0, e, _, _, _, h0⟩ := kItem_open h; simp only [List.cons.injEq, true_and, and_true] at e; subst e; exact h0
theorem apartW {n : Nat} {w0 w : World} {L : List Ck} {fp : List Nat} {v0 p0 p2 q0 q2 q3 v5 v6 : Value} {x : MWorld} (H : Sep n w0 w (Ck.own kWorld fp [v0, .int .i64 x.f_Count, .int .i64 x.f_Known, p0, .int .i64 x.f_Post.f_Time, p2, .int .i64 x.f_Post.f_Sure, q0, .int .i64 x.f_Reader.f_Epoch, q2, q3, v5, v6] x :: L)) :
    ∃ f0 f3 f4 f5 f6, Sep n w0 w (Ck.own (bytes 5) f0 [v0] x.f_Seed :: Ck.own kPost f3 [p0, .int .i64 x.f_Post.f_Time, p2, .int .i64 x.f_Post.f_Sure] x.f_Post :: Ck.own kReader f4 [q0, .int .i64 x.f_Reader.f_Epoch, q2, q3] x.f_Reader :: Ck.own wires f5 [v5] x.f_Net :: Ck.own sents f6 [v6] x.f_Sent :: L) := by
  obtain ⟨a0, a1, a2, a3, a4, a5, a6, a7, f0, f3, f4, f5, f6, e, _, _, H⟩ := apartWorld H; simp only [List.cons.injEq, true_and, and_true] at e; obtain ⟨rfl, rfl, rfl, rfl, rfl, rfl, rfl, rfl⟩ := e; exact ⟨f0, f3, f4, f5, f6, H⟩
theorem kW_rng {w : World} {n : Nat} {cs : List Value} {x : MWorld} (h : kWorld.rd w n cs x) : (-9223372036854775808 ≤ x.f_Count ∧ x.f_Count < 9223372036854775808) ∧ (-9223372036854775808 ≤ x.f_Known ∧ x.f_Known < 9223372036854775808) := by
  obtain ⟨a0, a1, a2, a3, a4, a5, a6, a7, e, _, h1, h2, _⟩ := kWorld_open h; exact ⟨h1, h2⟩
theorem smWires_app {l : List MWire} {x : MWire} (h : smWireS l) (hl : l.length < 1048576) (hx : smWire x) : smWireS (l ++ [x]) := by
  refine ⟨by rw [List.length_append]; simp only [List.length_cons, List.length_nil]; omega, fun y hy => ?_⟩
  rcases List.mem_append.1 hy with hy | hy
  · exact h.2 y hy
  · rw [List.mem_singleton.1 hy]; exact hx
theorem smSents_app {l : List MSent} {x : MSent} (h : smSentS l) (hl : l.length < 1048576) (hx : smSent x) : smSentS (l ++ [x]) := by
  refine ⟨by rw [List.length_append]; simp only [List.length_cons, List.length_nil]; omega, fun y hy => ?_⟩
  rcases List.mem_append.1 hy with hy | hy
  · exact h.2 y hy
  · rw [List.mem_singleton.1 hy]; exact hx
structure ArT (P : Program) (t e : TypeId) (sz : Nat) : Prop where
  un : P.underlying t = some (.array sz e)
  inf : ∃ i, P.info? t = some i ∧ i.size = sz ∧ i.zero = some (.agg (Array.replicate sz (.int .i64 0)))
  el : ∃ i, P.info? e = some i ∧ i.size = 1
theorem ArT.of {P : Program} {t e : TypeId} {sz : Nat} (h : P.underlying t = some (.array sz e)) (hi : (P.info? t).map (fun i => (i.zero, i.size)) = some (some (.agg (Array.replicate sz (.int .i64 0))), sz)) (he : (P.info? e).map (fun i => i.size) = some 1) : ArT P t e sz := by
  refine ⟨h, ?_, ?_⟩
  · cases hq : P.info? t with
    | none => rw [hq] at hi; cases hi
    | some i => rw [hq] at hi; simp only [Option.map_some, Option.some.injEq, Prod.mk.injEq] at hi; exact ⟨i, rfl, hi.2, hi.1⟩
  · cases hq : P.info? e with
    | none => rw [hq] at he; cases he
    | some i => rw [hq] at he; simp only [Option.map_some, Option.some.injEq] at he; exact ⟨i, rfl, he⟩
def aI (l : List Int) : List Value := l.map fun x => .int .i64 x
theorem aI_len (l : List Int) : (aI l).length = l.length := List.length_map ..
theorem aI_get {l : List Int} {k : Nat} (h : k < l.length) : (aI l)[k]? = some (.int .i64 (l.getD k 0)) := by
  unfold aI; rw [List.getElem?_map, List.getD_eq_getElem?_getD, List.getElem?_eq_getElem h]; rfl
theorem aI_set (l : List Int) (k : Nat) (x : Int) : (aI l).set k (.int .i64 x) = aI (l.set k x) := by unfold aI; rw [List.map_set]
theorem aI_one {l : List Int} : ∀ v ∈ aI l, v.oneCell' = true := by
  intro v hv; obtain ⟨x, _, rfl⟩ := List.mem_map.1 hv
  rfl
section
variable {P : Program} {n : Nat} {w0 w : World} {L : List Ck} {K : Value → World → Prop} {tg : Tg K} {t e : TypeId} {sz : Nat}
theorem x_alA (H : Sep n w0 w L) (HS : ArT P t e sz) (h : ∀ g w', Sep n w0 w' (Ck.box g (aI (List.replicate sz 0)) t :: L) → K (.pointer (some ⟨g, 0, none⟩)) w') : VS P K tg (Instr.alloc t true (.tuple #[])) w := by
  obtain ⟨i, hi, _, hz⟩ := HS.inf; unfold VS; rw [v_alloc hi hz]; have := H.fresh (aI (List.replicate sz 0)) t; refine h _ _ ?_; have e : (Array.replicate sz (Value.int .i64 0)) = (aI (List.replicate sz 0)).toArray := by unfold aI; simp
  rw [e]; exact this
theorem x_ixA (HS : ArT P t e sz) {g : Nat} {kk : IntKind} {i : Int} (k : Nat) (hk : k < sz) (hi : i = (k : Int)) (h2 : 2 ≤ sz) (h : K (.pointer (some ⟨g, k, none⟩)) w) : VS P K tg (Instr.indexAt t (.pointer (some ⟨g, 0, none⟩)) (.int kk i)) w := by
  subst hi; obtain ⟨inf, he, hs⟩ := HS.el; refine vS_run (v := .pointer (some ⟨g, k, none⟩)) ?_ h; have h1 : (k : Int) < (sz : Int) := by omega
  simp [Instr.indexAt, asIntOf, run_underlying' HS.un, Instr.sureAddr, run_sizeOf' he hs, hk, Addr.add]
  all_goals first | done | (intro h; omega)
theorem x_ldI (H : Sep n w0 w L) {g k : Nat} {l : List Int} {z : Value} (HS : ScT P e z) (hk : k < l.length) (h : K (.int .i64 (l.getD k 0)) w) (hm : Ck.box g (aI l) t ∈ L := by repeat (first | exact List.mem_cons_self | apply List.mem_cons_of_mem)) :
    VS P K tg (Instr.loadAt e (.pointer (some ⟨g, k, none⟩))) w := x_load HS ((H.cell hm k).trans (aI_get hk)) h
theorem x_stI (H : Sep n w0 w L) {g k : Nat} {l : List Int} {x : Int} {z : Value} {f : Ck → List Ck} (HS : ScT P e z) (hk : k < l.length) (h : ∀ w', Sep n w0 w' (f (Ck.box g (aI (l.set k x)) t)) → K undef w')
    (hm : Hole (Ck.box g (aI l) t) L f := by repeat (first | exact Hole.here | apply Hole.there)) : VU P K tg (Instr.storeAt e (.pointer (some ⟨g, k, none⟩)) (.int .i64 x)) w :=
  x_st H HS (fun w' H' => h w' (by rw [← aI_set]; exact H')) hm (by rw [aI_len]; exact hk) rfl
theorem x_stU (H : Sep n w0 w L) {g k : Nat} {l : List Int} {x : Int} {z : Value} {f : Ck → List Ck} (HS : ScT P e z) (hk : k < l.length) (h : ∀ w' l', l'.length = l.length → Sep n w0 w' (f (Ck.box g (aI l') t)) → K undef w')
    (hm : Hole (Ck.box g (aI l) t) L f := by repeat (first | exact Hole.here | apply Hole.there)) : VU P K tg (Instr.storeAt e (.pointer (some ⟨g, k, none⟩)) (.int .i64 x)) w :=
  x_stI H HS hk (fun w' H' => h w' (l.set k x) (List.length_set ..) H') hm
theorem run_ldaA (HS : ArT P t e sz) {a : Addr} {cs : List Value} (hl : cs.length = sz) (h : ∀ j v, cs[j]? = some v → w.cell? (a.add j) = some v) : (loadVar t a).run P w = .ok (.agg cs.toArray) w := by
  obtain ⟨inf, hi, hs, _⟩ := HS.inf; have hc := run_loadCells_list (P := P) w a cs h; rw [hl] at hc; have ha : (isAgg t).run P w = .ok true w := by simp [isAgg, run_underlying' HS.un]
  simp [loadVar, ha, run_sizeOf' hi hs, hc]
theorem x_ldaA (H : Sep n w0 w L) {g : Nat} {l : List Int} {u : TypeId} (HS : ArT P t e sz) (hl : l.length = sz) (h : K (.agg (aI l).toArray) w) (hm : Ck.box g (aI l) u ∈ L := by repeat (first | exact List.mem_cons_self | apply List.mem_cons_of_mem)) :
    VS P K tg (Instr.loadAt t (.pointer (some ⟨g, 0, none⟩))) w := by
  refine vS_run (v := .agg (aI l).toArray) ?_ h; have := run_ldaA HS (w := w) (a := ⟨g, 0, none⟩) (cs := aI l) (by rw [aI_len]; exact hl) (fun j v hj => by rw [Kd.add_at, Nat.zero_add, H.cell hm]; exact hj)
  simp [Instr.loadAt, Instr.sureAddr, this]
theorem x_staA (H : Sep n w0 w L) {g : Nat} {cs : List Value} {l : List Int} {u : TypeId} {f : Ck → List Ck} (HS : ArT P t e sz) (hl : l.length = sz) (hc : cs.length = sz) (h : ∀ w', Sep n w0 w' (f (Ck.box g (aI l) u)) → K undef w')
    (hm : Hole (Ck.box g cs u) L f := by repeat (first | exact Hole.here | apply Hole.there)) : VU P K tg (Instr.storeAt t (.pointer (some ⟨g, 0, none⟩)) (.agg (aI l).toArray)) w := by
  have hb : w.heap[g]? = some (.cells cs.toArray u (0, 0)) := H.ok _ hm.mem; obtain ⟨inf, hi, hs, _⟩ := HS.inf; have hst := run_storeCells_at P g 0 u (aI l) 0 cs.toArray w hb (by simp [aI_len, hl, hc]) aI_one
  have e1 : cs.take 0 ++ aI l ++ cs.drop (0 + (aI l).length) = aI l := by
    rw [List.take_zero, List.nil_append, Nat.zero_add, aI_len, hl, ← hc, List.drop_length, List.append_nil]
  rw [← Nat.zero_add 0, Nat.add_zero] at hst; unfold VU; refine vU_run (u := ()) (w' := w.setRow g ((cs.take 0 ++ aI l ++ cs.drop (0 + (aI l).length)).toArray)) ?_ (h _ (H.put hm ?_ ?_ (by simp [Ck.box]) (fun b hb => ?_)))
  · simp only [Nat.add_zero] at hst
    simp [Instr.storeAt, Instr.sureAddr, storeVar, Value.cells, run_sizeOf' hi hs, hl, aI_len, hst]
  · exact ⟨rfl, rfl, rfl, by simp [World.setRow], fun k _ hk => setRow_other w g k _ (fun e => hk (by simp [Ck.box, e]))⟩
  · rw [e1]; exact setRow_heap w g _ _ u _ hb
  · simp only [Ck.box, List.mem_singleton] at hb ⊢
    refine ⟨.inl hb, ?_⟩; have := H.lt hm.mem
    simp [World.setRow]; omega
theorem x_staU (H : Sep n w0 w L) {g : Nat} {l0 l : List Int} {u : TypeId} {f : Ck → List Ck} (HS : ArT P t e sz) (hl : l.length = sz) (hc : l0.length = sz) (h : ∀ w', Sep n w0 w' (f (Ck.box g (aI l) u)) → K undef w')
    (hm : Hole (Ck.box g (aI l0) u) L f := by repeat (first | exact Hole.here | apply Hole.there)) : VU P K tg (Instr.storeAt t (.pointer (some ⟨g, 0, none⟩)) (.agg (aI l).toArray)) w :=
  x_staA H HS hl (by rw [aI_len]; exact hc) h hm
theorem res_cellA (H : Sep n w0 w L) {g : Nat} {l : List Int} {u : TypeId} (HS : ArT P t e sz) (hl : l.length = sz) (hm : Ck.box g (aI l) u ∈ L := by repeat (first | exact List.mem_cons_self | apply List.mem_cons_of_mem)) : (loadVar t ⟨g, 0, none⟩).run P w = .ok (.agg (aI l).toArray) w :=
  run_ldaA HS (by rw [aI_len]; exact hl) (fun j v hj => by rw [Kd.add_at, Nat.zero_add, H.cell hm]; exact hj)
end
section
variable {P : Program} {n m : Nat} {w0 w w1 : World} {L : List Ck} {K : Value → Prop} {G : List (Nat × Nat)} {tg : Tg (m, G, w1, K)} {t e : TypeId} {sz : Nat}
theorem q_ixA (HS : ArT P t e sz) {g : Nat} {kk : IntKind} {i : Int} (k : Nat) (hk : k < sz) (hi : i = (k : Int)) (h2 : 2 ≤ sz) (h : K (.pointer (some ⟨g, k, none⟩))) : QS P m G w1 K tg (Instr.indexAt t (.pointer (some ⟨g, 0, none⟩)) (.int kk i)) := by
  subst hi; obtain ⟨inf, he, hs⟩ := HS.el; refine QS_of (fun w _ => ?_) h
  simp [Instr.indexAt, asIntOf, run_underlying' HS.un, Instr.sureAddr, run_sizeOf' he hs, hk, Addr.add]
  all_goals first | done | (intro h; omega)
end
section
variable {P : Program} {n : Nat} {w0 w : World} {L : List Ck} {K : Value → Prop} {t e : TypeId}
theorem q_ldaA {tg : Tg (w.heap.size, ([] : List (Nat × Nat)), w, K)} {sz : Nat} (H : Sep n w0 w L) {g : Nat} {l : List Int} {u : TypeId} (HS : ArT P t e sz) (hl : l.length = sz) (h : K (.agg (aI l).toArray)) (hm : Ck.box g (aI l) u ∈ L := by repeat (first | exact List.mem_cons_self | apply List.mem_cons_of_mem)) :
    QS P w.heap.size [] w K tg (Instr.loadAt t (.pointer (some ⟨g, 0, none⟩))) := by
  refine QS_of (fun w' hw => ?_) h; have hlt := H.lt hm
  have := run_ldaA HS (w := w') (a := ⟨g, 0, none⟩) (cs := aI l) (by rw [aI_len]; exact hl) (fun j v hj => by
    have := hw.cell (a := ⟨g, j, none⟩) hlt (fun _ h => by cases h)
    rw [Kd.add_at, Nat.zero_add, this, H.cell hm]; exact hj)
  simp [Instr.loadAt, Instr.sureAddr, this]
theorem q_ldI {tg : Tg (w.heap.size, ([] : List (Nat × Nat)), w, K)} (H : Sep n w0 w L) {g k : Nat} {l : List Int} {z : Value} (HS : ScT P e z) (hk : k < l.length) (h : K (.int .i64 (l.getD k 0))) (hm : Ck.box g (aI l) t ∈ L := by repeat (first | exact List.mem_cons_self | apply List.mem_cons_of_mem)) :
    QS P w.heap.size [] w K tg (Instr.loadAt e (.pointer (some ⟨g, k, none⟩))) := q_ld H HS h hm (aI_get hk)
end
theorem ar16 : ArT Tryz.prog 175 3 16 := .of Tryz.underlying175 (by kernel_rfl) (by kernel_rfl)
theorem ar31 : ArT Tryz.prog 189 3 31 := .of Tryz.underlying189 (by kernel_rfl) (by kernel_rfl)
theorem rep16 : (aI (List.replicate 16 0)).length = 16 := by rw [aI_len, List.length_replicate]
theorem len16 : (List.replicate 16 (0 : Int)).length = 16 := List.length_replicate
theorem up_16 {k : Nat} (h : k < 16) : w64 ((k : Int) + 1) = ((k + 1 : Nat) : Int) := by unfold w64; omega
theorem ad_16 {k j : Nat} (h : k < 16) (h2 : j < 16) : w64 ((k : Int) + (j : Int)) = ((k + j : Nat) : Int) := by unfold w64; omega
theorem up_x {k : Nat} (h : k < 16) : w64 ((k : Int) + 16) = ((k + 16 : Nat) : Int) := by unfold w64; omega
theorem db_16 {k : Nat} (h : k < 16) : w64 (2 * (k : Int)) = ((2 * k : Nat) : Int) := by unfold w64; omega
theorem db1_16 {k : Nat} (h : k < 16) : w64 (w64 (2 * (k : Int)) + 1) = ((2 * k + 1 : Nat) : Int) := by rw [db_16 h]; unfold w64; omega
theorem less_16 {k : Nat} (h : k < 16) : 16 - (k + 1) < 16 - k := by omega
theorem l8Add_ok (w : World) (a b : List Int) (ha : a.length = 16) (hb : b.length = 16) :
    ACalls Tryz.prog 141 #[.agg (aI a).toArray, .agg (aI b).toArray] w fun r w' => ∃ c : List Int, r = .agg (aI c).toArray ∧ c.length = 16 ∧ Below w.heap.size w w' := by
  have H := Sep.start w; refine body_of follows Tryz.func141 rfl rfl _ rfl (by kernel_rfl) (vs ?_); refine x_bx H (aI a) fun g2 w1 H => vs ?_; refine x_bx H (aI b) fun g3 w2 H => vs ?_; refine x_alA H ar16 fun g4 w3 H => vs ?_
  refine loop_at (σ := Nat × List Int) (fun y => [(2, .pointer (some ⟨g2, 0, none⟩)), (3, .pointer (some ⟨g3, 0, none⟩)), (4, .pointer (some ⟨g4, 0, none⟩)), (5, .int .i64 (y.1 : Int))])
    (fun y w' => y.2.length = 16 ∧ Sep w.heap.size w w' [Ck.box g4 (aI (List.replicate 16 0)) 175, Ck.box g3 (aI b) 175, Ck.box g2 (aI y.2) 175]) (fun y => 16 - y.1) (0, a) (vs trivial) ⟨ha, H⟩ ?_
  rintro ⟨k, l⟩ s w4 ⟨hl, H⟩; dsimp only at hl H; refine vs (ways ?_ ?_)
  · refine vh fun hlt => ?_
    have hk : k < 16 := by omega
    refine draw_zat [(0, true), (1, true), (2, true), (3, true), (4, true), (5, true), (6, true), (7, true), (8, true)] 9 [9] [] fun w5 hh hb5 => vs ?_; have H := H.go (hb5 _); refine q_ixA ar16 k hk rfl (by decide) ?_; refine vs ?_; refine q_ldI (l := l) H sc3 (by omega) ?_; refine vs ?_; refine q_ixA ar16 k hk rfl (by decide) ?_; refine vs ?_; refine q_ldI (l := b) H sc3 (by omega) ?_; refine vs ?_; refine q_ixA ar16 k hk rfl (by decide) ?_; refine vs ?_; refine dl_cons ⟨_, rfl, vs ?_⟩; refine x_stU (l := l) H sc3 (by omega) fun w6 l2 hl2 H => ?_; refine dl_nil (vs ?_); exact ⟨(k + 1, l2), i64_eq (up_16 hk), ⟨hl2.trans hl, H⟩, less_16 hk⟩
  · refine vh fun hlt => ?_
    refine x_ldaA H ar16 hl ?_; refine vs ?_; refine x_staA H ar16 hl rep16 fun w6 H => vs ?_; exact ⟨_, _, rfl, res_cellA H ar16 hl, l, rfl, hl, H.bel⟩
theorem l8Sub_ok (w : World) (a b : List Int) (ha : a.length = 16) (hb : b.length = 16) :
    ACalls Tryz.prog 142 #[.agg (aI a).toArray, .agg (aI b).toArray] w fun r w' => ∃ c : List Int, r = .agg (aI c).toArray ∧ c.length = 16 ∧ Below w.heap.size w w' := by
  have H := Sep.start w; refine body_of follows Tryz.func142 rfl rfl _ rfl (by kernel_rfl) (vs ?_); refine x_bx H (aI a) fun g2 w1 H => vs ?_; refine x_bx H (aI b) fun g3 w2 H => vs ?_; refine x_alA H ar16 fun g4 w3 H => vs ?_
  refine loop_at (σ := Nat × List Int) (fun y => [(2, .pointer (some ⟨g2, 0, none⟩)), (3, .pointer (some ⟨g3, 0, none⟩)), (4, .pointer (some ⟨g4, 0, none⟩)), (5, .int .i64 (y.1 : Int))])
    (fun y w' => y.2.length = 16 ∧ Sep w.heap.size w w' [Ck.box g4 (aI (List.replicate 16 0)) 175, Ck.box g3 (aI b) 175, Ck.box g2 (aI y.2) 175]) (fun y => 16 - y.1) (0, a) (vs trivial) ⟨ha, H⟩ ?_
  rintro ⟨k, l⟩ s w4 ⟨hl, H⟩; dsimp only at hl H; refine vs (ways ?_ ?_)
  · refine vh fun hlt => ?_
    have hk : k < 16 := by omega
    refine draw_zat [(0, true), (1, true), (2, true), (3, true), (4, true), (5, true), (6, true), (7, true), (8, true)] 9 [9] [] fun w5 hh hb5 => vs ?_; have H := H.go (hb5 _); refine q_ixA ar16 k hk rfl (by decide) ?_; refine vs ?_; refine q_ldI (l := l) H sc3 (by omega) ?_; refine vs ?_; refine q_ixA ar16 k hk rfl (by decide) ?_; refine vs ?_; refine q_ldI (l := b) H sc3 (by omega) ?_; refine vs ?_; refine q_ixA ar16 k hk rfl (by decide) ?_; refine vs ?_; refine dl_cons ⟨_, rfl, vs ?_⟩; refine x_stU (l := l) H sc3 (by omega) fun w6 l2 hl2 H => ?_; refine dl_nil (vs ?_); exact ⟨(k + 1, l2), i64_eq (up_16 hk), ⟨hl2.trans hl, H⟩, less_16 hk⟩
  · refine vh fun hlt => ?_
    refine x_ldaA H ar16 hl ?_; refine vs ?_; refine x_staA H ar16 hl rep16 fun w6 H => vs ?_; exact ⟨_, _, rfl, res_cellA H ar16 hl, l, rfl, hl, H.bel⟩
theorem l8Of_ok (w : World) (v : Value) (b : List UInt8) (hv : (bytes 5).rd w w.heap.size [v] b) (hb : b.length = 32) :
    ACalls Tryz.prog 132 #[v] w fun r w' => ∃ c : List Int, r = .agg (aI c).toArray ∧ c.length = 16 ∧ Below w.heap.size w w' := by
  obtain ⟨A, c, rfl, hc1, hc2, ha⟩ := sl_open hv; have H := Sep.start w; refine body_of follows Tryz.func132 rfl rfl _ rfl (by kernel_rfl) (vs ?_); refine x_alA H ar16 fun g2 w1 H => vs ?_; refine x_alA H ar16 fun g3 w2 H => vs ?_
  refine loop_at (σ := Nat × List Int) (fun y => [(0, .slice A b.length c), (2, .pointer (some ⟨g2, 0, none⟩)), (3, .pointer (some ⟨g3, 0, none⟩)), (4, .int .i64 (y.1 : Int))])
    (fun y w' => y.2.length = 16 ∧ Sep w.heap.size w w' [Ck.box g3 (aI y.2) 175, Ck.box g2 (aI (List.replicate 16 0)) 175]) (fun y => 16 - y.1) (0, List.replicate 16 0) (vs trivial) ⟨len16, H⟩ ?_
  rintro ⟨k, l⟩ s w4 ⟨hl, H⟩; dsimp only at hl H; refine vs (ways ?_ ?_)
  · refine vh fun hlt => ?_
    have hk : k < 16 := by omega
    refine draw_zat [(0, true), (1, true), (2, true), (3, true), (4, true), (5, true), (6, true), (7, true), (8, true), (9, true), (10, true), (11, true), (12, true), (13, true), (14, true), (15, true), (16, true)] 17 [17] [] fun w5 hh hb5 => vs ?_; have H := H.go (hb5 _); refine q_elV pl_u8 sl22 (x := b[2 * k]'(by omega)) (2 * k) (ha.mono H.bel) (List.getElem?_eq_getElem _) (db_16 hk) rfl fun ad hd hc _ => ?_; refine vs ?_; refine qx_load sc5 hc (Nat.lt_of_lt_of_le hd H.ns) (by simp) ?_; refine vs ?_; refine q_elV pl_u8 sl22 (x := b[2 * k + 1]'(by omega)) (2 * k + 1) (ha.mono H.bel) (List.getElem?_eq_getElem _) (db1_16 hk) rfl fun ad hd hc _ => ?_; refine vs ?_; refine qx_load sc5 hc (Nat.lt_of_lt_of_le hd H.ns) (by simp) ?_; refine vs ?_; refine q_ixA ar16 k hk rfl (by decide) ?_; refine vs ?_; refine dl_cons ⟨_, rfl, vs ?_⟩; refine x_stU (l := l) H sc3 (by omega) fun w6 l2 hl2 H => ?_; refine dl_nil (vs ?_); exact ⟨(k + 1, l2), i64_eq (up_16 hk), ⟨hl2.trans hl, H⟩, less_16 hk⟩
  · refine vh fun hlt => ?_
    refine x_ixA ar16 15 (by decide) rfl (by decide) ?_; refine vs ?_; refine x_ldI (l := l) H sc3 (by omega) ?_; refine vs ?_; refine x_ixA ar16 15 (by decide) rfl (by decide) ?_; refine vs ?_; refine x_stU (l := l) H sc3 (by omega) fun w6 l2 hl2 H => vs ?_; refine x_ldaA H ar16 (hl2.trans hl) ?_; refine vs ?_; refine x_staA H ar16 (hl2.trans hl) rep16 fun w6 H => vs ?_; exact ⟨_, _, rfl, res_cellA H ar16 (hl2.trans hl), l2, rfl, hl2.trans hl, H.bel⟩
theorem l8Carry_ok (w : World) (a : List Int) (ha : a.length = 16) :
    ACalls Tryz.prog 156 #[.agg (aI a).toArray] w fun r w' => ∃ c : List Int, r = .agg (aI c).toArray ∧ c.length = 16 ∧ Below w.heap.size w w' := by
  have H := Sep.start w; refine body_of follows Tryz.func156 rfl rfl _ rfl (by kernel_rfl) (vs ?_); refine x_bx H (aI a) fun g1 w1 H => vs ?_; refine x_alA H ar16 fun g2 w2 H => vs ?_
  refine loop_at (σ := Nat × List Int) (fun y => [(1, .pointer (some ⟨g1, 0, none⟩)), (2, .pointer (some ⟨g2, 0, none⟩)), (3, .int .i64 (y.1 : Int))])
    (fun y w' => y.2.length = 16 ∧ Sep w.heap.size w w' [Ck.box g2 (aI (List.replicate 16 0)) 175, Ck.box g1 (aI y.2) 175]) (fun y => 16 - y.1) (0, a) (vs trivial) ⟨ha, H⟩ ?_
  rintro ⟨k, l⟩ s w4 ⟨hl, H⟩; dsimp only at hl H; refine vs (ways ?_ ?_)
  · refine vh fun hlt => ?_
    have hk : k < 16 := by omega
    refine x_ixA ar16 k hk rfl (by decide) ?_; refine vs ?_; refine x_ldI (l := l) H sc3 (by omega) ?_; refine vs ?_; refine x_ixA ar16 k hk rfl (by decide) ?_; refine vs ?_; refine x_stU (l := l) H sc3 (by omega) fun w6 l1 hl1 H => vs ?_; refine x_ixA ar16 k hk rfl (by decide) ?_; refine vs ?_; refine x_ldI (l := l1) H sc3 (by omega) ?_; refine vs ?_
    by_cases q : (k : Int) < 15
    · refine ve q ?_
      have hk1 : k + 1 < 16 := by omega
      refine x_ixA ar16 (k + 1) hk1 (up_16 hk) (by decide) ?_; refine vs ?_; refine x_ldI (l := l1) H sc3 (by omega) ?_; refine vs ?_; refine x_ixA ar16 (k + 1) hk1 (up_16 hk) (by decide) ?_; refine vs ?_; refine x_stU (l := l1) H sc3 (by omega) fun w6 l2 hl2 H => vs ?_; refine x_ixA ar16 k hk rfl (by decide) ?_; refine vs ?_; refine x_ldI (l := l2) H sc3 (by omega) ?_; refine vs ?_; refine x_ixA ar16 k hk rfl (by decide) ?_; refine vs ?_; refine x_stU (l := l2) H sc3 (by omega) fun w6 l3 hl3 H => vs ?_; exact ⟨(k + 1, l3), i64_eq (up_16 hk), ⟨by show l3.length = 16; omega, H⟩, less_16 hk⟩
    · refine ve q ?_
      refine x_ixA ar16 0 (by decide) rfl (by decide) ?_; refine vs ?_; refine x_ldI (l := l1) H sc3 (by omega) ?_; refine vs ?_; refine x_ixA ar16 0 (by decide) rfl (by decide) ?_; refine vs ?_; refine x_stU (l := l1) H sc3 (by omega) fun w6 l2 hl2 H => vs ?_; refine x_ixA ar16 k hk rfl (by decide) ?_; refine vs ?_; refine x_ldI (l := l2) H sc3 (by omega) ?_; refine vs ?_; refine x_ixA ar16 k hk rfl (by decide) ?_; refine vs ?_; refine x_stU (l := l2) H sc3 (by omega) fun w6 l3 hl3 H => vs ?_; exact ⟨(k + 1, l3), i64_eq (up_16 hk), ⟨by show l3.length = 16; omega, H⟩, less_16 hk⟩
  · refine vh fun hlt => ?_
    refine x_ldaA H ar16 hl ?_; refine vs ?_; refine x_staA H ar16 hl rep16 fun w6 H => vs ?_; exact ⟨_, _, rfl, res_cellA H ar16 hl, l, rfl, hl, H.bel⟩
theorem len31 : (List.replicate 31 (0 : Int)).length = 31 := List.length_replicate
theorem l8Mul_ok (w : World) (a b : List Int) (ha : a.length = 16) (hb : b.length = 16) :
    ACalls Tryz.prog 143 #[.agg (aI a).toArray, .agg (aI b).toArray] w fun r w' => ∃ c : List Int, r = .agg (aI c).toArray ∧ c.length = 16 ∧ Below w.heap.size w w' := by
  have H := Sep.start w; refine body_of follows Tryz.func143 rfl rfl _ rfl (by kernel_rfl) (vs ?_); refine x_bx H (aI a) fun g2 w1 H => vs ?_; refine x_bx H (aI b) fun g3 w2 H => vs ?_; refine x_alA H ar16 fun g4 w3 H => vs ?_; refine x_alA H ar31 fun g5 w4 H => vs ?_
  refine loop_at (σ := Nat × List Int) (fun y => [(2, .pointer (some ⟨g2, 0, none⟩)), (3, .pointer (some ⟨g3, 0, none⟩)), (4, .pointer (some ⟨g4, 0, none⟩)), (5, .pointer (some ⟨g5, 0, none⟩)), (6, .int .i64 (y.1 : Int))])
    (fun y w' => y.2.length = 31 ∧ Sep w.heap.size w w' [Ck.box g5 (aI y.2) 189, Ck.box g4 (aI (List.replicate 16 0)) 175, Ck.box g3 (aI b) 175, Ck.box g2 (aI a) 175]) (fun y => 16 - y.1) (0, List.replicate 31 0) (vs trivial) ⟨len31, H⟩ ?_
  rintro ⟨i, t⟩ s w5 ⟨ht, H⟩; dsimp only at ht H; refine vs (ways ?_ ?_)
  · refine vh fun hlt => ?_
    have hi : i < 16 := by omega
    refine loop_at (σ := Nat × List Int) (fun y => [(2, .pointer (some ⟨g2, 0, none⟩)), (3, .pointer (some ⟨g3, 0, none⟩)), (4, .pointer (some ⟨g4, 0, none⟩)), (5, .pointer (some ⟨g5, 0, none⟩)), (6, .int .i64 (i : Int)), (7, .int .i64 (y.1 : Int))])
      (fun y w' => y.2.length = 31 ∧ Sep w.heap.size w w' [Ck.box g5 (aI y.2) 189, Ck.box g4 (aI (List.replicate 16 0)) 175, Ck.box g3 (aI b) 175, Ck.box g2 (aI a) 175]) (fun y => 16 - y.1) (0, t) (vs trivial) ⟨ht, H⟩ ?_
    rintro ⟨j, t⟩ s w6 ⟨ht, H⟩; dsimp only at ht H; refine vs (ways ?_ ?_)
    · refine vh fun hlt2 => ?_
      have hj : j < 16 := by omega
      refine draw_zat [(0, true), (1, true), (2, true), (3, true), (4, true), (5, true), (6, true), (7, true), (8, true), (9, true), (10, true), (11, true), (12, true), (13, true), (14, true), (15, true), (16, true)] 17 [17] [] fun w7 hh hb7 => vs ?_; have H := H.go (hb7 _); refine q_ixA ar31 (i + j) (by omega) (ad_16 hi hj) (by decide) ?_; refine vs ?_; refine q_ldI (l := t) H sc3 (by omega) ?_; refine vs ?_; refine q_ixA ar16 i hi rfl (by decide) ?_; refine vs ?_; refine q_ldI (l := a) H sc3 (by omega) ?_; refine vs ?_; refine q_ixA ar16 j hj rfl (by decide) ?_; refine vs ?_; refine q_ldI (l := b) H sc3 (by omega) ?_; refine vs ?_; refine q_ixA ar31 (i + j) (by omega) (ad_16 hi hj) (by decide) ?_; refine vs ?_; refine dl_cons ⟨_, rfl, vs ?_⟩; refine x_stU (l := t) H sc3 (by omega) fun w8 t2 ht2 H => ?_; refine dl_nil (vs ?_); exact ⟨(j + 1, t2), i64_eq (up_16 hj), ⟨ht2.trans ht, H⟩, less_16 hj⟩
    · refine vh fun hlt2 => ?_
      exact ⟨(i + 1, t), i64_eq (up_16 hi), ⟨ht, H⟩, less_16 hi⟩
  · refine vh fun hlt => ?_
    refine x_alA H ar16 fun g8 w6 H => vs ?_
    refine loop_at (σ := Nat × List Int) (fun y => [(4, .pointer (some ⟨g4, 0, none⟩)), (5, .pointer (some ⟨g5, 0, none⟩)), (8, .pointer (some ⟨g8, 0, none⟩)), (9, .int .i64 (y.1 : Int))])
      (fun y w' => y.2.length = 16 ∧ Sep w.heap.size w w' [Ck.box g8 (aI y.2) 175, Ck.box g5 (aI t) 189, Ck.box g4 (aI (List.replicate 16 0)) 175]) (fun y => 16 - y.1) (0, List.replicate 16 0) (vs trivial) ⟨len16, Sep.left (L := [_, _, _]) H⟩ ?_
    rintro ⟨k, l⟩ s w7 ⟨hl, H⟩; dsimp only at hl H; refine vs (ways ?_ ?_)
    · refine vh fun hlt2 => ?_
      have hk : k < 16 := by omega
      refine x_ixA ar31 k (by omega) rfl (by decide) ?_; refine vs ?_; refine x_ldI (l := t) H sc3 (by omega) ?_; refine vs ?_; refine x_ixA ar16 k hk rfl (by decide) ?_; refine vs ?_; refine x_stU (l := l) H sc3 (by omega) fun w8 l1 hl1 H => vs ?_
      by_cases q : (k : Int) < 15
      · refine ve q ?_
        have hk15 : k + 16 < 31 := by omega
        refine draw_zat [(0, true), (1, true), (2, true), (3, true), (4, true), (5, true), (6, true), (7, true), (8, true), (9, true), (10, true)] 11 [11] [] fun w9 hh hb9 => vs ?_; have H := H.go (hb9 _); refine q_ixA ar16 k hk rfl (by decide) ?_; refine vs ?_; refine q_ldI (l := l1) H sc3 (by omega) ?_; refine vs ?_; refine q_ixA ar31 (k + 16) hk15 (up_x hk) (by decide) ?_; refine vs ?_; refine q_ldI (l := t) H sc3 (by omega) ?_; refine vs ?_; refine q_ixA ar16 k hk rfl (by decide) ?_; refine vs ?_; refine dl_cons ⟨_, rfl, vs ?_⟩; refine x_stU (l := l1) H sc3 (by omega) fun w10 l2 hl2 H => ?_; refine dl_nil (vs ?_); exact ⟨(k + 1, l2), i64_eq (up_16 hk), ⟨by show l2.length = 16; omega, H⟩, less_16 hk⟩
      · refine ve q ?_
        exact ⟨(k + 1, l1), i64_eq (up_16 hk), ⟨by show l1.length = 16; omega, H⟩, less_16 hk⟩
    · refine vh fun hlt2 => ?_
      refine x_ldaA H ar16 hl ?_; refine vs ?_; refine x_call (l8Carry_ok w7 l hl) fun _ w8 ⟨c1, e, hc1, hb8⟩ => ?_; subst e; have H := H.go hb8; refine vs ?_; refine x_call (l8Carry_ok w8 c1 hc1) fun _ w9 ⟨c2, e, hc2, hb9⟩ => ?_; subst e; have H := H.go hb9; refine vs ?_; refine x_staA H ar16 hc2 rep16 fun w10 H => vs ?_; exact ⟨_, _, rfl, res_cellA H ar16 hc2, c2, rfl, hc2, H.bel⟩
theorem dn_253 {i : Int} (h : 0 ≤ i ∧ i ≤ 253) : w64 (i - 1) = i - 1 := by unfold w64; omega
theorem l8Inv_ok (w : World) (a : List Int) (ha : a.length = 16) :
    ACalls Tryz.prog 145 #[.agg (aI a).toArray] w fun r w' => ∃ c : List Int, r = .agg (aI c).toArray ∧ c.length = 16 ∧ Below w.heap.size w w' := by
  have H := Sep.start w; refine body_of follows Tryz.func145 rfl rfl _ rfl (by kernel_rfl) (vs ?_); refine x_bx H (aI a) fun g1 w1 H => vs ?_; refine x_alA H ar16 fun g2 w2 H => vs ?_; refine x_ldaA (l := a) H ar16 ha ?_; refine vs ?_; refine x_alA H ar16 fun g3 w3 H => vs ?_; refine x_staA H ar16 ha rep16 fun w4 H => vs ?_
  refine loop_at (σ := Int × List Int) (fun y => [(1, .pointer (some ⟨g1, 0, none⟩)), (2, .pointer (some ⟨g2, 0, none⟩)), (3, .pointer (some ⟨g3, 0, none⟩)), (4, .int .i64 y.1)])
    (fun y w' => (-1 ≤ y.1 ∧ y.1 ≤ 253) ∧ y.2.length = 16 ∧ Sep w.heap.size w w' [Ck.box g3 (aI y.2) 175, Ck.box g2 (aI (List.replicate 16 0)) 175, Ck.box g1 (aI a) 175]) (fun y => (y.1 + 1).toNat) (253, a) (vs trivial) ⟨⟨by show (-1 : Int) ≤ 253; decide, by show (253 : Int) ≤ 253; decide⟩, ha, H⟩ ?_
  rintro ⟨i, l⟩ s w5 ⟨hr, hl, H⟩; dsimp only at hr hl H; refine vs ?_
  by_cases hlt : 0 ≤ i
  rotate_left
  · refine ve hlt ?_
    refine x_ldaA (l := l) H ar16 hl ?_; refine vs ?_; refine x_staA H ar16 hl rep16 fun w6 H => vs ?_; exact ⟨_, _, rfl, res_cellA H ar16 hl, l, rfl, hl, H.bel⟩
  have hk : 0 ≤ i ∧ i ≤ 253 := ⟨hlt, hr.2⟩; have hdec : (i - 1 + 1).toNat < (i + 1).toNat := by omega
  have hr2 : -1 ≤ i - 1 ∧ i - 1 ≤ 253 := by omega
  refine ve hlt ?_; refine x_ldaA (l := l) H ar16 hl ?_; refine vs ?_; refine x_ldaA (l := l) H ar16 hl ?_; refine vs ?_; refine x_call (l8Mul_ok w5 l l hl hl) fun _ w6 ⟨c1, e, hc1, hb6⟩ => ?_; subst e; have H := H.go hb6; refine vs ?_; refine x_staU (l0 := l) H ar16 hc1 hl fun w7 H => vs ?_
  by_cases q2 : i = 2
  · refine ve (eq_true q2) ?_
    exact ⟨(i - 1, c1), i64_eq (dn_253 hk), ⟨hr2, hc1, H⟩, hdec⟩
  by_cases q4 : i = 4
  · refine ve (And.intro q2 (eq_true q4)) ?_
    exact ⟨(i - 1, c1), i64_eq (dn_253 hk), ⟨hr2, hc1, H⟩, hdec⟩
  refine ve (And.intro q2 q4) ?_; refine x_ldaA (l := c1) H ar16 hc1 ?_; refine vs ?_; refine x_ldaA (l := a) H ar16 ha ?_; refine vs ?_; refine x_call (l8Mul_ok w7 c1 a hc1 ha) fun _ w8 ⟨c2, e, hc2, hb8⟩ => ?_; subst e; have H := H.go hb8; refine vs ?_; refine x_staU (l0 := c1) H ar16 hc2 hc1 fun w9 H => vs ?_; exact ⟨(i - 1, c2), i64_eq (dn_253 hk), ⟨hr2, hc2, H⟩, hdec⟩
theorem up_2b {k : Nat} (h : k < 2) : w64 ((k : Int) + 1) = ((k + 1 : Nat) : Int) := by unfold w64; omega
theorem up_15 {j : Nat} (h : j < 14) : w64 (((j + 1 : Nat) : Int) + 1) = ((j + 1 + 1 : Nat) : Int) := by unfold w64; omega
theorem dn_15 {j : Nat} (h : j < 14) : w64 (((j + 1 : Nat) : Int) - 1) = (j : Int) := by unfold w64; omega
theorem dn_254 {i : Int} (h : 0 ≤ i ∧ i ≤ 254) : w64 (i - 1) = i - 1 := by unfold w64; omega
section
variable {P : Program} {n : Nat} {w0 w : World} {L : List Ck} {K : Value → Prop} {t e : TypeId}
theorem q_ldXI {m k : Nat} {tg : Tg (m + 1, Gb n m, w, K)} (H : Sep n w0 w L) {l : List Int} {z : Value} (HS : ScT P e z) (hk : k < l.length) (h : K (.int .i64 (l.getD k 0))) (hm : Ck.box m (aI l) t ∈ L := by repeat (first | exact List.mem_cons_self | apply List.mem_cons_of_mem)) :
    QS P (m + 1) (Gb n m) w K tg (Instr.loadAt e (.pointer (some ⟨m, k, none⟩))) := q_ldX H HS h hm (aI_get hk)
end
theorem l8Bytes_ok (w : World) (a : List Int) (ha : a.length = 16) :
    ACalls Tryz.prog 144 #[.agg (aI a).toArray] w fun r w' => ∃ (b : List UInt8) (fp : List Nat), b.length = 32 ∧ Sep w.heap.size w w' [Ck.own (bytes 5) fp [r] b] := by
  have H := Sep.start w; refine body_of follows Tryz.func144 rfl rfl _ rfl (by kernel_rfl) (vs ?_); refine x_bx H (aI a) fun g1 w1 H => vs ?_; refine x_ldaA (l := a) H ar16 ha ?_; refine vs ?_; refine x_call (l8Carry_ok w1 a ha) fun _ w2 ⟨c1, e, hc1, hb2⟩ => ?_; subst e; have H := H.go hb2; refine vs ?_; refine x_call (l8Carry_ok w2 c1 hc1) fun _ w3 ⟨c2, e, hc2, hb3⟩ => ?_; subst e; have H := H.go hb3; refine vs ?_; refine x_call (l8Carry_ok w3 c2 hc2) fun _ w4 ⟨c3, e, hc3, hb4⟩ => ?_; subst e; have H := H.go hb4; refine vs ?_; refine x_alA H ar16 fun g3 w5 H => vs ?_; refine x_staA H ar16 hc3 rep16 fun w6 H => vs ?_
  refine loop_at (σ := Nat × List Int) (fun y => [(3, .pointer (some ⟨g3, 0, none⟩)), (4, .int .i64 (y.1 : Int))])
    (fun y w' => y.2.length = 16 ∧ Sep w.heap.size w w' [Ck.box g3 (aI y.2) 175]) (fun y => 2 - y.1) (0, c3) (vs trivial) ⟨hc3, H.head⟩ ?_
  rintro ⟨k, t⟩ s w7 ⟨ht, H⟩; dsimp only at ht H; refine vs (ways ?_ ?_)
  · refine vh fun hlt => ?_
    have hk : k < 2 := by omega
    have hdec : 2 - (k + 1) < 2 - k := by omega
    refine x_ldaA (l := t) H ar16 ht ?_; refine vs ?_; refine x_alA H ar16 fun g5 w8 H => vs ?_; refine x_staA H ar16 ht rep16 fun w9 H => vs ?_; refine x_ixA ar16 0 (by decide) rfl (by decide) ?_; refine vs ?_; refine x_ldI (l := t) H sc3 (by omega) ?_; refine vs ?_; refine x_ixA ar16 0 (by decide) rfl (by decide) ?_; refine vs ?_; refine x_stU (l := t) (g := g5) H sc3 (by omega) fun w10 m hm H => vs ?_
    refine loop_at (σ := Nat × List Int) (fun y => [(3, .pointer (some ⟨g3, 0, none⟩)), (4, .int .i64 (k : Int)), (5, .pointer (some ⟨g5, 0, none⟩)), (6, .int .i64 ((y.1 + 1 : Nat) : Int))])
      (fun y w' => y.2.length = 16 ∧ Sep w.heap.size w w' [Ck.box g5 (aI y.2) 175, Ck.box g3 (aI t) 175]) (fun y => 15 - y.1) (0, m) (vs ?_) ⟨hm.trans ht, H⟩ ?_
    · rfl
    rintro ⟨j, m⟩ s w11 ⟨hm, H⟩; dsimp only at hm H; refine vs ?_
    by_cases hlt2 : ((j + 1 : Nat) : Int) < 15
    · have hj : j < 14 := by omega
      refine ve hlt2 ?_; refine draw_zat [(0, true), (1, true), (2, true), (3, true), (4, true), (5, true), (6, true), (7, true), (8, true), (9, true), (10, true), (11, true), (12, true)] 13 [13] [] fun w12 hh hb12 => vs ?_; have H := H.go (hb12 _); refine q_ixA ar16 (j + 1) (by omega) rfl (by decide) ?_; refine vs ?_; refine q_ldI (l := t) H sc3 (by omega) ?_; refine vs ?_; refine q_ixA ar16 j (by omega) (dn_15 hj) (by decide) ?_; refine vs ?_; refine q_ldI (l := m) H sc3 (by omega) ?_; refine vs ?_; refine q_ixA ar16 (j + 1) (by omega) rfl (by decide) ?_; refine vs ?_; refine dl_cons ⟨_, rfl, vs ?_⟩; refine x_stU (l := m) (g := g5) H sc3 (by omega) fun w13 m2 hm2 H => ?_; refine dl_nil (vs ?_); refine x_ixA ar16 j (by omega) (dn_15 hj) (by decide) ?_; refine vs ?_; refine x_ldI (l := m2) H sc3 (by omega) ?_; refine vs ?_; refine x_ixA ar16 j (by omega) (dn_15 hj) (by decide) ?_; refine vs ?_; refine x_stU (l := m2) (g := g5) H sc3 (by omega) fun w14 m3 hm3 H => vs ?_; exact ⟨(j + 1, m3), i64_eq (up_15 hj), ⟨by show m3.length = 16; omega, H⟩, by show 15 - (j + 1) < 15 - j; omega⟩
    refine ve hlt2 ?_; refine x_ixA ar16 15 (by decide) rfl (by decide) ?_; refine vs ?_; refine x_ldI (l := t) H sc3 (by omega) ?_; refine vs ?_; refine x_ixA ar16 14 (by decide) rfl (by decide) ?_; refine vs ?_; refine x_ldI (l := m) H sc3 (by omega) ?_; refine vs ?_; refine x_ixA ar16 15 (by decide) rfl (by decide) ?_; refine vs ?_; refine x_stU (l := m) (g := g5) H sc3 (by omega) fun w12 m2 hm2 H => vs ?_; refine x_ixA ar16 15 (by decide) rfl (by decide) ?_; refine vs ?_; refine x_ldI (l := m2) H sc3 (by omega) ?_; refine vs ?_; refine x_ixA ar16 14 (by decide) rfl (by decide) ?_; refine vs ?_; refine x_ldI (l := m2) H sc3 (by omega) ?_; refine vs ?_; refine x_ixA ar16 14 (by decide) rfl (by decide) ?_; refine vs ?_; refine x_stU (l := m2) (g := g5) H sc3 (by omega) fun w13 m3 hm3 H => ?_; refine vs (ways ?_ ?_)
    · refine vh fun hb => ?_
      exact ⟨(k + 1, t), i64_eq (up_2b hk), ⟨ht, H.only (c := Ck.box g3 (aI t) 175)⟩, hdec⟩
    · refine vh fun hb => ?_
      refine x_ldaA (l := m3) (g := g5) H ar16 (by omega) ?_; refine vs ?_; refine x_staU (l0 := t) (g := g3) H ar16 (by omega) ht fun w14 H => vs ?_; exact ⟨(k + 1, m3), i64_eq (up_2b hk), ⟨by show m3.length = 16; omega, H.only (c := Ck.box g3 (aI m3) 175)⟩, hdec⟩
  · refine vh fun hlt => ?_
    refine x_emp H pl_u8 sl22 fun g8 w8 H => vs ?_
    refine loop_at (σ := Nat × Value × List UInt8 × List Nat) (fun y => [(3, .pointer (some ⟨g3, 0, none⟩)), (8, y.2.1), (9, .int .i64 (y.1 : Int))])
      (fun y w' => y.1 ≤ 16 ∧ y.2.2.1.length = 2 * y.1 ∧ Sep w.heap.size w w' [Ck.own (bytes 5) y.2.2.2 [y.2.1] y.2.2.1, Ck.box g3 (aI t) 175]) (fun y => 16 - y.1) (0, .slice (some ⟨g8, 0, none⟩) 0 0, [], [g8]) (vs trivial) ⟨Nat.zero_le _, rfl, H⟩ ?_
    rintro ⟨j, u, b, fp⟩ s w9 ⟨hj, hb, H⟩; dsimp only at hj hb H; refine vs (ways ?_ ?_)
    · refine vh fun hlt2 => ?_
      have hj2 : j < 16 := by omega
      obtain ⟨k1, hk1, e1⟩ := iand_255 (t.getD j 0); obtain ⟨k2, hk2, e2⟩ := iand_255 (ishr .i64 (t.getD j 0) 8); refine draw_of [(0, true), (1, true), (2, true), (3, true), (4, true), (5, true), (6, true), (7, true), (8, true), (9, true), (10, true), (11, true), (12, false), (13, false), (14, true)] (g3 + 1) (Gb w.heap.size g3) fun w10 hh hb10 => vs ?_; have H := H.go (hb10 _); have H6 := H; refine q_ixA ar16 j hj2 rfl (by decide) ?_; refine vs ?_; refine q_ldXI (l := t) H sc3 (by omega) ?_; refine ve (And.intro e1 (u8_low hk1)) ?_; refine q_ixA ar16 j hj2 rfl (by decide) ?_; refine vs ?_; refine q_ldXI (l := t) H sc3 (by omega) ?_; refine ve (And.intro e2 (u8_low hk2)) ?_; refine x_lst H pl_u8 sl22 [UInt8.ofNat k1, UInt8.ofNat k2] (by simp) fun g4 w11 H => vs ?_; refine ⟨kept_box H6 H, ?_⟩; refine x_app H pl_u8 sl22 (H.own (.head _)) ?_ ?_ (fun f5 v5 w12 H => vs ?_) (hm := .there .here)
      · simp only [List.length_cons, List.length_nil]; omega
      · simp only [List.length_cons, List.length_nil]; omega
      refine ⟨kept_box H6 H, ?_⟩; exact ⟨(j + 1, v5, b ++ [UInt8.ofNat k1, UInt8.ofNat k2], f5), ⟨rfl, i64_eq (up_16 hj2)⟩, ⟨hj2, by show (b ++ [UInt8.ofNat k1, UInt8.ofNat k2]).length = 2 * (j + 1); rw [List.length_append, hb]; rfl, H.tail⟩, less_16 hj2⟩
    · refine vh fun hlt2 => ?_
      exact ⟨b, fp, by omega, H.only (c := Ck.own (bytes 5) fp [u] b)⟩
end Go.Proofs.YtcmckbgiiclomabGreatDoor.V
