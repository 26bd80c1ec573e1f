/- The fresh bytes of a world: the statement's side. Laid by a program. -/
import Derived.Test.YtfhbglaigjekpaaWfr
import Derived.Test.YtfhbglaigjekpaaVy
namespace Go.Proofs.Ytfhbglaigjekpaa.V
open Go Go.RowKit
set_option maxRecDepth 100000
set_option maxHeartbeats 4000000
set_option linter.unusedSimpArgs false
set_option linter.unusedVariables false
set_option pp.deepTerms false
set_option pp.deepTerms.threshold 3

/-- An append to a row that is read only and has no room. -/
theorem x_appF {P : Program} {n : Nat} {w0 w : World} {L : List Ck} {K : Value → World → Prop} {tg : Tg K} {t ty e by_ : Nat} (HS : SlT P t e 1 by_ (encB 0)) {g m : Nat} {x : Value} {l l' : List UInt8} (H : Sep n w0 w L) (h1 : (bytes e).rd w w.heap.size [.slice (some ⟨g, 0, none⟩) m m] l) (hx : (bytes e).rd w w.heap.size [x] l') (h0 : 0 < l'.length) (hb : (l.length + l'.length) * by_ ≤ 140737488355328) (hn : l.length + l'.length ≤ 9223372036854775807)
    (h : ∀ g' c w', Sep n w0 w' (Ck.own (bytes e) [g'] [.slice (some ⟨g', 0, none⟩) (l.length + l'.length) c] (l ++ l') :: L) → K (.slice (some ⟨g', 0, none⟩) (l.length + l'.length) c) w') :
    Builtin' P K tg .append #[t, t] ty [.slice (some ⟨g, 0, none⟩) m m, x] w := by
  obtain ⟨i, hi, hs, hby, hz⟩ := HS.inf
  obtain ⟨A, c, hv, hc1, hc2, ha⟩ := h1
  simp only [List.cons.injEq, Value.slice.injEq, and_true] at hv
  obtain ⟨rfl, rfl, rfl⟩ := hv
  obtain ⟨_, ha⟩ := pl_u8.slRd.1 ha
  obtain ⟨B, c', rfl, hb1, hb2, hbx⟩ := sl_open hx
  obtain ⟨_, hbx⟩ := pl_u8.slRd.1 hbx
  obtain ⟨b, rfl⟩ : ∃ b, B = some b := by
    have := (hbx 0 h0).1
    cases B with
    | none => cases this
    | some b => exact ⟨b, rfl⟩
  have c1 : ∀ j v, (l.map encB)[j]? = some v → w.cell? ((⟨g, 0, none⟩ : Addr).add j) = some v := fun j v hj => by
    obtain ⟨h3, h4⟩ := List.getElem?_eq_some_iff.1 hj
    have := (ha j (by simpa using h3)).2.2
    rw [adA_some] at this
    rw [this, ← h4]; simp [encB]
  have c2 : ∀ j v, (l'.map encB)[j]? = some v → w.cell? (b.add j) = some v := fun j v hj => by
    obtain ⟨h3, h4⟩ := List.getElem?_eq_some_iff.1 hj
    have := (hbx j (by simpa using h3)).2.2
    rw [adA_some] at this
    rw [this, ← h4]; simp [encB]
  subst hby
  have hr := run_append_grow (P := P) w t ty e i (encB 0) HS.un hi hz ⟨g, 0, none⟩ l.length l.length (l.map encB) (by rw [hs]; simp) c1 b l'.length c' (l'.map encB) (by rw [hs]; simp) c2 (by omega) (by omega) (growslice_fits (by omega) hb)
  have hge := grownCap_ge w (l.length + l'.length) l.length e
  have hzc : (encB 0).cells = #[encB 0] := rfl
  unfold Builtin'
  refine vS_run hr (h w.heap.size _ _ ?_)
  have hbl : Below w.heap.size w (w.drew.alloc (.cells ((l.map encB).toArray ++ (l'.map encB).toArray ++ Builtin.zeroCells (encB 0).cells (grownCap w (l.length + l'.length) l.length e - (l.length + l'.length))) e)) := Below.alloc ((Below.refl _ w).drew) (Nat.le_refl _) _
  have hL : (l ++ l').length = l.length + l'.length := List.length_append
  have hM : (l ++ l').map encB = l.map encB ++ l'.map encB := List.map_append
  refine H.add (c := Ck.own (bytes e) [w.heap.size] [.slice (some ⟨w.heap.size, 0, none⟩) (l.length + l'.length) (grownCap w (l.length + l'.length) l.length e)] (l ++ l')) hbl (pl_u8.slOw.2 ⟨fun _ _ => trivial, ⟨by rw [List.length_map]; simp, .inr ⟨w.heap.size, _, _, ?_, Nat.zero_le _, heap_alloc_new w.drew _, by rw [hL]; exact hge, grownCap_le_maxLen w (l.length + l'.length) l.length e (by simpa [maxLen] using hn), ?_, ?_⟩⟩, rfl⟩) (by simp [Ck.own]) (fun b hb => ?_)
  · rw [hL]
  · simp only [Array.size_append, List.size_toArray, List.length_map, size_zeroCells, hzc]
    simp
    omega
  · rw [hL, hM, Array.toList_append, Array.toList_append, List.take_append_of_le_length (by simp)]
    exact List.take_of_length_le (by simp)
  · simp only [Ck.own_fp, List.mem_singleton] at hb
    subst hb
    exact ⟨Nat.le_refl _, by simp⟩
/-- An append of nothing to a row that is read only. -/
theorem x_appE {P : Program} {w : World} {K : Value → World → Prop} {tg : Tg K} {t ty e by_ : Nat} (HS : SlT P t e 1 by_ (encB 0)) {g m k : Nat} {x : Value} (hx : (bytes e).rd w k [x] []) (h : K (.slice (some ⟨g, 0, none⟩) m m) w) :
    Builtin' P K tg .append #[t, t] ty [.slice (some ⟨g, 0, none⟩) m m, x] w := by
  obtain ⟨i, hi, hs, hby, hz⟩ := HS.inf
  obtain ⟨B, c', rfl, hb1, hb2, hbx⟩ := sl_open hx
  have hr : (Builtin.append_ #[t, t] ty #[.slice (some ⟨g, 0, none⟩) m m, .slice B 0 c']).run P w = .ok (.slice (some ⟨g, 0, none⟩) m m) w := by
    cases B with
    | none => simp [Builtin.append_, run_underlying' HS.un, run_sizeOf' hi hs, Builtin.lenOf, run_firstCells_none, storeCells]
    | some b =>
      have hf := run_firstCells_some (P := P) w 1 0 b 0 c' [] rfl (fun j v hj => by simp at hj)
      simp [Builtin.append_, run_underlying' HS.un, run_sizeOf' hi hs, Builtin.lenOf, hf, storeCells]
  unfold Builtin'
  exact vS_run hr h
theorem great2_neg {n : Int} (h : ¬ 0 ≤ n) : greatB n 2 = [] := by
  unfold greatB littleB
  rw [if_neg fun hh => h hh.1]; rfl
theorem freshB_len (x : MWorld) : (freshB x).length ≤ 8160 := by unfold freshB derive; exact expand_len _ _ _
theorem freshW_len : freshW.length = 5 := rfl
theorem great2_lenF {n : Int} (h : 0 ≤ n) : (greatB n 2).length = 2 := by
  unfold greatB littleB
  rw [List.length_reverse, if_pos ⟨h, by decide, by decide⟩, List.length_map, List.length_range]; rfl
theorem specFresh_ok (w : World) (cs : List Value) (x : MWorld) (h : kWorld.rd w w.heap.size cs x) :
    ACalls Try.prog 5 #[.agg cs.toArray] w fun r w' => ∃ fp, Sep w.heap.size w w' [Ck.own (bytes 5) fp [r] (freshB x)] := by
  obtain ⟨v0, v3, v5, v7, v9, v10, v11, v12, rfl, h0, hC, hK, hP, hR, hN, hS⟩ := kWorld_open h
  have H := Sep.start w
  refine body_of follows Try.func5 rfl rfl _ rfl (by kernel_rfl) (vs ?_)
  refine x_bx H [v0, .int .i64 x.f_Count, .int .i64 x.f_Known, v3, .int .i64 x.f_Post.f_Time, v5, .int .i64 x.f_Post.f_Sure, v7, .int .i64 x.f_Reader.f_Epoch, v9, v10, v11, v12] fun g1 w1 H => vs ?_
  have J := Sep.start w1
  refine fork_draw w1.heap.size [] fun w2 hh hb2 => ?_
  have J := J.go (hb2 _)
  have J3 := J
  refine rest_pre [(0, true), (1, true), (4, true), (5, true)] 6 ?_
  refine vs ?_
  refine q_ldB H J3 sc22 ?_
  refine vs ?_
  refine q_ldB H J3 sc3 ?_
  refine vs ?_
  refine rest_fork 2 6 5 ?_ ?_
  · refine vs ?_
    refine x_lst J pl_u8 sl22 freshW (by simp) fun g2 wl J => vs ?_
    refine ⟨kept_base J3 J, ?_⟩
    refine rest_fork 3 6 4 ?_ ?_
    · refine vs ?_
      have J := J.front (c := Ck.own (bytes 5) [g2] [.slice (some ⟨g2, 0, none⟩) 5 5] freshW)
      refine x_cvb Try.underlying22 Try.underlying5 J fun wc J hr3 => vs ?_
      refine ⟨kept_base J3 J, ?_⟩
      refine rest_end [(6, false), (7, false), (8, false), (9, true)] ?_
      refine vs ?_
      refine x_callf (Sep.start _) (specGreat_ok _ x.f_Count 2 hC.2) fun r6 f6 wg M => vs ?_
      have J := J.join M
      first | have hr3 := M.rd hr3 | skip
      simp only [List.cons_append, List.nil_append] at J
      refine ⟨kept_base J3 J, ?_⟩
      have hrg := J.own (d := bytes 5) (fp := f6) (cs := [r6]) (x := greatB x.f_Count 2) (by simp)
      by_cases hn : 0 ≤ x.f_Count
      rotate_left
      · have eg := great2_neg hn
        rw [eg] at hrg
        refine x_appE sl22 hrg ?_
        refine vs ?_
        refine ⟨kept_base J3 J, ?_⟩
        have e : freshB x = derive [] x.f_Seed freshW 32 := by unfold freshB named; rw [eg, List.append_nil]
        refine x_callf J (specDerive_ok _ _ [] _ x.f_Seed _ freshW 32 (Kd.own_rd _ (sl_zero _) (by simp)) (J.rd (H.rd h0)) hr3) fun r8 f8 w8 J => vs ?_
        refine ⟨kept_base J3 J, ?_⟩
        have H := H.join J
        rw [e]
        exact ⟨_, H.head⟩
      have hg2 := great2_lenF hn
      refine x_appF sl22 J hr3 hrg (by rw [hg2]; omega) (by rw [hg2, freshW_len]; omega) (by rw [hg2, freshW_len]; omega) fun g7 c7 w7 J => vs ?_
      refine ⟨kept_base J3 J, ?_⟩
      have e : freshB x = derive [] x.f_Seed (freshW ++ greatB x.f_Count 2) 32 := rfl
      refine x_callf J (specDerive_ok _ _ [] _ x.f_Seed _ (freshW ++ greatB x.f_Count 2) 32 (Kd.own_rd _ (sl_zero _) (by simp)) (J.rd (H.rd h0)) (J.own (.head _))) fun r8 f8 w8 J => vs ?_
      refine ⟨kept_base J3 J, ?_⟩
      have H := H.join J
      rw [e]
      exact ⟨_, H.head⟩
    · refine vs ?_
      refine x_callf (Sep.start _) (specGreat_ok _ x.f_Count 2 hC.2) fun r6 f6 wg M => vs ?_
      have J := J.join M
      first | have hr3 := M.rd hr3 | skip
      simp only [List.cons_append, List.nil_append] at J
      refine ⟨kept_base J3 J, ?_⟩
      refine rest_end [(3, false), (7, false), (8, false), (9, true)] ?_
      refine vs ?_
      have J := J.front (c := Ck.own (bytes 5) [g2] [.slice (some ⟨g2, 0, none⟩) 5 5] freshW)
      refine x_cvb Try.underlying22 Try.underlying5 J fun wc J hr3 => vs ?_
      refine ⟨kept_base J3 J, ?_⟩
      have hrg := J.own (d := bytes 5) (fp := f6) (cs := [r6]) (x := greatB x.f_Count 2) (by simp)
      by_cases hn : 0 ≤ x.f_Count
      rotate_left
      · have eg := great2_neg hn
        rw [eg] at hrg
        refine x_appE sl22 hrg ?_
        refine vs ?_
        refine ⟨kept_base J3 J, ?_⟩
        have e : freshB x = derive [] x.f_Seed freshW 32 := by unfold freshB named; rw [eg, List.append_nil]
        refine x_callf J (specDerive_ok _ _ [] _ x.f_Seed _ freshW 32 (Kd.own_rd _ (sl_zero _) (by simp)) (J.rd (H.rd h0)) hr3) fun r8 f8 w8 J => vs ?_
        refine ⟨kept_base J3 J, ?_⟩
        have H := H.join J
        rw [e]
        exact ⟨_, H.head⟩
      have hg2 := great2_lenF hn
      refine x_appF sl22 J hr3 hrg (by rw [hg2]; omega) (by rw [hg2, freshW_len]; omega) (by rw [hg2, freshW_len]; omega) fun g7 c7 w7 J => vs ?_
      refine ⟨kept_base J3 J, ?_⟩
      have e : freshB x = derive [] x.f_Seed (freshW ++ greatB x.f_Count 2) 32 := rfl
      refine x_callf J (specDerive_ok _ _ [] _ x.f_Seed _ (freshW ++ greatB x.f_Count 2) 32 (Kd.own_rd _ (sl_zero _) (by simp)) (J.rd (H.rd h0)) (J.own (.head _))) fun r8 f8 w8 J => vs ?_
      refine ⟨kept_base J3 J, ?_⟩
      have H := H.join J
      rw [e]
      exact ⟨_, H.head⟩
  · refine vs ?_
    refine x_callf (Sep.start _) (specGreat_ok _ x.f_Count 2 hC.2) fun r6 f6 wg M => vs ?_
    have J := J.join M
    first | have hr3 := M.rd hr3 | skip
    simp only [List.cons_append, List.nil_append] at J
    refine ⟨kept_base J3 J, ?_⟩
    refine rest_end [(2, false), (3, false), (7, false), (8, false), (9, true)] ?_
    refine vs ?_
    refine x_lst J pl_u8 sl22 freshW (by simp) fun g2 wl J => vs ?_
    refine ⟨kept_base J3 J, ?_⟩
    have J := J.front (c := Ck.own (bytes 5) [g2] [.slice (some ⟨g2, 0, none⟩) 5 5] freshW)
    refine x_cvb Try.underlying22 Try.underlying5 J fun wc J hr3 => vs ?_
    refine ⟨kept_base J3 J, ?_⟩
    have hrg := J.own (d := bytes 5) (fp := f6) (cs := [r6]) (x := greatB x.f_Count 2) (by simp)
    by_cases hn : 0 ≤ x.f_Count
    rotate_left
    · have eg := great2_neg hn
      rw [eg] at hrg
      refine x_appE sl22 hrg ?_
      refine vs ?_
      refine ⟨kept_base J3 J, ?_⟩
      have e : freshB x = derive [] x.f_Seed freshW 32 := by unfold freshB named; rw [eg, List.append_nil]
      refine x_callf J (specDerive_ok _ _ [] _ x.f_Seed _ freshW 32 (Kd.own_rd _ (sl_zero _) (by simp)) (J.rd (H.rd h0)) hr3) fun r8 f8 w8 J => vs ?_
      refine ⟨kept_base J3 J, ?_⟩
      have H := H.join J
      rw [e]
      exact ⟨_, H.head⟩
    have hg2 := great2_lenF hn
    refine x_appF sl22 J hr3 hrg (by rw [hg2]; omega) (by rw [hg2, freshW_len]; omega) (by rw [hg2, freshW_len]; omega) fun g7 c7 w7 J => vs ?_
    refine ⟨kept_base J3 J, ?_⟩
    have e : freshB x = derive [] x.f_Seed (freshW ++ greatB x.f_Count 2) 32 := rfl
    refine x_callf J (specDerive_ok _ _ [] _ x.f_Seed _ (freshW ++ greatB x.f_Count 2) 32 (Kd.own_rd _ (sl_zero _) (by simp)) (J.rd (H.rd h0)) (J.own (.head _))) fun r8 f8 w8 J => vs ?_
    refine ⟨kept_base J3 J, ?_⟩
    have H := H.join J
    rw [e]
    exact ⟨_, H.head⟩

end Go.Proofs.Ytfhbglaigjekpaa.V
