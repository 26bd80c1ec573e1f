/- Items sifted by a function that is handed over. -/
import Derived.Test.YtdljbekkckfmnaaGreatWqf
namespace Go.Proofs.YtdljbekkckfmnaaGreat.V
open Go Go.RowKit
set_option maxRecDepth 100000
set_option maxHeartbeats 400000
set_option linter.unusedSimpArgs false
set_option linter.unusedVariables false
set_option pp.deepTerms false
set_option pp.deepTerms.threshold 3

/-- Elements with a property taken out of an owned list, in place. -/
theorem deleteFuncI_ok {n : Nat} {w0 w : World} {L : List Ck} {fp : List Nat} {v : Value} {l : List MItem} (p : MItem → Bool) (f : FuncId) (fs cs : Array Value) (H : Sep n w0 w (Ck.own items fp [v] l :: L)) (hl : l.length ≤ 1048576) (hf : entersB Tryz.prog f = true)
    (hc : ∀ w' es x, Sep n w0 w' L → kItem.rd w' w'.heap.size es x → ACalls Tryz.prog f (fs ++ #[.agg es.toArray] ++ cs) w' fun r w'' => r = .bool (p x) ∧ Below w'.heap.size w' w'') :
    ACalls Tryz.prog 110 #[v, .func (.func f) fs cs] w fun r w' => ∃ fp', Sep n w0 w' (Ck.own items fp' [r] (l.filter fun x => !p x) :: L) := by
  have hrd := H.own (.head _)
  obtain ⟨A, c, rfl, hc1, hc2, ha⟩ := sl_open hrd
  refine body_of follows Tryz.func110 rfl rfl _ rfl (by kernel_rfl) (vs ?_)
  refine x_call (indexFuncI_ok w _ l p f fs cs hrd hf fun w' es x hb hr => hc w' es x (H.tail.go hb) hr) fun _ w2 ⟨hr, hb⟩ => ?_
  have H := H.go hb
  rcases hr with ⟨i0, hi0, rfl, hp0, hn0⟩ | ⟨rfl, hno⟩
  · refine ve (show ¬ ((i0 : Int) = -1) by omega) ?_
    obtain ⟨g, rfl⟩ := own_atI H (by omega)
    obtain ⟨rs, hrs, _, H⟩ := H.siftStart i0 (i0 + 1) (by omega) (by omega)
    have hrl : rs.length = l.length := by rw [← hrs, List.length_map]
    have hget : ∀ i (h1 : i < rs.length) (h2 : i < l.length), rs[i].2.2 = l[i] := fun i h1 h2 => by subst hrs; simp
    have hk0 : rs.take i0 = (rs.take (i0 + 1)).filter fun r => !p r.2.2 := by
      rw [take_filter (by omega), hget i0 (by omega) hi0, hp0, filter_take_all fun i h1 h2 => by rw [hget i h1 (by omega), hn0 i (by omega) h2]; rfl]
      simp
    rw [hk0] at H
    have ei : (i0 : Int) = (((rs.take (i0 + 1)).filter fun r => !p r.2.2).length : Int) := by rw [← hk0, List.length_take]; omega
    refine ve (show w64 ((i0 : Int) + 1) = ((i0 + 1 : Nat) : Int) by unfold w64; omega) ?_
    refine loop_at (σ := Nat) (fun j => [(0, .slice (some ⟨g, 0, none⟩) l.length c), (1, .func (.func f) fs cs), (5, .int .i64 (((rs.take j).filter fun r => !p r.2.2).length : Int)), (6, .int .i64 (j : Int))])
      (fun j w' => i0 + 1 ≤ j ∧ j ≤ l.length ∧ ((rs.take j).filter fun r => !p r.2.2).length < j ∧ Sep n w0 w' (Ck.sift 32 kItem g c rs ((rs.take j).filter fun r => !p r.2.2) j :: L)) (fun j => l.length - j) (i0 + 1) (vs ?_) ⟨Nat.le_refl _, hi0, by rw [← hk0, List.length_take]; omega, H⟩ ?_
    · exact i64_eq ei
    rintro j s w3 ⟨hj0, hj, hjl, H⟩
    refine vs (ways ?_ ?_)
    · refine vh fun hlt => ?_
      have hj2 : j < rs.length := by omega
      have hel := H.siftEl (List.getElem_mem hj2)
      have hcell := fun q (hq : q < kItem.sz) => H.siftCell hj2 q hq
      refine x_ixR sl24 (by omega) ?_
      refine vs ?_
      obtain ⟨u, eu, q0, q1, q2, q3⟩ := kItem_open hel
      have hone := Kd.one _ hel
      refine x_lds st32 (es := [.string ⟨(rs[j].2.2.f_Route).toArray⟩, .int .i64 rs[j].2.2.f_Topic, .int .i64 rs[j].2.2.f_Due, u]) (fun q hq => by rw [Kd.add_at, ← eu]; exact hcell q hq) rfl (vs ?_)
      refine x_al H st32 fun g5 w4 H => vs ?_
      refine x_sta H st32 (vs := [.string ⟨(rs[j].2.2.f_Route).toArray⟩, .int .i64 rs[j].2.2.f_Topic, .int .i64 rs[j].2.2.f_Due, u]) (h1 := by rw [← eu]; exact hone) fun w5 H => vs ?_
      have H : Sep n w0 w5 (Ck.box g5 [.string ⟨(rs[j].2.2.f_Route).toArray⟩, .int .i64 rs[j].2.2.f_Topic, .int .i64 rs[j].2.2.f_Due, u] 32 :: _) := H
      refine x_lda H st32 ?_
      refine vs ?_
      have hel5 := H.tail.siftEl (List.getElem_mem hj2)
      rw [eu] at hel5
      refine x_callv hf (hc w5 _ _ H.tail.tail hel5) fun _ w6 ⟨e6, hb6⟩ => ?_
      subst e6
      have H := H.go hb6
      have htf := take_filter (q := fun r : List Value × List Nat × MItem => !p r.2.2) hj2
      refine vs (ways ?_ ?_)
      · refine vh fun hp => ?_
        rw [if_pos (by rw [hp]; rfl)] at htf
        refine x_lda H st32 ?_
        refine vs ?_
        refine x_ixR sl24 (by omega) ?_
        refine vs ?_
        rw [← eu]
        refine x_siftPut st32 rfl H.tail hj2 (by omega) fun w7 H => vs ?_
        refine ⟨j + 1, ⟨i64_eq ?_, i64_eq (by unfold w64; omega)⟩, ⟨by omega, by omega, ?_, ?_⟩, by omega⟩
        · rw [htf, List.length_append, List.length_cons, List.length_nil]; unfold w64; omega
        · rw [htf, List.length_append, List.length_cons, List.length_nil]; omega
        · rw [htf]; exact H
      · refine vh fun hp => ?_
        rw [if_neg (by simp only [Bool.not_eq_true'] at hp ⊢; exact hp), List.append_nil] at htf
        refine ⟨j + 1, ⟨by rw [htf], i64_eq (by unfold w64; omega)⟩, ⟨by omega, by omega, by rw [htf]; omega, by rw [htf]; exact H.tail.siftSkip hj2⟩, by omega⟩
    · refine vh fun hlt => ?_
      have hsub : ((rs.take j).filter fun r => !p r.2.2).Sublist rs := List.filter_sublist.trans (List.take_sublist ..)
      have hmf : ((rs.take j).filter fun r => !p r.2.2).map (·.2.2) = l.filter fun x => !p x := by
        rw [List.take_of_length_le (by omega), ← hrs, List.filter_map]; rfl
      obtain ⟨fp', H⟩ := H.siftEnd hsub
      rw [hmf] at H
      generalize ((rs.take j).filter fun r => !p r.2.2).length = i at *
      refine x_loR sl24 (lo := i) (by omega) (by omega) ?_
      refine vs ?_
      refine x_clrB sl24 rfl (by decide) H (by omega) (by omega) fun fp7 w7 H => vs ?_
      refine x_hiR sl24 (hi := i) (by omega) ?_
      refine vs ?_
      exact ⟨_, H⟩
  · refine vs ?_
    have e : (l.filter fun x => !p x) = l := by
      rw [List.filter_eq_self]
      intro y hy
      obtain ⟨i, hi, rfl⟩ := List.getElem_of_mem hy
      rw [hno i hi]; rfl
    rw [e]
    exact ⟨_, H⟩

end Go.Proofs.YtdljbekkckfmnaaGreat.V
