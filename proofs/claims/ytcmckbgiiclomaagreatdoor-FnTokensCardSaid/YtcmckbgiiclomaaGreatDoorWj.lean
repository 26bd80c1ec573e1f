/- Bytes joined. -/
import Derived.Test.YtcmckbgiiclomaaGreatDoorWa
import Derived.Test.YtcmckbgiiclomaaGreatDoorVw
namespace Go.Proofs.YtcmckbgiiclomaaGreatDoor.V
open Go Go.RowKit
set_option maxRecDepth 100000
set_option maxHeartbeats 4000000
set_option linter.unusedSimpArgs false
set_option linter.unusedVariables false
set_option pp.deepTerms false
set_option pp.deepTerms.threshold 3

theorem bytesJoin_ok (w : World) (v : Value) (l : List (List UInt8)) (h : (Kd.slice 22 (bytes 5)).rd w w.heap.size [v] l) (hl : l.flatten.length ≤ 1099511627776) :
    ACalls Tryz.prog 57 #[v, .slice none 0 0] w fun r w' => ∃ fp, Sep w.heap.size w w' [Ck.own (bytes 5) fp [r] l.flatten] := by
  have h0 := h
  have hlm := sl_len h
  obtain ⟨A, c, rfl, hc1, hc2, ha⟩ := sl_open h
  have H := Sep.start w
  refine body_of follows Tryz.func57 rfl rfl _ rfl (by kernel_rfl) ?_
  by_cases hl0 : l.length = 0
  · have e0 : ((l.length : Int) = 0) = True := eq_true (by omega)
    refine ve e0 ?_
    obtain rfl : l = [] := List.eq_nil_of_length_eq_zero hl0
    refine x_emp H pl_u8 sl22 fun g w1 H => vs ?_
    exact ⟨_, H⟩
  have e0 : ((l.length : Int) = 0) = False := eq_false (by omega)
  by_cases hl1 : l.length = 1
  · have e1 : ((l.length : Int) = 1) = True := eq_true (by omega)
    refine ve (And.intro e0 e1) ?_
    refine x_ele H sl78 rfl 0 (by omega) ha rfl fun ad es hb hr hc => vs ?_
    obtain ⟨u, rfl⟩ := sl_one hr
    refine x_ld1 sc22 hc rfl (vs ?_)
    have H := H.nothing (d := bytes 5) (sl_zero w)
    obtain ⟨a, rfl⟩ := fl_one l hl1
    have ef : [a].flatten = [] ++ a := by simp
    rw [ef] at hl
    simp only [List.nil_append] at hl
    refine x_app H pl_u8 sl22 (H.rd hr) ?_ ?_ fun fp5 v5 w5 H => vs ?_
    · simp only [List.length_nil, List.getElem_cons_zero]; omega
    · simp only [List.length_nil, List.getElem_cons_zero]; omega
    rw [ef]
    exact ⟨_, H⟩
  have e1 : ((l.length : Int) = 1) = False := eq_false (by omega)
  have e2 : ¬ ((0 : Int) < 0) := by omega
  refine ve (And.intro e0 (And.intro e1 e2)) ?_
  refine loop_at (σ := Nat) (fun x => [(0, .slice A l.length c), (1, .slice none 0 0), (5, .int .i64 ((l.take x).flatten.length : Int)), (42, .slice A l.length c), (43, .int .i64 (l.length : Int)), (44, .int .i64 (x : Int))])
    (fun x w' => x ≤ l.length ∧ Sep w.heap.size w w' []) (fun x => l.length - x) 0 (vs ?_) ⟨Nat.zero_le _, H⟩ ?_
  · rfl
  rintro k s w2 ⟨hk, H⟩
  refine vs (ways ?_ ?_)
  · refine vh fun hlt => ?_
    have hk2 : k < l.length := by omega
    refine x_ele H sl78 rfl k hk2 ha rfl fun ad es hb hr hc => vs ?_
    obtain ⟨u, rfl⟩ := sl_one hr
    obtain ⟨B, cb, rfl, _, _, _⟩ := sl_open hr
    refine x_ld1 sc22 hc rfl ?_
    have q1 := fl_take_succ l k hk2
    have q2 := fl_take_le l (k + 1)
    have q3 : (l.take (k + 1)).flatten.length = (l.take k).flatten.length + l[k].length := by rw [q1, List.length_append]
    have e3 : ¬ (w64 (9223372036854775807 - ((l.take k).flatten.length : Int)) < (l[k].length : Int)) := by unfold w64; omega
    refine ve e3 ?_
    exact ⟨k + 1, ⟨i64_eq (by rw [q3]; unfold w64; omega), i64_eq (by unfold w64; omega)⟩, ⟨hk2, H⟩, by omega⟩
  · refine vh fun hlt => ?_
    obtain rfl : k = l.length := by omega
    rw [List.take_length]
    refine o_ext Tryz.func78 (by kernel_rfl) (by kernel_rfl) (by kernel_rfl) (e := Extern.BytealgMakeNoZero.makeNoZero #[3] #[22]) (by kernel_rfl) ?_
    refine x_mkNZ H Tryz.underlying22 (by omega) fun g cs w3 hcs H => vs ?_
    refine x_hm sl22 hcs (vs ?_)
    refine x_ele H sl78 rfl 0 (by omega) ha rfl fun ad es hb hr hc => vs ?_
    obtain ⟨u, rfl⟩ := sl_one hr
    refine x_ld1 sc22 hc rfl (vs ?_)
    have q0 := fl_take_le l 1
    have q1 : (l.take 1).flatten = l[0]'(by omega) := by rw [fl_take_succ l 0 (by omega)]; simp
    rw [q1] at q0
    refine x_cpB (cur := cs) H sl22 (H.rd hr) q0 (by omega) fun w4 H => vs ?_
    have hcur : ∃ cur : List Value, cur = cs.take 0 ++ (l[0]'(by omega)).map encB ++ cs.drop (0 + (l[0]'(by omega)).length) := ⟨_, rfl⟩
    obtain ⟨cur, hcur⟩ := hcur
    rw [← hcur] at H
    have hcl : cur.length = cs.length := by rw [hcur]; simp; omega
    have hct : cur.take (l.take 1).flatten.length = ((l.take 1).flatten).map encB := by rw [hcur, q1]; simp
    refine x_from (wr := w) sl78 rfl h0 (show 1 ≤ l.length by omega) fun v' hv' => ?_
    obtain ⟨A', c', rfl, hc1', hc2', ha'⟩ := sl_open hv'
    refine vs ?_
    refine loop_at (σ := Nat × List Value) (fun x => [(1, .slice none 0 0), (8, .slice (some ⟨g, 0, none⟩) l.flatten.length l.flatten.length), (9, .int .i64 ((l.take (x.1 + 1)).flatten.length : Int)), (70, .slice A' (l.drop 1).length c'), (71, .int .i64 ((l.drop 1).length : Int)), (72, .int .i64 (x.1 : Int))])
      (fun x w' => x.1 ≤ (l.drop 1).length ∧ x.2.length = cs.length ∧ x.2.take (l.take (x.1 + 1)).flatten.length = ((l.take (x.1 + 1)).flatten).map encB ∧ Sep w.heap.size w w' [Ck.box g x.2 5]) (fun x => (l.drop 1).length - x.1) (0, cur) (vs ?_) ⟨Nat.zero_le _, hcl, hct, H⟩ ?_
    · exact i64_eq (by show ((l[0]'(by omega)).length : Int) = ((l.take 1).flatten.length : Int); rw [q1])
    rintro ⟨k, cur⟩ s w5 ⟨hk, hcl, hct, H⟩
    dsimp only at hk hcl hct H
    refine vs (ways ?_ ?_)
    · refine vh fun hlt => ?_
      have hk2 : k < (l.drop 1).length := by omega
      have hk3 : k + 1 < l.length := by simp at hk2; omega
      refine x_ele H sl78 rfl k hk2 ha' rfl fun ad es hb hr hc => vs ?_
      obtain ⟨u, rfl⟩ := sl_one hr
      refine x_ld1 sc22 hc rfl (vs ?_)
      have J := joinF hk3 hl hlm (Nat.le_trans hcs (Nat.le_of_eq hcl.symm))
      have z4 : (l.drop 1)[k] = l[k + 1] := by rw [List.getElem_drop]; congr 1; exact Nat.add_comm 1 k
      rw [z4] at hr
      refine x_offB sl22 rfl J.le (vs ?_)
      have hnil : (bytes 5).rd w5 w5.heap.size [.slice none 0 0] [] := Kd.own_rd _ (sl_zero w5) (by simp)
      refine x_cpB (cur := cur) H sl22 hnil (Nat.zero_le _) J.off0 fun w6 H => ?_
      simp only [List.map_nil, List.append_nil, List.length_nil, Nat.add_zero, List.take_append_drop] at H
      refine ve J.add0 ?_
      refine x_offB sl22 rfl J.le (vs ?_)
      refine x_cpB (cur := cur) H sl22 (H.rd hr) J.sub J.off fun w7 H => vs ?_
      obtain ⟨y1, y2⟩ := join_cur (a := l[k + 1]) hct J.sum (Nat.le_trans hcs (Nat.le_of_eq hcl.symm))
      rw [← fl_take_succ l (k + 1) hk3] at y2
      exact ⟨(k + 1, _), ⟨i64_eq J.add, i64_eq J.succ⟩, ⟨hk2, y1.trans hcl, y2, H⟩, J.less⟩
    · refine vh fun hlt => ?_
      obtain rfl : k = (l.drop 1).length := by omega
      have hk3 : (l.drop 1).length + 1 = l.length := by simp; omega
      rw [hk3, List.take_length] at hct
      exact ⟨_, H.full (by omega) (by omega) hct⟩
theorem joined_ok (w : World) (v : Value) (l : List (List UInt8)) (h : (Kd.slice 22 (bytes 5)).rd w w.heap.size [v] l) (hl : l.flatten.length ≤ 1099511627776) :
    ACalls Tryz.prog 42 #[v] w fun r w' => ∃ fp, Sep w.heap.size w w' [Ck.own (bytes 5) fp [r] l.flatten] := by
  refine body_of follows Tryz.func42 rfl rfl _ rfl (by kernel_rfl) (vs ?_)
  refine x_callf (Sep.start w) (bytesJoin_ok w v l h hl) fun r fp w1 H => vs ?_
  exact ⟨_, H⟩

end Go.Proofs.YtcmckbgiiclomaaGreatDoor.V
