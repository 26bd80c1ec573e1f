/- Draws of bytes, of signs, of one of a list. -/
import Derived.Test.YtagljofpmjaciaaWda
import Derived.Test.YtagljofpmjaciaaWu
namespace Go.Proofs.Ytagljofpmjaciaa.V
open Go Go.RowKit
set_option maxRecDepth 100000
set_option maxHeartbeats 4000000
set_option linter.unusedSimpArgs false
set_option linter.unusedVariables false
set_option pp.deepTerms false
set_option pp.deepTerms.threshold 3

/-- One of a list of numbers. -/
theorem l1PickInt_ok {n : Nat} {w0 w : World} {L : List Ck} {g : Nat} {v u : Value} {i h : Int} {a : List UInt8} {fp : List Nat} (l : List Int) (H : Sep n w0 w (Ck.own (Kd.slice 3 Kd.i64) fp [u] l :: curB g v i h :: L)) (hv : (bytes 5).rd w0 n [v] a) (hi : 0 ≤ i ∧ i ≤ a.length) (hl : 0 < l.length) :
    ACalls Try.prog 72 #[.pointer (some ⟨g, 0, none⟩), u] w fun r w' => ∃ (x : Int) (i' h' : Int), r = .int .i64 x ∧ x ∈ l ∧ (-9223372036854775808 ≤ x ∧ x < 9223372036854775808) ∧ (0 ≤ i' ∧ i' ≤ a.length) ∧ Sep n w0 w' (curB g v i' h' :: L) := by
  obtain ⟨A, c, rfl, hc1, hc2, _⟩ := sl_open (H.own (.head _))
  refine body_of follows Try.func72 rfl rfl _ rfl (by kernel_rfl) (vs ?_)
  have H := H.front (c := curB g v i h)
  refine x_call (l1Below_ok (l.length : Int) H hv hi) fun _ w2 ⟨k, i1, h1, e, hk, hi1, H⟩ => ?_
  subst e
  refine vs ?_
  have hk2 : k < l.length := by omega
  obtain ⟨A', c', e', hc1', hc2', ha'⟩ := sl_open (H.own (.tail _ (.head _)))
  simp only [Value.slice.injEq] at e'
  obtain ⟨rfl, _, rfl⟩ := e'
  refine x_elV pl_i64 sl89 (x := l[k]) k ha' (List.getElem?_eq_getElem _) rfl rfl fun ad hb hc hr => vs ?_
  refine x_load sc3 hc (vs ?_)
  exact ⟨_, _, _, rfl, List.getElem_mem _, hr, hi1, H.drops' (L := [_])⟩
/-- One of a list of texts. -/
theorem l1Pick_ok {n : Nat} {w0 w : World} {L : List Ck} {g : Nat} {v u : Value} {i h : Int} {a : List UInt8} {fp : List Nat} (l : List (List UInt8)) (H : Sep n w0 w (Ck.own (Kd.slice 9 Kd.str) fp [u] l :: curB g v i h :: L)) (hv : (bytes 5).rd w0 n [v] a) (hi : 0 ≤ i ∧ i ≤ a.length) (hl : 0 < l.length) :
    ACalls Try.prog 69 #[.pointer (some ⟨g, 0, none⟩), u] w fun r w' => ∃ (x : List UInt8) (i' h' : Int), r = .string ⟨x.toArray⟩ ∧ x ∈ l ∧ (0 ≤ i' ∧ i' ≤ a.length) ∧ Sep n w0 w' (curB g v i' h' :: L) := by
  obtain ⟨A, c, rfl, hc1, hc2, _⟩ := sl_open (H.own (.head _))
  refine body_of follows Try.func69 rfl rfl _ rfl (by kernel_rfl) (vs ?_)
  have H := H.front (c := curB g v i h)
  refine x_call (l1Below_ok (l.length : Int) H hv hi) fun _ w2 ⟨k, i1, h1, e, hk, hi1, H⟩ => ?_
  subst e
  refine vs ?_
  have hk2 : k < l.length := by omega
  obtain ⟨A', c', e', hc1', hc2', ha'⟩ := sl_open (H.own (.tail _ (.head _)))
  simp only [Value.slice.injEq] at e'
  obtain ⟨rfl, _, rfl⟩ := e'
  refine x_elV pl_str sl85 (x := l[k]) k ha' (List.getElem?_eq_getElem _) rfl rfl fun ad hb hc hr => vs ?_
  refine x_load sc9 hc (vs ?_)
  exact ⟨_, _, _, rfl, List.getElem_mem _, hi1, H.drops' (L := [_])⟩

theorem drawSixes_ok (w : World) (v : Value) (a : List UInt8) (hv : (bytes 5).rd w w.heap.size [v] a) :
    ACalls Try.prog 13 #[v] w fun r w' => ∃ (b : List UInt8) (fp : List Nat), b.length ≤ 20 ∧ Sep w.heap.size w w' [Ck.own (bytes 5) fp [r] b] := by
  refine body_of follows Try.func13 rfl rfl _ rfl (by kernel_rfl) (vs ?_)
  refine x_call (l1New_ok w v a hv) fun _ w1 ⟨g, i, h, e, hi, H⟩ => ?_
  subst e
  refine vs ?_
  refine x_call (l1DrawBytes_ok 20 H hv hi (by omega)) fun r w2 ⟨b, fp, i1, h1, hb, hi1, H⟩ => ?_
  refine vs ?_
  exact ⟨b, fp, hb, H.drops' (L := [_])⟩
theorem drawSixesLen_ok (w : World) (v : Value) (a : List UInt8) (hv : (bytes 5).rd w w.heap.size [v] a) :
    ACalls Try.prog 18 #[v] w fun r w' => ∃ x : Int, r = .int .i64 x ∧ (-9223372036854775808 ≤ x ∧ x < 9223372036854775808) ∧ Below w.heap.size w w' := by
  refine body_of follows Try.func18 rfl rfl _ rfl (by kernel_rfl) (vs ?_)
  refine x_call (l1New_ok w v a hv) fun _ w1 ⟨g, i, h, e, hi, H⟩ => ?_
  subst e
  refine vs ?_
  refine x_lst H pl_i64 sl89 [0, 1, 2, 3, 4, 100, 4000, 4001, -1] (by simp) fun g2 w2 H => vs ?_
  refine x_call (l1PickInt_ok _ H hv hi (by simp)) fun r w2 ⟨x, i1, h1, e, _, hx, hi1, H⟩ => ?_
  subst e
  refine vs ?_
  exact ⟨_, rfl, hx, H.bel⟩

/-! ### texts, cut -/
theorem str_to (l : List UInt8) (k : Nat) : (⟨l.toArray⟩ : ByteArray).extract 0 k = ⟨(l.take k).toArray⟩ := by
  apply ByteArray.ext
  simp [ByteArray.data_extract]
theorem str_from (l : List UInt8) (k m : Nat) (h : m = l.length) : (⟨l.toArray⟩ : ByteArray).extract k m = ⟨(l.drop k).toArray⟩ := by
  subst h
  apply ByteArray.ext
  simp [ByteArray.data_extract]
  exact List.take_of_length_le (by simp)
section
variable {P : Program} {m : Nat} {w : World} {K : Value → World → Prop} {KQ : Value → Prop} {G : List (Nat × Nat)} {tg : Tg K} {tq : Tg (m, G, w, KQ)} {t : TypeId} {l : List UInt8} {k : IntKind} {i : Nat}
theorem run_str_hi {w : World} (ht : P.underlying t = some .string) (hi : i ≤ l.length) : (Instr.sliceAt t (.string ⟨l.toArray⟩) none (some (.int k (i : Int))) none).run P w = .ok (.string ⟨(l.take i).toArray⟩) w := by
  rw [run_sliceAt_string w t _ _ _ _ ht, run_slice_string_h w t _ ht k _ (by omega) (by rw [str_size]; omega), Int.toNat_natCast, str_to]
theorem run_str_lo {w : World} (ht : P.underlying t = some .string) (hi : i ≤ l.length) : (Instr.sliceAt t (.string ⟨l.toArray⟩) (some (.int k (i : Int))) none none).run P w = .ok (.string ⟨(l.drop i).toArray⟩) w := by
  rw [run_sliceAt_string w t _ _ _ _ ht, run_slice_string_l w t _ ht k _ (by omega) (by rw [str_size]; omega), Int.toNat_natCast, str_from _ _ _ (str_size ..)]
theorem x_strTo (ht : P.underlying t = some .string) (hi : i ≤ l.length) (h : K (.string ⟨(l.take i).toArray⟩) w) : VS P K tg (Instr.sliceAt t (.string ⟨l.toArray⟩) none (some (.int k (i : Int))) none) w := vS_run (run_str_hi ht hi) h
theorem q_strTo (ht : P.underlying t = some .string) (hi : i ≤ l.length) (h : KQ (.string ⟨(l.take i).toArray⟩)) : QS P m G w KQ tq (Instr.sliceAt t (.string ⟨l.toArray⟩) none (some (.int k (i : Int))) none) := QS_of (fun _ _ => run_str_hi ht hi) h
theorem q_strFrom (ht : P.underlying t = some .string) (hi : i ≤ l.length) (h : KQ (.string ⟨(l.drop i).toArray⟩)) : QS P m G w KQ tq (Instr.sliceAt t (.string ⟨l.toArray⟩) (some (.int k (i : Int))) none none) := QS_of (fun _ _ => run_str_lo ht hi) h
theorem q_sadd {x y : Operand} {a b : List UInt8} (hl : a.length + b.length ≤ 9223372036854775807) (h : KQ (.string ⟨(a ++ b).toArray⟩)) : QBin P m G w KQ tq .add t x y (.string ⟨a.toArray⟩) (.string ⟨b.toArray⟩) := by unfold QBin; exact QS_of (fun _ _ => run_sadd hl) h
end
def mixS : List (List UInt8) := [[65], [95], [61], [43], [66]]
theorem drawUnsixes_ok (w : World) (v : Value) (a : List UInt8) (hv : (bytes 5).rd w w.heap.size [v] a) :
    ACalls Try.prog 15 #[v] w fun r w' => ∃ x : List UInt8, r = .string ⟨x.toArray⟩ ∧ x.length ≤ 100 ∧ Below w.heap.size w w' := by
  refine body_of follows Try.func15 rfl rfl _ rfl (by kernel_rfl) (vs ?_)
  refine x_call (l1New_ok w v a hv) fun _ w1 ⟨g, i, h, e, hi, H⟩ => ?_
  subst e
  refine vs ?_
  refine x_call (l1DrawBytes_ok 10 H hv hi (by omega)) fun r w2 ⟨b, fp, i1, h1, hb, hi1, H⟩ => ?_
  refine vs ?_
  refine x_callb H (specSixes_ok w2 _ b (H.own (.head _)) (by omega)) fun w3 H => ?_
  have hl := sixes_len b
  refine ve (show w64 (((sixes b).length : Int) + 1) = ((sixes b).length : Int) + 1 from w64_id (by omega) (by omega)) ?_
  have H := H.front (c := curB g v i1 h1)
  refine x_call (l1Below_ok _ H hv hi1) fun _ w4 ⟨k, i2, h2, e, hk, hi2, H⟩ => ?_
  subst e
  have hk2 : k ≤ (sixes b).length := by omega
  refine vs ?_
  refine x_call (l1Below_ok 5 H hv hi2) fun _ w5 ⟨c, i3, h3, e, hc, hi3, H⟩ => ?_
  subst e
  refine vs ?_
  by_cases q0 : (c : Int) = 0
  · refine ve q0 ?_
    refine x_strTo Try.underlying9 hk2 ?_
    refine vs ?_
    exact ⟨_, rfl, by rw [List.length_take]; omega, H.bel⟩
  refine ve q0 ?_
  by_cases q1 : (c : Int) = 1
  · refine ve q1 ?_
    refine draw_of [(0, true), (1, true), (2, true), (3, true), (7, true), (8, true), (9, true), (4, false), (5, false), (6, true), (10, true), (11, true)] w.heap.size [] fun w6 hh hb6 => vs ?_
    have H := H.go (hb6 _)
    have H6 := H
    refine q_strTo Try.underlying9 hk2 ?_
    refine vs ?_
    refine q_strFrom Try.underlying9 hk2 ?_
    refine vs ?_
    refine x_lst H pl_str sl85 mixS (by unfold mixS; simp) fun g7 w7 H => vs ?_
    refine ⟨kept_base H6 H, ?_⟩
    refine x_call (l1Pick_ok mixS H hv hi3 (by decide)) fun _ w8 ⟨x, i4, h4, e, hx, hi4, H⟩ => ?_
    subst e
    have hxl : x.length = 1 := by
      simp only [mixS, List.mem_cons, List.not_mem_nil, or_false] at hx
      rcases hx with rfl | rfl | rfl | rfl | rfl <;> rfl
    refine vs ?_
    refine ⟨kept_base H6 H, ?_⟩
    refine q_sadd (by rw [List.length_take]; omega) ?_
    refine vs ?_
    refine q_sadd (by rw [List.length_append, List.length_take, List.length_drop]; omega) ?_
    refine vs ?_
    exact ⟨_, rfl, by rw [List.length_append, List.length_append, List.length_take, List.length_drop]; omega, H.bel⟩
  · refine ve q1 ?_
    exact ⟨_, rfl, by omega, H.bel⟩

def sixesLen (n : Int) : Int := if 0 ≤ n ∧ n ≤ 4000 then (8 * n + 5) / 6 else 0
theorem specSixesLen_ok (w : World) (n : Int) : ACalls Try.prog 22 #[.int .i64 n] w fun r w' => r = .int .i64 (sixesLen n) ∧ w' = w := by
  refine body_of follows Try.func22 rfl rfl _ rfl (by kernel_rfl) (vs ?_)
  refine x_callw (l1In_ok w _ _ _) ?_
  unfold sixesLen
  by_cases q : 0 ≤ n ∧ n ≤ 4000
  · refine ve q ?_
    refine x_quo (h := ?_)
    rw [w64_id (n := 8 * n) (by omega) (by omega), w64_id (n := 8 * n + 5) (by omega) (by omega), Int.tdiv_eq_ediv_of_nonneg (by omega)]
    refine vs ?_
    rw [w64_id (by omega) (by omega), if_pos q]
  · refine ve q ?_
    trivial
theorem implSixesLen_ok (w : World) (n : Int) : ACalls Try.prog 21 #[.int .i64 n] w fun r w' => r = .int .i64 (sixesLen n) ∧ w' = w := by
  refine body_of follows Try.func21 rfl rfl _ rfl (by kernel_rfl) (vs ?_)
  refine x_callw (in_ok w _ _ _) ?_
  unfold sixesLen
  by_cases q : 0 ≤ n ∧ n ≤ 4000
  · refine ve q ?_
    refine x_quo (h := ?_)
    rw [w64_id (n := 8 * n) (by omega) (by omega), w64_id (n := 8 * n + 5) (by omega) (by omega), Int.tdiv_eq_ediv_of_nonneg (by omega)]
    refine vs ?_
    rw [w64_id (by omega) (by omega), if_pos q]
  · refine ve q ?_
    trivial
end Go.Proofs.Ytagljofpmjaciaa.V
