/- A reader as bytes: the models and the statement side. -/
import Derived.Test.YtijbmapeechcpaaVu
import Derived.Test.YtijbmapeechcpaaWf
import Derived.Test.YtijbmapeechcpaaWk
import Derived.Test.YtijbmapeechcpaaWm
namespace Go.Proofs.Ytijbmapeechcpaa.V
open Go Go.RowKit
set_option maxRecDepth 100000
set_option maxHeartbeats 4000000
set_option linter.unusedSimpArgs false
set_option linter.unusedVariables false
set_option pp.deepTerms false
set_option pp.deepTerms.threshold 3

def lenB (b : List UInt8) : List UInt8 := greatB (b.length : Int) 2 ++ b
def listsB (l : List (List UInt8)) : List UInt8 := (l.map lenB).flatten
def headB (x : MReader) : List UInt8 := [UInt8.ofNat x.f_Epoch.toNat, UInt8.ofNat x.f_Seen.length]
noncomputable def readerBytes (x : MReader) : List UInt8 := if readerOk x = true then x.f_Seed ++ headB x ++ listsB (x.f_Seen ++ x.f_Got) else []
theorem listsB_app (a b : List (List UInt8)) : listsB (a ++ b) = listsB a ++ listsB b := by unfold listsB; rw [List.map_append, List.flatten_append]
theorem listsB_take {l : List (List UInt8)} {k : Nat} (h : k < l.length) : listsB (l.take (k + 1)) = listsB (l.take k) ++ greatB ((l[k]).length : Int) 2 ++ l[k] := by
  rw [List.take_succ_eq_append_getElem h, listsB_app, List.append_assoc]
  simp [listsB, lenB]
theorem lenB_le {b : List UInt8} (h : b.length ≤ 2000) : (lenB b).length ≤ 2008 := by
  have := greatB_len (b.length : Int) 2
  unfold lenB
  rw [List.length_append]; omega
theorem listsB_len : ∀ {l : List (List UInt8)}, (∀ b ∈ l, b.length ≤ 2000) → (listsB l).length ≤ l.length * 2008
  | [], _ => by simp [listsB]
  | b :: l, h => by
    have h1 := lenB_le (h b (List.mem_cons_self ..))
    have h2 := listsB_len (l := l) fun c hc => h c (List.mem_cons_of_mem _ hc)
    have e : listsB (b :: l) = lenB b ++ listsB l := by simp [listsB]
    rw [e, List.length_append, List.length_cons, Nat.add_mul]; omega
theorem readerOk_p {x : MReader} (h : readerOk x = true) : readerP x := by
  unfold readerOk at h
  exact @of_decide_eq_true _ (Classical.propDecidable _) h
theorem reader_small {x : MReader} (h : readerOk x = true) : (∀ b ∈ x.f_Seen, b.length ≤ 2000) ∧ (∀ b ∈ x.f_Got, b.length ≤ 2000) := by
  obtain ⟨h1, h2, h3, h4, h5⟩ := readerOk_p h
  refine ⟨fun b hb => ?_, fun b hb => ?_⟩
  · obtain ⟨i, hi, rfl⟩ := List.getElem_of_mem hb
    obtain ⟨_, _, h6, _, _⟩ := h5 i hi
    omega
  · obtain ⟨i, hi, rfl⟩ := List.getElem_of_mem hb
    obtain ⟨_, _, _, h7, _⟩ := h5 i (by omega)
    omega
theorem readerBytes_len (x : MReader) : (readerBytes x).length ≤ 100000 := by
  unfold readerBytes
  by_cases h : readerOk x = true
  · rw [if_pos h]
    obtain ⟨h1, h2, h3, h4, h5⟩ := readerOk_p h
    obtain ⟨s1, s2⟩ := reader_small h
    have := listsB_len (l := x.f_Seen ++ x.f_Got) fun b hb => (List.mem_append.1 hb).elim (s1 b) (s2 b)
    rw [List.length_append] at this
    simp only [List.length_append, headB, List.length_cons, List.length_nil]
    omega
  · rw [if_neg h]; simp

theorem l27Lists_ok (w : World) (v : Value) (l : List (List UInt8)) (h : (Kd.slice 22 (bytes 5)).rd w w.heap.size [v] l) (hl : l.length ≤ 40) (hb : ∀ b ∈ l, b.length ≤ 2000) :
    ACalls Try.prog 24 #[v] w fun r w' => ∃ fp, Sep w.heap.size w w' [Ck.own (bytes 5) fp [r] (listsB l)] := by
  obtain ⟨A, c, rfl, _, _, ha⟩ := sl_open h
  refine body_of follows Try.func24 rfl rfl _ rfl (by kernel_rfl) (vs ?_)
  refine x_emp (Sep.start w) pl_u8 sl22 fun g1 w1 H => vs ?_
  refine loop_at (σ := Nat × Value × List Nat) (fun y => [(0, .slice A l.length c), (3, y.2.1), (4, .int .i64 (y.1 : Int))])
    (fun y w' => y.1 ≤ l.length ∧ Sep w.heap.size w w' [Ck.own (bytes 5) y.2.2 [y.2.1] (listsB (l.take y.1))]) (fun y => l.length - y.1) (0, .slice (some ⟨g1, 0, none⟩) 0 0, [g1]) (vs trivial) ⟨Nat.zero_le _, H⟩ ?_
  rintro ⟨k, u, fp⟩ s w2 ⟨hk, H⟩
  dsimp only at hk H
  refine vs (ways ?_ ?_)
  · refine vh fun hlt => ?_
    have hk2 : k < l.length := by omega
    have hbk : (l[k]).length ≤ 2000 := hb _ (List.getElem_mem hk2)
    have htl := listsB_len (l := l.take k) fun b hb' => hb b (List.mem_of_mem_take hb')
    rw [List.length_take, Nat.min_eq_left (by omega)] at htl
    have hgl := greatB_len ((l[k]).length : Int) 2
    refine x_ele H sl23 rfl k hk2 ha rfl fun ad es hb1 hr hc => vs ?_
    obtain ⟨u1, rfl⟩ := sl_one hr
    obtain ⟨A1, c1, rfl, _⟩ := sl_open hr
    refine x_ld1 sc22 hc rfl (vs ?_)
    refine x_callf H (specGreat_ok w2 ((l[k]).length : Int) 2 (by omega)) fun r3 f3 w3 H => vs ?_
    refine x_app (F := fun c => Ck.own (bytes 5) f3 [r3] (greatB ((l[k]).length : Int) 2) :: c :: []) H pl_u8 sl22 (H.own (.head _)) ?_ ?_ (fun f4 v4 w4 H => vs ?_) (.there .here)
    · omega
    · omega
    refine x_ele H sl23 rfl k hk2 ha rfl fun ad es hb1 hr hc => vs ?_
    obtain ⟨u2, rfl⟩ := sl_one hr
    refine x_ld1 sc22 hc rfl (vs ?_)
    refine x_app (F := fun c => Ck.own (bytes 5) f3 [r3] (greatB ((l[k]).length : Int) 2) :: c :: []) H pl_u8 sl22 (H.rd hr) ?_ ?_ (fun f5 v5 w5 H => vs ?_) (.there .here)
    · rw [List.length_append]; omega
    · rw [List.length_append]; omega
    refine ⟨(k + 1, v5, f5), ⟨rfl, i64_eq (by show w64 ((k : Int) + 1) = ((k + 1 : Nat) : Int); exact w64_succ (b := 1048576) (by omega) (by omega))⟩, ⟨by dsimp only; omega, ?_⟩, by show l.length - (k + 1) < l.length - k; omega⟩
    show Sep _ _ _ [Ck.own (bytes 5) f5 [v5] (listsB (l.take (k + 1)))]
    rw [listsB_take hk2]
    exact H.tail
  · refine vh fun hlt => ?_
    obtain rfl : k = l.length := by omega
    rw [List.take_length] at H
    exact ⟨_, H⟩
theorem u8_lowR {k : Nat} (h : k < 256) : (k : Int) % 256 = ((UInt8.ofNat k).toNat : Int) := by
  rw [UInt8.toNat_ofNat']; omega
theorem u8_ep {n : Int} (h : 0 ≤ n ∧ n ≤ 40) : n % 256 = ((UInt8.ofNat n.toNat).toNat : Int) := by
  have := u8_lowR (k := n.toNat) (by omega)
  rw [← this]; omega

theorem specReaderBytes_ok (w : World) (cs : List Value) (x : MReader) (h : kReader.rd w w.heap.size cs x) :
    ACalls Try.prog 14 #[.agg cs.toArray] w fun r w' => ∃ fp, Sep w.heap.size w w' [Ck.own (bytes 5) fp [r] (readerBytes x)] := by
  obtain ⟨v0, v2, v3, rfl, h0, hE, h2, h3⟩ := kReader_open h
  obtain ⟨A2, c2, rfl, _⟩ := sl_open h2
  have H := Sep.start w
  refine body_of follows Try.func14 rfl rfl _ rfl (by kernel_rfl) (vs ?_)
  refine x_bx H [v0, .int .i64 x.f_Epoch, .slice A2 x.f_Seen.length c2, v3] fun g1 w1 H => vs ?_
  have J := Sep.start w1
  refine x_lda H st25 ?_
  refine vs ?_
  refine x_callb J (specReaderOk_ok w1 _ x (H.rd h)) fun w2 J => ?_
  cases hok : readerOk x with
  | false =>
    refine vs ?_
    refine x_emp J pl_u8 sl22 fun g3 w3 J => vs ?_
    have e : readerBytes x = [] := by unfold readerBytes; rw [if_neg (by rw [hok]; decide)]
    rw [e]
    exact ⟨_, (H.join J).head⟩
  | true =>
    obtain ⟨p1, p2, p3, p4, p5⟩ := readerOk_p hok
    obtain ⟨s1, s2⟩ := reader_small hok
    have e : readerBytes x = x.f_Seed ++ headB x ++ listsB x.f_Seen ++ listsB x.f_Got := by unfold readerBytes; rw [if_pos hok, listsB_app, ← List.append_assoc]
    rw [e]
    have hls := listsB_len s1
    have hlg := listsB_len s2
    have hsd : (x.f_Seed ++ headB x).length = 34 := by simp [headB, p1]
    have u1 := u8_ep p2
    have u2 := u8_lowR (k := x.f_Seen.length) (by omega)
    refine vs ?_
    refine fork_draw w1.heap.size [] fun w4 hh hb4 => ?_
    have J := J.go (hb4 _)
    have J3 := J
    refine rest_pre [(1, true), (2, true), (4, true), (5, true), (6, true), (7, true), (8, true), (9, true), (10, true)] 5 ?_
    refine vs ?_
    refine q_ldB H J3 sc22 ?_
    refine vs ?_
    refine q_ldB H J3 sc3 ?_
    refine vs ?_
    refine q_ldB H J3 sc23 ?_
    refine vs ?_
    refine rest_fork 0 11 4 ?_ ?_
    · refine vs ?_
      refine x_emp J pl_u8 sl22 fun g5 w5 J => vs ?_
      refine ⟨kept_base J3 J, ?_⟩
      refine rest_fork 3 11 3 ?_ ?_
      · refine vs ?_
        refine x_app (l := []) J pl_u8 sl22 (J.rd (H.rd h0)) ?_ ?_ fun f7 v7 w7 J => vs ?_
        · simp only [List.length_nil]; omega
        · simp only [List.length_nil]; omega
        refine ⟨kept_base J3 J, ?_⟩
        rw [List.nil_append] at J
        refine rest_end [(11, false), (12, false), (13, true)] ?_
        refine ve (And.intro u1 u2) ?_
        refine x_lst J pl_u8 sl22 (headB x) (by simp) fun g6 w6 J => vs ?_
        refine ⟨kept_base J3 J, ?_⟩
        refine x_app J pl_u8 sl22 (l := x.f_Seed) (l' := headB x) (J.own (d := bytes 5) (fp := [g6]) (by simp)) ?_ ?_ fun f8 v8 w8 J => vs ?_
        · rw [← List.length_append]; omega
        · rw [← List.length_append]; omega
        refine ⟨kept_base J3 J, ?_⟩
        have J := J.front (c := Ck.own (bytes 5) f8 [v8] (x.f_Seed ++ headB x))
        refine x_ld (H.join J) sc23 ?_
        refine vs ?_
        refine x_callf J (l27Lists_ok w8 _ x.f_Seen (J.rd (H.rd h2)) (by omega) s1) fun r9 f9 w9 J => vs ?_
        refine x_app J pl_u8 sl22 (l := x.f_Seed ++ headB x) (J.own (.head _)) ?_ ?_ fun f10 v10 w10 J => vs ?_
        · omega
        · omega
        refine x_ld (H.join J) sc23 ?_
        refine vs ?_
        refine x_callf J (l27Lists_ok w10 _ x.f_Got (J.rd (H.rd h3)) (by omega) s2) fun r11 f11 w11 J => vs ?_
        refine x_app J pl_u8 sl22 (l := x.f_Seed ++ headB x ++ listsB x.f_Seen) (J.own (.head _)) ?_ ?_ fun f12 v12 w12 J => vs ?_
        · rw [List.length_append]; omega
        · rw [List.length_append]; omega
        have H := H.join J
        simp only [List.cons_append, List.nil_append] at H
        have H := H.front (c := Ck.own (bytes 5) f12 [v12] (x.f_Seed ++ headB x ++ listsB x.f_Seen ++ listsB x.f_Got))
        exact ⟨_, H.head⟩
      · refine ve (And.intro u1 u2) ?_
        refine x_lst J pl_u8 sl22 (headB x) (by simp) fun g6 w6 J => vs ?_
        refine ⟨kept_base J3 J, ?_⟩
        refine rest_end [(3, false), (12, false), (13, true)] ?_
        refine vs ?_
        refine x_app (l := []) J pl_u8 sl22 (J.rd (H.rd h0)) ?_ ?_ fun f7 v7 w7 J => vs ?_
        · simp only [List.length_nil]; omega
        · simp only [List.length_nil]; omega
        refine ⟨kept_base J3 J, ?_⟩
        rw [List.nil_append] at J
        refine x_app J pl_u8 sl22 (l := x.f_Seed) (l' := headB x) (J.own (d := bytes 5) (fp := [g6]) (by simp)) ?_ ?_ fun f8 v8 w8 J => vs ?_
        · rw [← List.length_append]; omega
        · rw [← List.length_append]; omega
        refine ⟨kept_base J3 J, ?_⟩
        have J := J.front (c := Ck.own (bytes 5) f8 [v8] (x.f_Seed ++ headB x))
        refine x_ld (H.join J) sc23 ?_
        refine vs ?_
        refine x_callf J (l27Lists_ok w8 _ x.f_Seen (J.rd (H.rd h2)) (by omega) s1) fun r9 f9 w9 J => vs ?_
        refine x_app J pl_u8 sl22 (l := x.f_Seed ++ headB x) (J.own (.head _)) ?_ ?_ fun f10 v10 w10 J => vs ?_
        · omega
        · omega
        refine x_ld (H.join J) sc23 ?_
        refine vs ?_
        refine x_callf J (l27Lists_ok w10 _ x.f_Got (J.rd (H.rd h3)) (by omega) s2) fun r11 f11 w11 J => vs ?_
        refine x_app J pl_u8 sl22 (l := x.f_Seed ++ headB x ++ listsB x.f_Seen) (J.own (.head _)) ?_ ?_ fun f12 v12 w12 J => vs ?_
        · rw [List.length_append]; omega
        · rw [List.length_append]; omega
        have H := H.join J
        simp only [List.cons_append, List.nil_append] at H
        have H := H.front (c := Ck.own (bytes 5) f12 [v12] (x.f_Seed ++ headB x ++ listsB x.f_Seen ++ listsB x.f_Got))
        exact ⟨_, H.head⟩
    · refine ve (And.intro u1 u2) ?_
      refine x_lst J pl_u8 sl22 (headB x) (by simp) fun g6 w6 J => vs ?_
      refine ⟨kept_base J3 J, ?_⟩
      refine rest_end [(0, false), (3, false), (12, false), (13, true)] ?_
      refine vs ?_
      refine x_emp J pl_u8 sl22 fun g5 w5 J => vs ?_
      refine ⟨kept_base J3 J, ?_⟩
      refine x_app (l := []) J pl_u8 sl22 (J.rd (H.rd h0)) ?_ ?_ fun f7 v7 w7 J => vs ?_
      · simp only [List.length_nil]; omega
      · simp only [List.length_nil]; omega
      refine ⟨kept_base J3 J, ?_⟩
      rw [List.nil_append] at J
      refine x_app J pl_u8 sl22 (l := x.f_Seed) (l' := headB x) (J.own (d := bytes 5) (fp := [g6]) (by simp)) ?_ ?_ fun f8 v8 w8 J => vs ?_
      · rw [← List.length_append]; omega
      · rw [← List.length_append]; omega
      refine ⟨kept_base J3 J, ?_⟩
      have J := J.front (c := Ck.own (bytes 5) f8 [v8] (x.f_Seed ++ headB x))
      refine x_ld (H.join J) sc23 ?_
      refine vs ?_
      refine x_callf J (l27Lists_ok w8 _ x.f_Seen (J.rd (H.rd h2)) (by omega) s1) fun r9 f9 w9 J => vs ?_
      refine x_app J pl_u8 sl22 (l := x.f_Seed ++ headB x) (J.own (.head _)) ?_ ?_ fun f10 v10 w10 J => vs ?_
      · omega
      · omega
      refine x_ld (H.join J) sc23 ?_
      refine vs ?_
      refine x_callf J (l27Lists_ok w10 _ x.f_Got (J.rd (H.rd h3)) (by omega) s2) fun r11 f11 w11 J => vs ?_
      refine x_app J pl_u8 sl22 (l := x.f_Seed ++ headB x ++ listsB x.f_Seen) (J.own (.head _)) ?_ ?_ fun f12 v12 w12 J => vs ?_
      · rw [List.length_append]; omega
      · rw [List.length_append]; omega
      have H := H.join J
      simp only [List.cons_append, List.nil_append] at H
      have H := H.front (c := Ck.own (bytes 5) f12 [v12] (x.f_Seed ++ headB x ++ listsB x.f_Seen ++ listsB x.f_Got))
      exact ⟨_, H.head⟩
end Go.Proofs.Ytijbmapeechcpaa.V
