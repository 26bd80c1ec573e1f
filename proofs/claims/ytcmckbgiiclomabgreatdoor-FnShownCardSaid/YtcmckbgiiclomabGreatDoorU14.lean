/- Texts laid by programs, part 14. -/
import Derived.Test.YtcmckbgiiclomabGreatDoorU13
import Derived.Test.YtcmckbgiiclomabGreatDoorU06
import Derived.Test.YtcmckbgiiclomabGreatDoorU07
import Derived.Test.YtcmckbgiiclomabGreatDoorU03
import Derived.Laws.IdiomStrings
namespace Go.Proofs.YtcmckbgiiclomabGreatDoor.V
open Go Go.RowKit
set_option maxRecDepth 100000
set_option maxHeartbeats 16000000
set_option linter.unusedSimpArgs false
set_option linter.unusedVariables false
set_option pp.deepTerms false
set_option pp.deepTerms.threshold 3
def stepOf (n : Nat) : Nat := if n + 2 > 96 then 96 else 32
def padZ (n : Nat) : Nat := (stepOf n - (n + 2) % stepOf n) % stepOf n
def padded (b : List UInt8) : List UInt8 := greatB (b.length : Int) 2 ++ b ++ List.replicate (padZ b.length) 0
theorem great2_len (n : Nat) : (greatB (n : Int) 2).length = 2 := by
  unfold greatB littleB; rw [List.length_reverse, if_pos ⟨by omega, by decide, by decide⟩, List.length_map, List.length_range]; rfl
theorem pd_rem_32 (n : Nat) : ((n : Int)).tmod 32 = ((n % 32 : Nat) : Int) := rfl
theorem pd_rem_96 (n : Nat) : ((n : Int)).tmod 96 = ((n % 96 : Nat) : Int) := rfl
theorem padZ_step {n k s : Nat} (hs : s = stepOf n) (h : ((n + 2 + k) % s = 0) = False) (hk : k ≤ padZ n) : k < padZ n := by
  have h : ¬ (n + 2 + k) % s = 0 := fun e => by rw [e] at h; simp at h
  unfold padZ at hk ⊢; subst hs; have : stepOf n = 96 ∨ stepOf n = 32 := by unfold stepOf; split <;> simp
  rcases this with e | e <;> rw [e] at hk h ⊢ <;> omega
theorem padZ_end {n k s : Nat} (hs : s = stepOf n) (h : (n + 2 + k) % s = 0) (hk : k ≤ padZ n) : k = padZ n := by
  unfold padZ at hk ⊢; subst hs; have : stepOf n = 96 ∨ stepOf n = 32 := by unfold stepOf; split <;> simp
  rcases this with e | e <;> rw [e] at hk h ⊢ <;> omega
theorem padZ_le (n : Nat) : padZ n ≤ 95 := by
  unfold padZ; have : stepOf n = 96 ∨ stepOf n = 32 := by unfold stepOf; split <;> simp
  rcases this with e | e <;> rw [e] <;> omega
theorem rep_one (k : Nat) : List.replicate k (0 : UInt8) ++ [0] = List.replicate (k + 1) 0 := by rw [List.replicate_succ']
theorem specPadded_ok (w : World) (v : Value) (b : List UInt8) (h : (bytes 5).rd w w.heap.size [v] b) (hb : b.length ≤ 200) :
    ACalls Tryz.prog 98 #[v] w fun r w' => ∃ fp, Sep w.heap.size w w' [Ck.own (bytes 5) fp [r] (padded b)] := by
  have h0 := h; obtain ⟨A, c, rfl, _⟩ := sl_open h; have H := Sep.start w; refine body_of follows Tryz.func98 rfl rfl _ rfl (by kernel_rfl) (vs ?_); have hn : ¬ (200 : Int) < (b.length : Int) := by omega
  refine ve hn ?_; refine x_callf H (specGreat_ok w (b.length : Int) 2 (by omega)) fun r1 f1 w1 H => ve hn ?_; have hg := great2_len b.length; have hl : (greatB (b.length : Int) 2 ++ b).length = b.length + 2 := by rw [List.length_append]; omega
  refine x_app (l := greatB (b.length : Int) 2) H pl_u8 sl22 (H.rd h0) ?_ ?_ fun f2 r2 w2 H => ve hn ?_
  · omega
  · omega
  obtain ⟨A2, c2, rfl, _⟩ := sl_open (H.own (.head _)); rw [hl]; have hzl := padZ_le b.length; have loop : ∀ s : Nat, s = stepOf b.length → (s : Int) = 96 ∨ (s : Int) = 32 → True := fun _ _ _ => trivial; have inv0 : Sep w.heap.size w w2 [Ck.own (bytes 5) f2 [.slice A2 (greatB (b.length : Int) 2 ++ b).length c2] (greatB (b.length : Int) 2 ++ b ++ List.replicate 0 0)] := by simpa using H
  rw [hl] at inv0
  by_cases hs : (96 : Int) < ((b.length + 2 : Nat) : Int)
  · have es : stepOf b.length = 96 := by unfold stepOf; rw [if_pos (by omega)]
    refine ve (And.intro hs hn) ?_
    refine loop_at (σ := Nat × Value × List Nat) (fun y => [(3, y.2.1), (4, .int .i64 96)])
      (fun y w' => y.1 ≤ padZ b.length ∧ Sep w.heap.size w w' [Ck.own (bytes 5) y.2.2 [y.2.1] (greatB (b.length : Int) 2 ++ b ++ List.replicate y.1 0)]) (fun y => padZ b.length - y.1) (0, _, f2) (vs trivial) ⟨Nat.zero_le _, inv0⟩ ?_
    rintro ⟨k, r, f⟩ s w5 ⟨hk, H⟩; dsimp only at hk H; obtain ⟨A3, c3, rfl, _⟩ := sl_open (H.own (.head _)); have hl3 : (greatB (b.length : Int) 2 ++ b ++ List.replicate k 0).length = b.length + 2 + k := by rw [List.length_append, hl, List.length_replicate]
    rw [hl3] at H ⊢; refine vs ?_; refine x_rem (b := 96) ?_
    by_cases hz : ((b.length + 2 + k : Nat) : Int).tmod 96 = 0
    · have hk2 := padZ_end es.symm (by have := pd_rem_96 (b.length + 2 + k); omega) hk
      refine ve hz ?_; subst hk2; exact ⟨_, H⟩
    · have hk2 := padZ_step es.symm (eq_false (by have := pd_rem_96 (b.length + 2 + k); omega)) hk
      refine ve hz ?_; refine x_lst H pl_u8 sl22 [0] (by simp) fun g6 w6 H => vs ?_; refine x_app (l := greatB (b.length : Int) 2 ++ b ++ List.replicate k 0) H pl_u8 sl22 (H.own (.head _)) ?_ ?_ fun f7 r7 w7 H => vs ?_
      · simp only [hl3, List.length_cons, List.length_nil]; omega
      · simp only [hl3, List.length_cons, List.length_nil]; omega
      rw [List.append_assoc _ _ [(0 : UInt8)], rep_one] at H; exact ⟨(k + 1, r7, f7), rfl, ⟨hk2, H.tail⟩, by dsimp only; omega⟩
  · have es : stepOf b.length = 32 := by unfold stepOf; rw [if_neg (by omega)]
    refine ve (And.intro hs hn) ?_
    refine loop_at (σ := Nat × Value × List Nat) (fun y => [(3, y.2.1), (4, .int .i64 32)])
      (fun y w' => y.1 ≤ padZ b.length ∧ Sep w.heap.size w w' [Ck.own (bytes 5) y.2.2 [y.2.1] (greatB (b.length : Int) 2 ++ b ++ List.replicate y.1 0)]) (fun y => padZ b.length - y.1) (0, _, f2) (vs trivial) ⟨Nat.zero_le _, inv0⟩ ?_
    rintro ⟨k, r, f⟩ s w5 ⟨hk, H⟩; dsimp only at hk H; obtain ⟨A3, c3, rfl, _⟩ := sl_open (H.own (.head _)); have hl3 : (greatB (b.length : Int) 2 ++ b ++ List.replicate k 0).length = b.length + 2 + k := by rw [List.length_append, hl, List.length_replicate]
    rw [hl3] at H ⊢; refine vs ?_; refine x_rem (b := 32) ?_
    by_cases hz : ((b.length + 2 + k : Nat) : Int).tmod 32 = 0
    · have hk2 := padZ_end es.symm (by have := pd_rem_32 (b.length + 2 + k); omega) hk
      refine ve hz ?_; subst hk2; exact ⟨_, H⟩
    · have hk2 := padZ_step es.symm (eq_false (by have := pd_rem_32 (b.length + 2 + k); omega)) hk
      refine ve hz ?_; refine x_lst H pl_u8 sl22 [0] (by simp) fun g6 w6 H => vs ?_; refine x_app (l := greatB (b.length : Int) 2 ++ b ++ List.replicate k 0) H pl_u8 sl22 (H.own (.head _)) ?_ ?_ fun f7 r7 w7 H => vs ?_
      · simp only [hl3, List.length_cons, List.length_nil]; omega
      · simp only [hl3, List.length_cons, List.length_nil]; omega
      rw [List.append_assoc _ _ [(0 : UInt8)], rep_one] at H; exact ⟨(k + 1, r7, f7), rfl, ⟨hk2, H.tail⟩, by dsimp only; omega⟩
theorem l11Head_ok (w : World) (v : Value) (ep : Int) (a : List UInt8) (hv : (bytes 5).rd w w.heap.size [v] a) (ha : a.length ≤ 4096) (he : ep < 9223372036854775808) :
    ACalls Tryz.prog 101 #[.int .i64 ep, v] w fun r w' => ∃ (c : List UInt8) (fp : List Nat), c.length ≤ a.length + 9 ∧ Sep w.heap.size w w' [Ck.own (bytes 5) fp [r] c] := by
  have H := Sep.start w; refine body_of follows Tryz.func101 rfl rfl _ rfl (by kernel_rfl) (vs ?_); refine x_lst H pl_u8 sl22 [1] (by simp) fun g1 w1 H => vs ?_; refine x_callf H (specGreat_ok w1 ep 2 he) fun r2 f2 w2 H => vs ?_; have h2 : (greatB ep 2).length ≤ 8 := by unfold greatB; rw [List.length_reverse]; exact littleB_len _ _
  refine x_app H pl_u8 sl22 (H.own (.head _)) ?_ ?_ (fun f3 v3 w3 H => vs ?_) (hm := .there .here)
  · simp only [List.length_cons, List.length_nil]; omega
  · simp only [List.length_cons, List.length_nil]; omega
  have H := H.tail; refine x_app H pl_u8 sl22 (H.rd hv) ?_ ?_ (fun f4 v4 w4 H => vs ?_) (hm := .here)
  · simp only [List.length_append, List.length_cons, List.length_nil]; omega
  · simp only [List.length_append, List.length_cons, List.length_nil]; omega
  exact ⟨_, f4, by simp only [List.length_append, List.length_cons, List.length_nil]; omega, H⟩
theorem un_2 (x y : UInt8) : w64 (w64 ((256 : Int) * (x.toNat : Int)) + (y.toNat : Int)) = ((256 * x.toNat + y.toNat : Nat) : Int) := by
  have := x.toNat_lt; have := y.toNat_lt; rw [show w64 ((256 : Int) * (x.toNat : Int)) = (256 : Int) * (x.toNat : Int) by unfold w64; omega]; unfold w64; omega
theorem un_n (x y : UInt8) : ∃ n : Nat, w64 (w64 ((256 : Int) * (x.toNat : Int)) + (y.toNat : Int)) = (n : Int) ∧ n ≤ 70000 := ⟨_, un_2 x y, by have := x.toNat_lt; have := y.toNat_lt; omega⟩
theorem un_3 {n : Nat} (h : n ≤ 70000) : w64 (2 + (n : Int)) = ((2 + n : Nat) : Int) := by unfold w64; omega
theorem un_4 {n : Nat} (h : n ≤ 70000) : w64 ((n : Int) - 2) = (n : Int) - 2 := by unfold w64; omega
theorem unpadded_ok (w : World) (v : Value) (b : List UInt8) (hv : (bytes 5).rd w w.heap.size [v] b) (hb : b.length ≤ 70000) :
    ACalls Tryz.prog 127 #[v] w fun r w' => ∃ (x : Value) (ok : Bool) (c : List UInt8) (fp : List Nat), r = .tuple #[x, .bool ok] ∧ c.length ≤ 200 ∧ Sep w.heap.size w w' [Ck.own (bytes 5) fp [x] c] := by
  have hv9 := hv; obtain ⟨A, cp, rfl, _, _, hA⟩ := sl_open hv; have H := Sep.start w; refine body_of follows Tryz.func127 rfl rfl _ rfl (by kernel_rfl) (vs ?_)
  by_cases q0 : (b.length : Int) < 2
  · refine ve (eq_true q0) ?_
    refine x_emp H pl_u8 sl22 fun g1 w1 H => vs ?_; exact ⟨_, _, [], _, rfl, Nat.zero_le _, H⟩
  have hb2 : 2 ≤ b.length := by omega
  refine ve q0 ?_; refine draw_at [(0, true), (1, true), (2, true), (3, true), (4, true), (5, true), (6, true), (7, true), (8, true), (9, true), (10, true)] fun w1 hh hbd => vs ?_; have H := H.go (hbd _); refine q_elV pl_u8 sl22 (x := b[0]'(by omega)) 0 (hA.mono H.bel) (List.getElem?_eq_getElem _) rfl rfl fun ad hd hc _ => ?_; refine vs ?_; refine qx_load sc5 hc (Nat.lt_of_lt_of_le hd H.ns) (by simp) ?_; refine vs ?_; refine q_elV pl_u8 sl22 (x := b[1]'(by omega)) 1 (hA.mono H.bel) (List.getElem?_eq_getElem _) rfl rfl fun ad hd hc _ => ?_; refine vs ?_; refine qx_load sc5 hc (Nat.lt_of_lt_of_le hd H.ns) (by simp) ?_; have h0' : 0 < b.length := by omega
  have h1' : 1 < b.length := by omega
  obtain ⟨n, hn, hn7⟩ := un_n b[0] b[1]; have e2 : Unit → w64 (w64 ((256 : Int) * (b[0].toNat : Int)) + (b[1].toNat : Int)) = (n : Int) := fun _ => hn
  clear hn
  have e4 : Unit → w64 ((b.length : Int) - 2) = (b.length : Int) - 2 := fun _ => un_4 hb; have e3 : Unit → w64 (2 + (n : Int)) = ((2 + n : Nat) : Int) := fun _ => un_3 hn7
  by_cases q1 : (b.length : Int) - 2 < (n : Int)
  · refine ve (And.intro (e2 ()) (And.intro (e4 ()) (eq_true q1))) ?_
    refine x_emp H pl_u8 sl22 fun g1 w1 H => vs ?_; exact ⟨_, _, [], _, rfl, Nat.zero_le _, H⟩
  by_cases q2 : (200 : Int) < (n : Int)
  · refine ve (And.intro (e2 ()) (And.intro (e4 ()) (And.intro q1 (eq_true q2)))) ?_
    refine x_emp H pl_u8 sl22 fun g1 w1 H => vs ?_; exact ⟨_, _, [], _, rfl, Nat.zero_le _, H⟩
  have hn2 : 2 + n ≤ b.length := by omega
  have hn200 : n ≤ 200 := by omega
  have hl : ((b.drop 2).take (2 + n - 2)).length = n := by rw [List.length_take, List.length_drop]; omega
  refine ve (And.intro (e2 ()) (And.intro (e4 ()) (And.intro q1 (And.intro q2 (e3 ()))))) ?_; refine x_subN sl22 rfl 2 (2 + n) hv9 rfl rfl (by omega) hn2 fun v2 hv2 => ?_; refine vs ?_; refine x_callf H (specPadded_ok w1 v2 _ (H.rd hv2) (by omega)) fun r3 f3 w3 H => vs ?_; refine x_callw (specSame_ok w3 r3 _ _ b (H.own (.head _)) (H.rd hv9)) ?_
  by_cases qs : padded ((b.drop 2).take (2 + n - 2)) = b
  rotate_left
  · refine ve qs ?_
    refine x_emp H pl_u8 sl22 fun g4 w4 H => vs ?_; exact ⟨_, _, [], _, rfl, Nat.zero_le _, H.only (c := Ck.own (bytes 5) [g4] [.slice (some ⟨g4, 0, none⟩) 0 0] [])⟩
  refine ve (And.intro (eq_true qs) (e3 ())) ?_; refine x_emp H pl_u8 sl22 fun g4 w4 H => ?_; refine ve (e3 ()) ?_; refine x_subN sl22 rfl 2 (2 + n) hv9 rfl rfl (by omega) hn2 fun v5 hv5 => ?_; refine vs ?_; refine x_app H pl_u8 sl22 (H.rd hv5) ?_ ?_ (fun f6 v6 w6 H => vs ?_) (hm := .here)
  · simp only [List.length_nil]; omega
  · simp only [List.length_nil]; omega
  exact ⟨_, _, _, f6, rfl, by rw [List.nil_append]; omega, H.head⟩
theorem current_ok (w : World) (a b : Int) : ACalls Tryz.prog 109 #[.int .i64 a, .int .i64 b] w fun r w' => ∃ ok : Bool, r = .bool ok ∧ w' = w := by
  refine body_of follows Tryz.func109 rfl rfl _ rfl (by kernel_rfl) (vs ?_); refine x_callw (l1In_ok w _ _ _) ?_
  by_cases q1 : 0 ≤ a ∧ a ≤ 40
  rotate_left
  · refine ve q1 ?_
    exact ⟨_, rfl⟩
  refine ve q1 ?_; refine x_callw (l1In_ok w _ _ _) ?_
  by_cases q2 : 0 ≤ b ∧ b ≤ 40
  rotate_left
  · refine ve q2 ?_
    exact ⟨_, rfl⟩
  refine ve q2 ?_
  by_cases q3 : b = a
  · refine ve (eq_true q3) ?_
    exact ⟨_, rfl⟩
  · refine ve q3 ?_
    exact ⟨_, rfl⟩
theorem x_appT {P : Program} {n : Nat} {w0 w : World} {L : List Ck} {K : Value → World → Prop} {tg : Tg K} {t ty e by_ : Nat} (HS : SlT P t e 1 by_ (encB 0)) {g m : Nat} {x : Value} {l l' : List UInt8} (H : Sep n w0 w L) (h1 : (bytes e).rd w w.heap.size [.slice (some ⟨g, 0, none⟩) m m] l) (hx : (bytes e).rd w w.heap.size [x] l') (h0 : 0 < l'.length) (hb : (l.length + l'.length) * by_ ≤ 140737488355328) (hn : l.length + l'.length ≤ 9223372036854775807)
    (h : ∀ g' c w', Sep n w0 w' (Ck.own (bytes e) [g'] [.slice (some ⟨g', 0, none⟩) (l.length + l'.length) c] (l ++ l') :: L) → K (.slice (some ⟨g', 0, none⟩) (l.length + l'.length) c) w') :
    Builtin' P K tg .append #[t, t] ty [.slice (some ⟨g, 0, none⟩) m m, x] w := by
  obtain ⟨i, hi, hs, hby, hz⟩ := HS.inf; obtain ⟨A, c, hv, hc1, hc2, ha⟩ := h1; simp only [List.cons.injEq, Value.slice.injEq, and_true] at hv; obtain ⟨rfl, rfl, rfl⟩ := hv; obtain ⟨_, ha⟩ := pl_u8.slRd.1 ha; obtain ⟨B, c', rfl, hb1, hb2, hbx⟩ := sl_open hx; obtain ⟨_, hbx⟩ := pl_u8.slRd.1 hbx
  obtain ⟨b, rfl⟩ : ∃ b, B = some b := by
    have := (hbx 0 h0).1
    cases B with
    | none => cases this
    | some b => exact ⟨b, rfl⟩
  have c1 : ∀ j v, (l.map encB)[j]? = some v → w.cell? ((⟨g, 0, none⟩ : Addr).add j) = some v := fun j v hj => by
    obtain ⟨h3, h4⟩ := List.getElem?_eq_some_iff.1 hj; have := (ha j (by simpa using h3)).2.2; rw [adA_some] at this; rw [this, ← h4]; simp [encB]
  have c2 : ∀ j v, (l'.map encB)[j]? = some v → w.cell? (b.add j) = some v := fun j v hj => by
    obtain ⟨h3, h4⟩ := List.getElem?_eq_some_iff.1 hj; have := (hbx j (by simpa using h3)).2.2; rw [adA_some] at this; rw [this, ← h4]; simp [encB]
  subst hby; have hr := run_append_grow (P := P) w t ty e i (encB 0) HS.un hi hz ⟨g, 0, none⟩ l.length l.length (l.map encB) (by rw [hs]; simp) c1 b l'.length c' (l'.map encB) (by rw [hs]; simp) c2 (by omega) (by omega) (growslice_fits (by omega) hb); have hge := grownCap_ge w (l.length + l'.length) l.length e; have hzc : (encB 0).cells = #[encB 0] := rfl; unfold Builtin'; refine vS_run hr (h w.heap.size _ _ ?_); have hbl : Below w.heap.size w (w.drew.alloc (.cells ((l.map encB).toArray ++ (l'.map encB).toArray ++ Builtin.zeroCells (encB 0).cells (grownCap w (l.length + l'.length) l.length e - (l.length + l'.length))) e)) := Below.alloc ((Below.refl _ w).drew) (Nat.le_refl _) _; have hL : (l ++ l').length = l.length + l'.length := List.length_append; have hM : (l ++ l').map encB = l.map encB ++ l'.map encB := List.map_append; refine H.add (c := Ck.own (bytes e) [w.heap.size] [.slice (some ⟨w.heap.size, 0, none⟩) (l.length + l'.length) (grownCap w (l.length + l'.length) l.length e)] (l ++ l')) hbl (pl_u8.slOw.2 ⟨fun _ _ => trivial, ⟨by rw [List.length_map]; simp, .inr ⟨w.heap.size, _, _, ?_, Nat.zero_le _, heap_alloc_new w.drew _, by rw [hL]; exact hge, grownCap_le_maxLen w (l.length + l'.length) l.length e (by simpa [maxLen] using hn), ?_, ?_⟩⟩, rfl⟩) (by simp [Ck.own]) (fun b hb => ?_)
  · rw [hL]
  · simp only [Array.size_append, List.size_toArray, List.length_map, size_zeroCells, hzc]
    simp
    omega
  · rw [hL, hM, Array.toList_append, Array.toList_append, List.take_append_of_le_length (by simp)]
    exact List.take_of_length_le (by simp)
  · simp only [Ck.own_fp, List.mem_singleton] at hb
    subst hb; exact ⟨Nat.le_refl _, by simp⟩
theorem great2_lenT {n : Int} (h : 0 ≤ n) : (greatB n 2).length = 2 := by
  unfold greatB littleB; rw [List.length_reverse, if_pos ⟨h, by decide, by decide⟩, List.length_map, List.length_range]; rfl
def epochW : List UInt8 := [101, 112, 111, 99, 104]
def routeW : List UInt8 := [114, 111, 117, 116, 101]
theorem epochW_len : epochW.length = 5 := rfl
theorem routeW_len : routeW.length = 5 := rfl
theorem secretOf_ok (w : World) (v : Value) (seed : List UInt8) (ep : Int) (hv : (bytes 5).rd w w.heap.size [v] seed) :
    ACalls Tryz.prog 104 #[v, .int .i64 ep] w fun r w' => ∃ (c : List UInt8) (fp : List Nat), c.length ≤ 8160 ∧ Sep w.heap.size w w' [Ck.own (bytes 5) fp [r] c] := by
  have hv9 := hv; obtain ⟨A, cp, rfl, _⟩ := sl_open hv; have H := Sep.start w; refine body_of follows Tryz.func104 rfl rfl _ rfl (by kernel_rfl) (vs ?_)
  by_cases q1 : (seed.length : Int) = 32
  rotate_left
  · refine ve q1 ?_
    refine x_emp H pl_u8 sl22 fun g1 w1 H => vs ?_; exact ⟨[], _, Nat.zero_le _, H⟩
  refine ve q1 ?_; refine x_callw (l1In_ok w _ _ _) ?_
  by_cases q2 : 0 ≤ ep ∧ ep ≤ 40
  rotate_left
  · refine ve q2 ?_
    refine x_emp H pl_u8 sl22 fun g1 w1 H => vs ?_; exact ⟨[], _, Nat.zero_le _, H⟩
  refine ve q2 ?_; refine x_lst H pl_u8 sl22 epochW (by simp) fun g2 w2 H => vs ?_; refine x_cvb Tryz.underlying22 Tryz.underlying5 H fun w3 H hr3 => vs ?_; refine x_call (specGreat_ok w3 ep 2 (by omega)) fun r4 w4 ⟨f4, S⟩ => vs ?_; have hr4 := S.rd hr3; have H := H.join S; simp only [List.cons_append, List.nil_append] at H; have hrg := H.ow (bytes 5) f4 [r4] (greatB ep 2); have hg2 := great2_lenT q2.1; refine x_appT sl22 H hr4 hrg (by rw [hg2]; omega) (by rw [hg2, epochW_len]; omega) (by rw [hg2, epochW_len]; omega) fun g5 c5 w5 H => vs ?_; refine x_callf H (specDerive_ok _ _ [] _ seed _ (epochW ++ greatB ep 2) 32 (Kd.own_rd _ (sl_zero _) (by simp)) (H.rd hv9) (H.own (.head _))) fun r6 f6 w6 H => vs ?_; exact ⟨_, f6, by unfold derive; exact expand_len _ _ _, H.head⟩
theorem publicOf_ok (w : World) (v : Value) (seed : List UInt8) (ep : Int) (hv : (bytes 5).rd w w.heap.size [v] seed) :
    ACalls Tryz.prog 79 #[v, .int .i64 ep] w fun r w' => ∃ (c : List UInt8) (fp : List Nat), c.length ≤ 32 ∧ Sep w.heap.size w w' [Ck.own (bytes 5) fp [r] c] := by
  refine body_of follows Tryz.func79 rfl rfl _ rfl (by kernel_rfl) (vs ?_); refine x_call (secretOf_ok w v seed ep hv) fun r1 w1 ⟨c1, f1, hc1, H⟩ => vs ?_; refine x_call (public_ok w1 r1 c1 (H.own (.head _))) fun r2 w2 ⟨c2, f2, hc2, S⟩ => vs ?_; have H := H.join S; exact ⟨c2, f2, hc2, H.only (c := Ck.own (bytes 5) f2 [r2] c2)⟩
theorem routeOf_ok (w : World) (v : Value) (seed : List UInt8) (ep : Int) (hv : (bytes 5).rd w w.heap.size [v] seed) :
    ACalls Tryz.prog 81 #[v, .int .i64 ep] w fun r w' => ∃ R : List UInt8, r = .string ⟨R.toArray⟩ ∧ R.length ≤ 64 ∧ Below w.heap.size w w' := by
  have hv9 := hv; obtain ⟨A, cp, rfl, _⟩ := sl_open hv; have H := Sep.start w; refine body_of follows Tryz.func81 rfl rfl _ rfl (by kernel_rfl) (vs ?_)
  by_cases q1 : (seed.length : Int) = 32
  rotate_left
  · refine ve q1 ?_
    exact ⟨[], rfl, Nat.zero_le _, H.bel⟩
  refine ve q1 ?_; refine x_callw (l1In_ok w _ _ _) ?_
  by_cases q2 : 0 ≤ ep ∧ ep ≤ 40
  rotate_left
  · refine ve q2 ?_
    exact ⟨[], rfl, Nat.zero_le _, H.bel⟩
  refine ve q2 ?_; refine x_lst H pl_u8 sl22 routeW (by simp) fun g2 w2 H => vs ?_; refine x_cvb Tryz.underlying22 Tryz.underlying5 H fun w3 H hr3 => vs ?_; refine x_call (specGreat_ok w3 ep 2 (by omega)) fun r4 w4 ⟨f4, S⟩ => vs ?_; have hr4 := S.rd hr3; have H := H.join S; simp only [List.cons_append, List.nil_append] at H; have hrg := H.ow (bytes 5) f4 [r4] (greatB ep 2); have hg2 := great2_lenT q2.1; refine x_appT sl22 H hr4 hrg (by rw [hg2]; omega) (by rw [hg2, routeW_len]; omega) (by rw [hg2, routeW_len]; omega) fun g5 c5 w5 H => vs ?_; refine x_callf H (specMac_ok w5 _ seed _ (routeW ++ greatB ep 2) (H.rd hv9) (H.own (.head _))) fun r6 f6 w6 H => vs ?_; have h32 : (mac seed (routeW ++ greatB ep 2)).length = 32 := mac_len32 (by rw [List.length_append, hg2, routeW_len]; omega) (by omega); refine x_toN sl22 rfl 8 (H.own (.head _)) rfl (by omega) fun v7 hv7 => ?_; refine vs ?_; have hl8 : ((mac seed (routeW ++ greatB ep 2)).take 8).length = 8 := by rw [List.length_take]; omega
  refine x_callb H (specHex_ok w6 v7 _ hv7 (by omega)) fun w8 H => vs ?_; exact ⟨_, rfl, by rw [hexB_len, hl8]; omega, H.bel⟩
def plumeW : List UInt8 := [112, 108, 117, 109, 101]
theorem keysOf_ok (w : World) (v u y : Value) (sh fr to_ : List UInt8) (hv : (bytes 5).rd w w.heap.size [v] sh) (hu : (bytes 5).rd w w.heap.size [u] fr) (hy : (bytes 5).rd w w.heap.size [y] to_) (hfr : fr.length ≤ 100000) (hto : to_.length ≤ 100000) :
    ACalls Tryz.prog 99 #[v, u, y] w fun r w' => ∃ (x1 x2 : Value) (k1 k2 : List UInt8) (f1 f2 : List Nat), r = .tuple #[x1, x2] ∧ (k1.length ≤ 8160 ∧ k2.length ≤ 8160) ∧ Sep w.heap.size w w' [Ck.own (bytes 5) f1 [x1] k1, Ck.own (bytes 5) f2 [x2] k2] := by
  have H := Sep.start w; refine body_of follows Tryz.func99 rfl rfl _ rfl (by kernel_rfl) (vs ?_); refine x_emp H pl_u8 sl22 fun g1 w1 H => vs ?_; refine x_app H pl_u8 sl22 (H.rd hu) ?_ ?_ (fun f2 v2 w2 H => vs ?_) (hm := .here)
  · simp only [List.length_nil]; omega
  · simp only [List.length_nil]; omega
  rw [List.nil_append] at H; refine x_app H pl_u8 sl22 (H.rd hy) ?_ ?_ (fun f3 v3 w3 H => vs ?_) (hm := .here)
  · omega
  · omega
  refine x_lst H pl_u8 sl22 plumeW (by simp) fun g4 w4 H => vs ?_; refine x_cvb Tryz.underlying22 Tryz.underlying5 H fun w5 H hr5 => vs ?_; refine x_callf H (specDerive_ok _ _ (fr ++ to_) _ sh _ plumeW 44 (H.own (.head _)) (H.rd hv) hr5) fun r6 f6 w6 H => ?_; obtain ⟨k, hkd⟩ : ∃ k, k = derive (fr ++ to_) sh plumeW 44 := ⟨_, rfl⟩; have hkl : k.length ≤ 8160 := by rw [hkd]; unfold derive; exact expand_len _ _ _
  rw [← hkd] at H; obtain ⟨A, c, rfl, _⟩ := sl_open (H.own (.head _)); refine vs ?_
  by_cases q : (k.length : Int) = 44
  rotate_left
  · refine ve q ?_
    refine x_emp H pl_u8 sl22 fun g7 w7 H => vs ?_; refine x_emp H pl_u8 sl22 fun g8 w8 H => vs ?_; exact ⟨_, _, [], [], [g7], [g8], rfl, ⟨Nat.zero_le _, Nat.zero_le _⟩, H.two (c := Ck.own (bytes 5) [g7] [.slice (some ⟨g7, 0, none⟩) 0 0] []) (c' := Ck.own (bytes 5) [g8] [.slice (some ⟨g8, 0, none⟩) 0 0] [])⟩
  have h44 : k.length = 44 := by omega
  have h32 : 32 ≤ k.length := by omega
  have htl : (k.take 32).length ≤ 8160 := by rw [List.length_take]; omega
  have hdl : (k.drop 32).length ≤ 8160 := by rw [List.length_drop]; omega
  refine ve q ?_; refine fork_draw w.heap.size [] fun w7 hh hb7 => ?_; have H := H.go (hb7 _); have H3 := H; refine rest_pre [(1, true), (2, true), (5, true), (6, true)] 6 ?_; refine vs ?_; refine q_toA (hi := 32) sl22 rfl (H.own (.head _)) h32 fun v1 hv1 => ?_; refine vs ?_; refine q_fromA (lo := 32) sl22 rfl (H.own (.head _)) h32 fun v2 hv2 => ?_; refine vs ?_; refine rest_fork 0 4 5 ?_ ?_
  · refine vs ?_
    refine x_emp H pl_u8 sl22 fun ga wa H => vs ?_; refine ⟨kept_base H3 H, ?_⟩; refine rest_fork 3 4 4 ?_ ?_
    · refine vs ?_
      have r1 := hv1 _ _ (H.ow (bytes 5) f6 [.slice A k.length c] k); have H := H.front (c := Ck.own (bytes 5) [ga] [.slice (some ⟨ga, 0, none⟩) 0 0] []); refine x_app H pl_u8 sl22 r1 ?_ ?_ (fun fc vc wc H => vs ?_) (hm := .here)
      · simp only [List.length_nil]; omega
      · simp only [List.length_nil]; omega
      rw [List.nil_append] at H; refine ⟨kept_base H3 H, ?_⟩; refine rest_end [(4, false), (7, false), (8, true), (9, true)] ?_; refine vs ?_; refine x_emp H pl_u8 sl22 fun gb wb H => vs ?_; refine ⟨kept_base H3 H, ?_⟩; have r2 := hv2 _ _ (H.ow (bytes 5) f6 [.slice A k.length c] k); have H := H.front (c := Ck.own (bytes 5) [gb] [.slice (some ⟨gb, 0, none⟩) 0 0] []); refine x_app H pl_u8 sl22 r2 ?_ ?_ (fun fd vd wd H => vs ?_) (hm := .here)
      · simp only [List.length_nil]; omega
      · simp only [List.length_nil]; omega
      rw [List.nil_append] at H; refine ⟨kept_base H3 H, ?_⟩; exact ⟨_, _, k.take 32, k.drop 32, fc, fd, rfl, ⟨htl, hdl⟩, H.two (c := Ck.own (bytes 5) fc [vc] (k.take 32)) (c' := Ck.own (bytes 5) fd [vd] (k.drop 32))⟩
    · refine vs ?_
      refine x_emp H pl_u8 sl22 fun gb wb H => vs ?_; refine ⟨kept_base H3 H, ?_⟩; refine rest_end [(3, false), (7, false), (8, true), (9, true)] ?_; refine vs ?_; have r1 := hv1 _ _ (H.ow (bytes 5) f6 [.slice A k.length c] k); have H := H.front (c := Ck.own (bytes 5) [ga] [.slice (some ⟨ga, 0, none⟩) 0 0] []); refine x_app H pl_u8 sl22 r1 ?_ ?_ (fun fc vc wc H => vs ?_) (hm := .here)
      · simp only [List.length_nil]; omega
      · simp only [List.length_nil]; omega
      rw [List.nil_append] at H; refine ⟨kept_base H3 H, ?_⟩; have r2 := hv2 _ _ (H.ow (bytes 5) f6 [.slice A k.length c] k); have H := H.front (c := Ck.own (bytes 5) [gb] [.slice (some ⟨gb, 0, none⟩) 0 0] []); refine x_app H pl_u8 sl22 r2 ?_ ?_ (fun fd vd wd H => vs ?_) (hm := .here)
      · simp only [List.length_nil]; omega
      · simp only [List.length_nil]; omega
      rw [List.nil_append] at H; refine ⟨kept_base H3 H, ?_⟩; exact ⟨_, _, k.take 32, k.drop 32, fc, fd, rfl, ⟨htl, hdl⟩, H.two (c := Ck.own (bytes 5) fc [vc] (k.take 32)) (c' := Ck.own (bytes 5) fd [vd] (k.drop 32))⟩
  · refine vs ?_
    refine x_emp H pl_u8 sl22 fun gb wb H => vs ?_; refine ⟨kept_base H3 H, ?_⟩; refine rest_end [(0, false), (3, false), (7, false), (8, true), (9, true)] ?_; refine vs ?_; refine x_emp H pl_u8 sl22 fun ga wa H => vs ?_; refine ⟨kept_base H3 H, ?_⟩; have r1 := hv1 _ _ (H.ow (bytes 5) f6 [.slice A k.length c] k); have H := H.front (c := Ck.own (bytes 5) [ga] [.slice (some ⟨ga, 0, none⟩) 0 0] []); refine x_app H pl_u8 sl22 r1 ?_ ?_ (fun fc vc wc H => vs ?_) (hm := .here)
    · simp only [List.length_nil]; omega
    · simp only [List.length_nil]; omega
    rw [List.nil_append] at H; refine ⟨kept_base H3 H, ?_⟩; have r2 := hv2 _ _ (H.ow (bytes 5) f6 [.slice A k.length c] k); have H := H.front (c := Ck.own (bytes 5) [gb] [.slice (some ⟨gb, 0, none⟩) 0 0] []); refine x_app H pl_u8 sl22 r2 ?_ ?_ (fun fd vd wd H => vs ?_) (hm := .here)
    · simp only [List.length_nil]; omega
    · simp only [List.length_nil]; omega
    rw [List.nil_append] at H; refine ⟨kept_base H3 H, ?_⟩; exact ⟨_, _, k.take 32, k.drop 32, fc, fd, rfl, ⟨htl, hdl⟩, H.two (c := Ck.own (bytes 5) fc [vc] (k.take 32)) (c' := Ck.own (bytes 5) fd [vd] (k.drop 32))⟩
theorem padded_le {b : List UInt8} (h : b.length ≤ 200) : (padded b).length ≤ 297 := by
  unfold padded; have := padZ_le b.length; rw [List.length_append, List.length_append, great2_len, List.length_replicate]; omega
theorem one_letter {e : Int} {a b : Value} (h1 : a.oneCell' = true) (h2 : b.oneCell' = true) : ∀ v ∈ [Value.int .i64 e, a, b], v.oneCell' = true := by
  intro v hv; simp only [List.mem_cons, List.not_mem_nil, or_false] at hv
  rcases hv with rfl | rfl | rfl
  · rfl
  · exact h1
  · exact h2
theorem write_ok (w : World) (v u y : Value) (sec to_ note : List UInt8) (ep : Int) (hv : (bytes 5).rd w w.heap.size [v] sec) (hu : (bytes 5).rd w w.heap.size [u] to_) (hy : (bytes 5).rd w w.heap.size [y] note) (hto : to_.length ≤ 100000) (hnote : note.length ≤ 200) (he : -9223372036854775808 ≤ ep ∧ ep < 9223372036854775808) :
    ACalls Tryz.prog 77 #[v, u, .int .i64 ep, y] w fun r w' => ∃ (e2 : Int) (x1 x2 : Value) (ok : Bool) (c1 c2 : List UInt8) (f1 f2 : List Nat), r = .tuple #[.agg #[.int .i64 e2, x1, x2], .bool ok] ∧ ((-9223372036854775808 ≤ e2 ∧ e2 < 9223372036854775808) ∧ c1.length ≤ 32 ∧ c2.length ≤ 4112) ∧ Sep w.heap.size w w' [Ck.own (bytes 5) f1 [x1] c1, Ck.own (bytes 5) f2 [x2] c2] := by
  have H := Sep.start w; refine body_of follows Tryz.func77 rfl rfl _ rfl (by kernel_rfl) (vs ?_); refine x_al H st25 fun g8 w1 H => vs ?_; refine x_call (public_ok w1 v sec (H.rd hv)) fun r2 w2 ⟨c2, f2, hc2, S⟩ => vs ?_; have H := H.join S; simp only [List.cons_append, List.nil_append] at H; refine x_call (agreed_ok w2 v u sec to_ (H.rd hv) (H.rd hu)) fun _ w3 ⟨r3, ok3, c3, f3, e, hc3, S⟩ => ?_; subst e; have H := H.join S; simp only [List.cons_append, List.nil_append] at H; refine vs ?_; refine x_callf H (specPadded_ok w3 y note (H.rd hy) hnote) fun r4 f4 w4 H => ?_; have hp := padded_le hnote; obtain ⟨A, c, rfl, _⟩ := sl_open (H.own (.head _))
  cases ok3 with
  | false =>
    refine vs ?_; refine x_build bl25 [.int .i64 0, .slice none 0 0, .slice none 0 0] ?_; refine vs ?_; refine x_sta H st25 (vs := [.int .i64 0, .slice none 0 0, .slice none 0 0]) (h1 := one_letter rfl rfl) fun w6 H => vs ?_; have hres := res_cell H (g := g8) (cs := [.int .i64 0, .slice none 0 0, .slice none 0 0]) st25; have H := H.nothing (sl_zero w6 (d := Kd.u8) (e := 5)); have H := H.nothing (sl_zero w6 (d := Kd.u8) (e := 5)); exact ⟨_, _, rfl, hres, 0, _, _, false, [], [], [], [], rfl, ⟨by decide, Nat.zero_le _, Nat.zero_le _⟩, Sep.left (L := [_, _]) H⟩
  | true =>
    by_cases q1 : ((padded note).length : Int) = 0
    · refine ve q1 ?_
      refine x_build bl25 [.int .i64 0, .slice none 0 0, .slice none 0 0] ?_; refine vs ?_; refine x_sta H st25 (vs := [.int .i64 0, .slice none 0 0, .slice none 0 0]) (h1 := one_letter rfl rfl) fun wz H => vs ?_; have hres := res_cell H (g := g8) (cs := [.int .i64 0, .slice none 0 0, .slice none 0 0]) st25; have H := H.nothing (sl_zero wz (d := Kd.u8) (e := 5)); have H := H.nothing (sl_zero wz (d := Kd.u8) (e := 5)); exact ⟨_, _, rfl, hres, 0, _, _, false, [], [], [], [], rfl, ⟨by decide, Nat.zero_le _, Nat.zero_le _⟩, Sep.left (L := [_, _]) H⟩
    refine ve q1 ?_; refine x_callw (l1In_ok w4 _ _ _) ?_
    by_cases q2 : 0 ≤ ep ∧ ep ≤ 65535
    rotate_left
    · refine ve q2 ?_
      refine x_build bl25 [.int .i64 0, .slice none 0 0, .slice none 0 0] ?_; refine vs ?_; refine x_sta H st25 (vs := [.int .i64 0, .slice none 0 0, .slice none 0 0]) (h1 := one_letter rfl rfl) fun wz H => vs ?_; have hres := res_cell H (g := g8) (cs := [.int .i64 0, .slice none 0 0, .slice none 0 0]) st25; have H := H.nothing (sl_zero wz (d := Kd.u8) (e := 5)); have H := H.nothing (sl_zero wz (d := Kd.u8) (e := 5)); exact ⟨_, _, rfl, hres, 0, _, _, false, [], [], [], [], rfl, ⟨by decide, Nat.zero_le _, Nat.zero_le _⟩, Sep.left (L := [_, _]) H⟩
    refine ve q2 ?_; refine x_call (keysOf_ok w4 r3 r2 u c3 c2 to_ (H.ow (bytes 5) f3 [r3] c3) (H.ow (bytes 5) f2 [r2] c2) (H.rd hu) (by omega) hto) fun _ w5 ⟨k1, k2, l1, l2, f5, f6, e, _, S⟩ => ?_; subst e; have H := H.join S; simp only [List.cons_append, List.nil_append] at H; refine vs ?_; refine x_call (l11Head_ok w5 r2 ep c2 (H.ow (bytes 5) f2 [r2] c2) (by omega) he.2) fun r7 w6 ⟨c7, f7, hc7, S⟩ => vs ?_; have H := H.join S; simp only [List.cons_append, List.nil_append] at H; refine x_call (seal_ok w6 k1 k2 r7 _ l1 l2 c7 (padded note) (H.ow (bytes 5) f5 [k1] l1) (H.ow (bytes 5) f6 [k2] l2) (H.own (.head _)) (H.ow (bytes 5) f4 [.slice A (padded note).length c] (padded note))) fun _ w7 ⟨r9, ok9, c9, f9, e, hc9, S⟩ => ?_; subst e; have H := H.join S; simp only [List.cons_append, List.nil_append] at H
    cases ok9 with
    | false =>
      refine vs ?_; refine x_build bl25 [.int .i64 0, .slice none 0 0, .slice none 0 0] ?_; refine vs ?_; refine x_sta H st25 (vs := [.int .i64 0, .slice none 0 0, .slice none 0 0]) (h1 := one_letter rfl rfl) fun wz H => vs ?_; have hres := res_cell H (g := g8) (cs := [.int .i64 0, .slice none 0 0, .slice none 0 0]) st25; have H := H.nothing (sl_zero wz (d := Kd.u8) (e := 5)); have H := H.nothing (sl_zero wz (d := Kd.u8) (e := 5)); exact ⟨_, _, rfl, hres, 0, _, _, false, [], [], [], [], rfl, ⟨by decide, Nat.zero_le _, Nat.zero_le _⟩, Sep.left (L := [_, _]) H⟩
    | true =>
      obtain ⟨B, cb, rfl, _⟩ := sl_open (H.ow (bytes 5) f9 [r9] c9); obtain ⟨C, cc, rfl, _⟩ := sl_open (H.ow (bytes 5) f2 [r2] c2); refine vs ?_; refine x_build bl25 [.int .i64 ep, .slice C c2.length cc, .slice B c9.length cb] ?_; refine vs ?_; refine x_sta H st25 (vs := [.int .i64 ep, .slice C c2.length cc, .slice B c9.length cb]) (h1 := one_letter rfl rfl) fun wz H => vs ?_; have hres := res_cell H (g := g8) (cs := [.int .i64 ep, .slice C c2.length cc, .slice B c9.length cb]) st25; exact ⟨_, _, rfl, hres, ep, _, _, true, c2, c9, f2, f9, rfl, ⟨he, hc2, hc9⟩, H.two (c := Ck.own (bytes 5) f2 [.slice C c2.length cc] c2) (c' := Ck.own (bytes 5) f9 [.slice B c9.length cb] c9)⟩
theorem letterOkU_ok (w : World) (x1 x2 : Value) (ep : Int) (a b : List UInt8) (h1 : (bytes 5).rd w w.heap.size [x1] a) (h2 : (bytes 5).rd w w.heap.size [x2] b) :
    ACalls Tryz.prog 105 #[.agg #[.int .i64 ep, x1, x2]] w fun r w' => r = .bool (decide ((0 ≤ ep ∧ ep ≤ 65535) ∧ a.length = 32 ∧ (16 ≤ b.length ∧ b.length ≤ 1516))) ∧ Below w.heap.size w w' := by
  obtain ⟨A, c, rfl, _⟩ := sl_open h1; obtain ⟨B, d, rfl, _⟩ := sl_open h2; have H := Sep.start w; refine body_of follows Tryz.func105 rfl rfl _ rfl (by kernel_rfl) (vs ?_); refine x_bx H [.int .i64 ep, .slice A a.length c, .slice B b.length d] fun g1 w1 H => vs ?_; refine x_ld H sc3 ?_; refine vs ?_; refine x_callw (l1In_ok w1 _ _ _) ?_
  by_cases q1 : 0 ≤ ep ∧ ep ≤ 65535
  rotate_left
  · refine ve q1 ?_
    first
      | exact H.bel
      | (rw [decide_eq_false fun h => q1 h.1]; exact ⟨rfl, H.bel⟩)
      | (rw [decide_eq_false fun h => q1 h.1]; exact H.bel)
  refine ve q1 ?_; refine x_ld H sc22 ?_
  by_cases q2 : (a.length : Int) = 32
  rotate_left
  · refine ve (And.intro q1 q2) ?_
    first
      | exact H.bel
      | (rw [decide_eq_false fun h => q2 (by omega)]; exact ⟨rfl, H.bel⟩)
      | (rw [decide_eq_false fun h => q2 (by omega)]; exact H.bel)
  refine ve (And.intro q1 (eq_true q2)) ?_; refine x_ld H sc22 ?_; refine ve (And.intro q1 (eq_true q2)) ?_; refine x_callw (l1In_ok w1 _ _ _) ?_
  by_cases q3 : (16 : Int) ≤ (b.length : Int) ∧ (b.length : Int) ≤ 1516
  rotate_left
  · refine ve q3 ?_
    first
      | exact H.bel
      | (rw [decide_eq_false fun h => q3 (by omega)]; exact ⟨rfl, H.bel⟩)
      | (rw [decide_eq_false fun h => q3 (by omega)]; exact H.bel)
  refine ve (eq_true q3) ?_
  first
    | exact H.bel
    | (rw [decide_eq_true (And.intro q1 (And.intro (by omega : a.length = 32) (by omega : 16 ≤ b.length ∧ b.length ≤ 1516)))]; exact ⟨rfl, H.bel⟩)
    | (rw [decide_eq_true (And.intro q1 (And.intro (by omega : a.length = 32) (by omega : 16 ≤ b.length ∧ b.length ≤ 1516)))]; exact H.bel)
theorem letterBytes_ok (w : World) (x1 x2 : Value) (ep : Int) (a b : List UInt8) (h1 : (bytes 5).rd w w.heap.size [x1] a) (h2 : (bytes 5).rd w w.heap.size [x2] b) (he : ep < 9223372036854775808) :
    ACalls Tryz.prog 80 #[.agg #[.int .i64 ep, x1, x2]] w fun r w' => ∃ (c : List UInt8) (fp : List Nat), c.length ≤ 1560 ∧ Sep w.heap.size w w' [Ck.own (bytes 5) fp [r] c] := by
  have h19 := h1; have h29 := h2; obtain ⟨A, c, rfl, _⟩ := sl_open h1; obtain ⟨B, d, rfl, _⟩ := sl_open h2; have H := Sep.start w; refine body_of follows Tryz.func80 rfl rfl _ rfl (by kernel_rfl) (vs ?_); refine x_bx H [.int .i64 ep, .slice A a.length c, .slice B b.length d] fun g1 w1 H => vs ?_; refine x_lda H st25 ?_; refine vs ?_; refine x_callb H (letterOkU_ok w1 _ _ ep a b (H.rd h19) (H.rd h29)) fun w2 H => ?_
  by_cases q : (0 ≤ ep ∧ ep ≤ 65535) ∧ a.length = 32 ∧ (16 ≤ b.length ∧ b.length ≤ 1516)
  rotate_left
  · rw [decide_eq_false q]
    refine vs ?_; refine x_emp H pl_u8 sl22 fun g3 w3 H => vs ?_; exact ⟨[], _, Nat.zero_le _, H.head⟩
  rw [decide_eq_true q]; obtain ⟨_, q2, q3⟩ := q; refine vs ?_; refine x_lst H pl_u8 sl22 [1] (by simp) fun g3 w3 H => vs ?_; refine x_ld H sc3 ?_; refine vs ?_; refine x_callf H (specGreat_ok w3 ep 2 he) fun r4 f4 w4 H => vs ?_; have hg : (greatB ep 2).length ≤ 8 := by unfold greatB; rw [List.length_reverse]; exact littleB_len _ _
  refine x_app H pl_u8 sl22 (H.own (.head _)) ?_ ?_ (fun f5 v5 w5 H => vs ?_) (hm := .there .here)
  · simp only [List.length_cons, List.length_nil]; omega
  · simp only [List.length_cons, List.length_nil]; omega
  refine x_ld H sc22 ?_; refine vs ?_; refine x_app H pl_u8 sl22 (H.rd h19) ?_ ?_ (fun f6 v6 w6 H => vs ?_) (hm := .there .here)
  · simp only [List.length_append, List.length_cons, List.length_nil]; omega
  · simp only [List.length_append, List.length_cons, List.length_nil]; omega
  refine x_ld H sc22 ?_; refine vs ?_; refine x_app H pl_u8 sl22 (H.rd h29) ?_ ?_ (fun f7 v7 w7 H => vs ?_) (hm := .there .here)
  · simp only [List.length_append, List.length_cons, List.length_nil]; omega
  · simp only [List.length_append, List.length_cons, List.length_nil]; omega
  exact ⟨_, f7, by simp only [List.length_append, List.length_cons, List.length_nil]; omega, H.only (c := Ck.own (bytes 5) f7 [v7] ([1] ++ greatB ep 2 ++ a ++ b))⟩
section
variable {P : Program} {n : Nat} {w0 w : World} {L : List Ck} {K : Value → World → Prop} {tg : Tg K}
end
def freshW : List UInt8 := [102, 114, 101, 115, 104]
def named (word : List UInt8) (n : Int) : List UInt8 := word ++ greatB n 2
def freshB (x : MWorld) : List UInt8 := derive [] x.f_Seed (named freshW x.f_Count) 32
theorem x_appF {P : Program} {n : Nat} {w0 w : World} {L : List Ck} {K : Value → World → Prop} {tg : Tg K} {t ty e by_ : Nat} (HS : SlT P t e 1 by_ (encB 0)) {g m : Nat} {x : Value} {l l' : List UInt8} (H : Sep n w0 w L) (h1 : (bytes e).rd w w.heap.size [.slice (some ⟨g, 0, none⟩) m m] l) (hx : (bytes e).rd w w.heap.size [x] l') (h0 : 0 < l'.length) (hb : (l.length + l'.length) * by_ ≤ 140737488355328) (hn : l.length + l'.length ≤ 9223372036854775807)
    (h : ∀ g' c w', Sep n w0 w' (Ck.own (bytes e) [g'] [.slice (some ⟨g', 0, none⟩) (l.length + l'.length) c] (l ++ l') :: L) → K (.slice (some ⟨g', 0, none⟩) (l.length + l'.length) c) w') :
    Builtin' P K tg .append #[t, t] ty [.slice (some ⟨g, 0, none⟩) m m, x] w := by
  obtain ⟨i, hi, hs, hby, hz⟩ := HS.inf; obtain ⟨A, c, hv, hc1, hc2, ha⟩ := h1; simp only [List.cons.injEq, Value.slice.injEq, and_true] at hv; obtain ⟨rfl, rfl, rfl⟩ := hv; obtain ⟨_, ha⟩ := pl_u8.slRd.1 ha; obtain ⟨B, c', rfl, hb1, hb2, hbx⟩ := sl_open hx; obtain ⟨_, hbx⟩ := pl_u8.slRd.1 hbx
  obtain ⟨b, rfl⟩ : ∃ b, B = some b := by
    have := (hbx 0 h0).1
    cases B with
    | none => cases this
    | some b => exact ⟨b, rfl⟩
  have c1 : ∀ j v, (l.map encB)[j]? = some v → w.cell? ((⟨g, 0, none⟩ : Addr).add j) = some v := fun j v hj => by
    obtain ⟨h3, h4⟩ := List.getElem?_eq_some_iff.1 hj; have := (ha j (by simpa using h3)).2.2; rw [adA_some] at this; rw [this, ← h4]; simp [encB]
  have c2 : ∀ j v, (l'.map encB)[j]? = some v → w.cell? (b.add j) = some v := fun j v hj => by
    obtain ⟨h3, h4⟩ := List.getElem?_eq_some_iff.1 hj; have := (hbx j (by simpa using h3)).2.2; rw [adA_some] at this; rw [this, ← h4]; simp [encB]
  subst hby; have hr := run_append_grow (P := P) w t ty e i (encB 0) HS.un hi hz ⟨g, 0, none⟩ l.length l.length (l.map encB) (by rw [hs]; simp) c1 b l'.length c' (l'.map encB) (by rw [hs]; simp) c2 (by omega) (by omega) (growslice_fits (by omega) hb); have hge := grownCap_ge w (l.length + l'.length) l.length e; have hzc : (encB 0).cells = #[encB 0] := rfl; unfold Builtin'; refine vS_run hr (h w.heap.size _ _ ?_); have hbl : Below w.heap.size w (w.drew.alloc (.cells ((l.map encB).toArray ++ (l'.map encB).toArray ++ Builtin.zeroCells (encB 0).cells (grownCap w (l.length + l'.length) l.length e - (l.length + l'.length))) e)) := Below.alloc ((Below.refl _ w).drew) (Nat.le_refl _) _; have hL : (l ++ l').length = l.length + l'.length := List.length_append; have hM : (l ++ l').map encB = l.map encB ++ l'.map encB := List.map_append; refine H.add (c := Ck.own (bytes e) [w.heap.size] [.slice (some ⟨w.heap.size, 0, none⟩) (l.length + l'.length) (grownCap w (l.length + l'.length) l.length e)] (l ++ l')) hbl (pl_u8.slOw.2 ⟨fun _ _ => trivial, ⟨by rw [List.length_map]; simp, .inr ⟨w.heap.size, _, _, ?_, Nat.zero_le _, heap_alloc_new w.drew _, by rw [hL]; exact hge, grownCap_le_maxLen w (l.length + l'.length) l.length e (by simpa [maxLen] using hn), ?_, ?_⟩⟩, rfl⟩) (by simp [Ck.own]) (fun b hb => ?_)
  · rw [hL]
  · simp only [Array.size_append, List.size_toArray, List.length_map, size_zeroCells, hzc]
    simp
    omega
  · rw [hL, hM, Array.toList_append, Array.toList_append, List.take_append_of_le_length (by simp)]
    exact List.take_of_length_le (by simp)
  · simp only [Ck.own_fp, List.mem_singleton] at hb
    subst hb; exact ⟨Nat.le_refl _, by simp⟩
theorem x_appE {P : Program} {w : World} {K : Value → World → Prop} {tg : Tg K} {t ty e by_ : Nat} (HS : SlT P t e 1 by_ (encB 0)) {g m k : Nat} {x : Value} (hx : (bytes e).rd w k [x] []) (h : K (.slice (some ⟨g, 0, none⟩) m m) w) :
    Builtin' P K tg .append #[t, t] ty [.slice (some ⟨g, 0, none⟩) m m, x] w := by
  obtain ⟨i, hi, hs, hby, hz⟩ := HS.inf; obtain ⟨B, c', rfl, hb1, hb2, hbx⟩ := sl_open hx
  have hr : (Builtin.append_ #[t, t] ty #[.slice (some ⟨g, 0, none⟩) m m, .slice B 0 c']).run P w = .ok (.slice (some ⟨g, 0, none⟩) m m) w := by
    cases B with
    | none => simp [Builtin.append_, run_underlying' HS.un, run_sizeOf' hi hs, Builtin.lenOf, run_firstCells_none, storeCells]
    | some b =>
      have hf := run_firstCells_some (P := P) w 1 0 b 0 c' [] rfl (fun j v hj => by simp at hj)
      simp [Builtin.append_, run_underlying' HS.un, run_sizeOf' hi hs, Builtin.lenOf, hf, storeCells]
  unfold Builtin'; exact vS_run hr h
theorem great2_neg {n : Int} (h : ¬ 0 ≤ n) : greatB n 2 = [] := by
  unfold greatB littleB; rw [if_neg fun hh => h hh.1]; rfl
theorem freshW_len : freshW.length = 5 := rfl
theorem great2_lenF {n : Int} (h : 0 ≤ n) : (greatB n 2).length = 2 := by
  unfold greatB littleB; rw [List.length_reverse, if_pos ⟨h, by decide, by decide⟩, List.length_map, List.length_range]; rfl
theorem specFresh_ok (w : World) (cs : List Value) (x : MWorld) (h : kWorld.rd w w.heap.size cs x) :
    ACalls Tryz.prog 78 #[.agg cs.toArray] w fun r w' => ∃ fp, Sep w.heap.size w w' [Ck.own (bytes 5) fp [r] (freshB x)] := by
  obtain ⟨v0, v3, v5, v7, v9, v10, v11, v12, rfl, h0, hC, hK, hP, hR, hN, hS⟩ := kWorld_open h; have H := Sep.start w; refine body_of follows Tryz.func78 rfl rfl _ rfl (by kernel_rfl) (vs ?_); refine x_bx H [v0, .int .i64 x.f_Count, .int .i64 x.f_Known, v3, .int .i64 x.f_Post.f_Time, v5, .int .i64 x.f_Post.f_Sure, v7, .int .i64 x.f_Reader.f_Epoch, v9, v10, v11, v12] fun g1 w1 H => vs ?_; have J := Sep.start w1; refine fork_draw w1.heap.size [] fun w2 hh hb2 => ?_; have J := J.go (hb2 _); have J3 := J; refine rest_pre [(0, true), (1, true), (4, true), (5, true)] 6 ?_; refine vs ?_; refine q_ldB H J3 sc22 ?_; refine vs ?_; refine q_ldB H J3 sc3 ?_; refine vs ?_; refine rest_fork 2 6 5 ?_ ?_
  · refine vs ?_
    refine x_lst J pl_u8 sl22 freshW (by simp) fun g2 wl J => vs ?_; refine ⟨kept_base J3 J, ?_⟩; refine rest_fork 3 6 4 ?_ ?_
    · refine vs ?_
      have J := J.front (c := Ck.own (bytes 5) [g2] [.slice (some ⟨g2, 0, none⟩) 5 5] freshW); refine x_cvb Tryz.underlying22 Tryz.underlying5 J fun wc J hr3 => vs ?_; refine ⟨kept_base J3 J, ?_⟩; refine rest_end [(6, false), (7, false), (8, false), (9, true)] ?_; refine vs ?_; refine x_callf (Sep.start _) (specGreat_ok _ x.f_Count 2 hC.2) fun r6 f6 wg M => vs ?_; have J := J.join M
      first | have hr3 := M.rd hr3 | skip
      simp only [List.cons_append, List.nil_append] at J; refine ⟨kept_base J3 J, ?_⟩; have hrg := J.ow (bytes 5) f6 [r6] (greatB x.f_Count 2)
      by_cases hn : 0 ≤ x.f_Count
      rotate_left
      · have eg := great2_neg hn
        rw [eg] at hrg; refine x_appE sl22 hrg ?_; refine vs ?_; refine ⟨kept_base J3 J, ?_⟩; have e : freshB x = derive [] x.f_Seed freshW 32 := by unfold freshB named; rw [eg, List.append_nil]
        refine x_callf J (specDerive_ok _ _ [] _ x.f_Seed _ freshW 32 (Kd.own_rd _ (sl_zero _) (by simp)) (J.rd (H.rd h0)) hr3) fun r8 f8 w8 J => vs ?_; refine ⟨kept_base J3 J, ?_⟩; have H := H.join J; rw [e]; exact ⟨_, H.head⟩
      have hg2 := great2_lenF hn; refine x_appF sl22 J hr3 hrg (by rw [hg2]; omega) (by rw [hg2, freshW_len]; omega) (by rw [hg2, freshW_len]; omega) fun g7 c7 w7 J => vs ?_; refine ⟨kept_base J3 J, ?_⟩; have e : freshB x = derive [] x.f_Seed (freshW ++ greatB x.f_Count 2) 32 := rfl; refine x_callf J (specDerive_ok _ _ [] _ x.f_Seed _ (freshW ++ greatB x.f_Count 2) 32 (Kd.own_rd _ (sl_zero _) (by simp)) (J.rd (H.rd h0)) (J.own (.head _))) fun r8 f8 w8 J => vs ?_; refine ⟨kept_base J3 J, ?_⟩; have H := H.join J; rw [e]; exact ⟨_, H.head⟩
    · refine vs ?_
      refine x_callf (Sep.start _) (specGreat_ok _ x.f_Count 2 hC.2) fun r6 f6 wg M => vs ?_; have J := J.join M
      first | have hr3 := M.rd hr3 | skip
      simp only [List.cons_append, List.nil_append] at J; refine ⟨kept_base J3 J, ?_⟩; refine rest_end [(3, false), (7, false), (8, false), (9, true)] ?_; refine vs ?_; have J := J.front (c := Ck.own (bytes 5) [g2] [.slice (some ⟨g2, 0, none⟩) 5 5] freshW); refine x_cvb Tryz.underlying22 Tryz.underlying5 J fun wc J hr3 => vs ?_; refine ⟨kept_base J3 J, ?_⟩; have hrg := J.ow (bytes 5) f6 [r6] (greatB x.f_Count 2)
      by_cases hn : 0 ≤ x.f_Count
      rotate_left
      · have eg := great2_neg hn
        rw [eg] at hrg; refine x_appE sl22 hrg ?_; refine vs ?_; refine ⟨kept_base J3 J, ?_⟩; have e : freshB x = derive [] x.f_Seed freshW 32 := by unfold freshB named; rw [eg, List.append_nil]
        refine x_callf J (specDerive_ok _ _ [] _ x.f_Seed _ freshW 32 (Kd.own_rd _ (sl_zero _) (by simp)) (J.rd (H.rd h0)) hr3) fun r8 f8 w8 J => vs ?_; refine ⟨kept_base J3 J, ?_⟩; have H := H.join J; rw [e]; exact ⟨_, H.head⟩
      have hg2 := great2_lenF hn; refine x_appF sl22 J hr3 hrg (by rw [hg2]; omega) (by rw [hg2, freshW_len]; omega) (by rw [hg2, freshW_len]; omega) fun g7 c7 w7 J => vs ?_; refine ⟨kept_base J3 J, ?_⟩; have e : freshB x = derive [] x.f_Seed (freshW ++ greatB x.f_Count 2) 32 := rfl; refine x_callf J (specDerive_ok _ _ [] _ x.f_Seed _ (freshW ++ greatB x.f_Count 2) 32 (Kd.own_rd _ (sl_zero _) (by simp)) (J.rd (H.rd h0)) (J.own (.head _))) fun r8 f8 w8 J => vs ?_; refine ⟨kept_base J3 J, ?_⟩; have H := H.join J; rw [e]; exact ⟨_, H.head⟩
  · refine vs ?_
    refine x_callf (Sep.start _) (specGreat_ok _ x.f_Count 2 hC.2) fun r6 f6 wg M => vs ?_; have J := J.join M
    first | have hr3 := M.rd hr3 | skip
    simp only [List.cons_append, List.nil_append] at J; refine ⟨kept_base J3 J, ?_⟩; refine rest_end [(2, false), (3, false), (7, false), (8, false), (9, true)] ?_; refine vs ?_; refine x_lst J pl_u8 sl22 freshW (by simp) fun g2 wl J => vs ?_; refine ⟨kept_base J3 J, ?_⟩; have J := J.front (c := Ck.own (bytes 5) [g2] [.slice (some ⟨g2, 0, none⟩) 5 5] freshW); refine x_cvb Tryz.underlying22 Tryz.underlying5 J fun wc J hr3 => vs ?_; refine ⟨kept_base J3 J, ?_⟩; have hrg := J.ow (bytes 5) f6 [r6] (greatB x.f_Count 2)
    by_cases hn : 0 ≤ x.f_Count
    rotate_left
    · have eg := great2_neg hn
      rw [eg] at hrg; refine x_appE sl22 hrg ?_; refine vs ?_; refine ⟨kept_base J3 J, ?_⟩; have e : freshB x = derive [] x.f_Seed freshW 32 := by unfold freshB named; rw [eg, List.append_nil]
      refine x_callf J (specDerive_ok _ _ [] _ x.f_Seed _ freshW 32 (Kd.own_rd _ (sl_zero _) (by simp)) (J.rd (H.rd h0)) hr3) fun r8 f8 w8 J => vs ?_; refine ⟨kept_base J3 J, ?_⟩; have H := H.join J; rw [e]; exact ⟨_, H.head⟩
    have hg2 := great2_lenF hn; refine x_appF sl22 J hr3 hrg (by rw [hg2]; omega) (by rw [hg2, freshW_len]; omega) (by rw [hg2, freshW_len]; omega) fun g7 c7 w7 J => vs ?_; refine ⟨kept_base J3 J, ?_⟩; have e : freshB x = derive [] x.f_Seed (freshW ++ greatB x.f_Count 2) 32 := rfl; refine x_callf J (specDerive_ok _ _ [] _ x.f_Seed _ (freshW ++ greatB x.f_Count 2) 32 (Kd.own_rd _ (sl_zero _) (by simp)) (J.rd (H.rd h0)) (J.own (.head _))) fun r8 f8 w8 J => vs ?_; refine ⟨kept_base J3 J, ?_⟩; have H := H.join J; rw [e]; exact ⟨_, H.head⟩
end Go.Proofs.YtcmckbgiiclomabGreatDoor.V
