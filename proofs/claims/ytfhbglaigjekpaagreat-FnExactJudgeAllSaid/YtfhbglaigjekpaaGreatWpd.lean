/- Notes filled up: both sides. -/
import Derived.Test.YtfhbglaigjekpaaGreatWj2
import Derived.Test.YtfhbglaigjekpaaGreatWk
namespace Go.Proofs.YtfhbglaigjekpaaGreat.V
open Go Go.RowKit
set_option maxRecDepth 100000
set_option maxHeartbeats 4000000
set_option linter.unusedSimpArgs false
set_option linter.unusedVariables false
set_option pp.deepTerms false
set_option pp.deepTerms.threshold 3

theorem Sep.dropsP' {n : Nat} {w0 w : World} {L M : List Ck} {c : Ck} (H : Sep n w0 w (L ++ c :: M)) : Sep n w0 w (L ++ M) := by
  have h : ∀ L : List Ck, Out c (L ++ c :: M) (L ++ M) := fun L => by
    induction L with
    | nil => exact .here
    | cons a L ih => exact .there ih
  exact (H.out (h L)).tail
theorem run_append_zerosP {P : Program} (w : World) (t tn ty e : TypeId) (i : TypeInfo) (z : Value) (k kn : IntKind) (ht : P.underlying t = some (.slice e)) (htn : P.underlying tn = some (.int kn)) (hi : P.info? e = some i) (hz : i.zero = some z)
    (b : Addr) (sLen sCap : Nat) (olds : List Value) (hlo : olds.length = sLen * i.size) (holds : ∀ j v, olds[j]? = some v → w.cell? (b.add j) = some v)
    (n : Nat) (h0 : n * i.size ≠ 0) (hg : sCap < sLen + n) (h63 : ((sLen + n : Nat) : Int) ≤ 9223372036854775807) (hfit : Builtin.nextslicecap (sLen + n) sCap * i.bytes ≤ 281474976710656) (hn48 : n * i.bytes ≤ 281474976710656) :
    (Builtin.append_ #[t, tn] ty #[.slice (some b) sLen sCap, .int k (n : Int)]).run P w =
      .ok (.slice (some ⟨w.heap.size, 0, none⟩) (sLen + n) (grownCap w (sLen + n) sCap e))
        (w.drew.alloc (.cells (olds.toArray ++ Builtin.zeroCells z.cells n ++ Builtin.zeroCells z.cells (grownCap w (sLen + n) sCap e - (sLen + n))) e)) := by
  have hn : ¬ (sLen + n ≤ sCap) := by omega
  have h63' : ¬ (9223372036854775807 < ((sLen : Int) + (n : Int))) := by omega
  have h48' : ¬ (281474976710656 < Builtin.nextslicecap (sLen + n) sCap * i.bytes) := by omega
  have h48i : ¬ (281474976710656 < (n : Int) * (i.bytes : Int)) := by rw [← Int.natCast_mul]; omega
  have hneg : ¬ ((n : Int) < 0) := by omega
  have hw : IntKind.i64.wrap (n : Int) = n := by rw [IntKind.wrap_i64]; omega
  have hfo := run_firstCells_some (P := P) w.drew i.size sLen b sLen sCap olds hlo (by simpa using holds)
  have h01 : ¬ n = 0 := fun e => h0 (by rw [e]; simp)
  have h02 : ¬ i.size = 0 := fun e => h0 (by rw [e]; simp)
  simp [Builtin.append_, run_underlying' ht, run_underlying' htn, sizeOf, typeInfo, zeroValue, hi, hz, asInt, asIntOf, hw, hneg, h48i, hn, h63', h48', Question.forced, hfo, newRow, grownCap, h01, h02]
  exact fun h => absurd h h0
theorem zeroBP (n : Nat) : (Builtin.zeroCells #[encB 0] n).toList = (List.replicate n (0 : UInt8)).map encB := by
  apply List.ext_getElem?
  intro j
  simp only [Builtin.zeroCells, Array.toList_map, List.getElem?_map, List.getElem?_replicate, List.map_replicate]
  by_cases h : j < n
  · simp [h, Nat.mod_one]
  · simp [h]
/-- Bytes that lie in a row without room, and so many zeros behind them. -/
theorem x_appZP {P : Program} {n : Nat} {w0 w : World} {L : List Ck} {K : Value → World → Prop} {tg : Tg K} {t tn ty e by_ : Nat} {kn : IntKind} (HS : SlT P t e 1 by_ (encB 0)) (htn : P.underlying tn = some (.int kn)) {g m : Nat} {l : List UInt8} {q : Nat} {kk : IntKind} (H : Sep n w0 w (Ck.own (bytes e) [g] [.slice (some ⟨g, 0, none⟩) m m] l :: L)) (hq : 0 < q) (hb : (l.length + q) * by_ ≤ 140737488355328) (hn : l.length + q ≤ 9223372036854775807)
    (h : ∀ g' c w', Sep n w0 w' (Ck.own (bytes e) [g'] [.slice (some ⟨g', 0, none⟩) (l.length + q) c] (l ++ List.replicate q 0) :: L) → K (.slice (some ⟨g', 0, none⟩) (l.length + q) c) w') :
    Builtin' P K tg .append #[t, tn] ty [.slice (some ⟨g, 0, none⟩) m m, .int kk (q : Int)] w := by
  obtain ⟨i, hi, hs, hby, hz⟩ := HS.inf
  obtain ⟨hR, ho, hfp⟩ := pl_u8.slOw.1 (show (bytes e).ow w [g] [.slice (some ⟨g, 0, none⟩) m m] l from H.ok _ (.head _))
  obtain rfl := ownsRow_len ho
  rcases ho.2 with ⟨h1, _⟩ | ⟨g', cap, cur, h1, _, hh, hc, hm, hcs, ht⟩
  · cases h1
  cases h1
  have hlen := ho.1
  have hcell : ∀ j v, (l.map encB)[j]? = some v → w.cell? ((⟨g, 0, none⟩ : Addr).add j) = some v := fun j v hj => by
    rw [Kd.add_plain, Kd.cell_blk hh]
    have ht' : cur.toList.take (l.length * 1) = l.map encB := ht
    rw [← ht', List.getElem?_take] at hj
    split at hj
    · simpa using hj
    · cases hj
  subst hby
  have hr := run_append_zerosP (P := P) w t tn ty e i (encB 0) kk kn HS.un htn hi hz ⟨g, 0, none⟩ l.length l.length (l.map encB) (by rw [hs]; exact hlen) hcell q (by rw [hs]; omega) (by omega) (by omega) (growslice_fits (by omega) hb) (by
    have : q * i.bytes ≤ (l.length + q) * i.bytes := Nat.mul_le_mul_right _ (by omega)
    omega)
  have hge := grownCap_ge w (l.length + q) l.length e
  have hzc : (encB 0).cells = #[encB 0] := rfl
  unfold Builtin'
  refine vS_run hr (h w.heap.size _ _ ?_)
  have hbl : Below w.heap.size w (w.drew.alloc (.cells ((l.map encB).toArray ++ Builtin.zeroCells (encB 0).cells q ++ Builtin.zeroCells (encB 0).cells (grownCap w (l.length + q) l.length e - (l.length + q))) e)) := Below.alloc ((Below.refl _ w).drew) (Nat.le_refl _) _
  have hL : (l ++ List.replicate q (0 : UInt8)).length = l.length + q := by rw [List.length_append, List.length_replicate]
  have hM : (l ++ List.replicate q (0 : UInt8)).map encB = l.map encB ++ (Builtin.zeroCells (encB 0).cells q).toList := by rw [List.map_append, hzc, zeroBP]
  refine (H.add (c := Ck.own (bytes e) [w.heap.size] [.slice (some ⟨w.heap.size, 0, none⟩) (l.length + q) (grownCap w (l.length + q) l.length e)] (l ++ List.replicate q 0)) hbl (pl_u8.slOw.2 ⟨fun _ _ => trivial, ⟨by rw [List.length_map]; simp, .inr ⟨w.heap.size, _, _, ?_, Nat.zero_le _, heap_alloc_new w.drew _, by rw [hL]; exact hge, grownCap_le_maxLen w (l.length + q) l.length e (by simpa [maxLen] using hn), ?_, ?_⟩⟩, rfl⟩) (by simp [Ck.own]) (fun b hb => ?_)).dropsP' (L := [_])
  · rw [hL]
  · simp only [Array.size_append, List.size_toArray, List.length_map, size_zeroCells, hzc]
    simp
    omega
  · rw [hL, hM, Array.toList_append, Array.toList_append, List.take_append_of_le_length (by simp [size_zeroCells, hzc])]
    exact List.take_of_length_le (by simp [size_zeroCells, hzc])
  · simp only [Ck.own_fp, List.mem_singleton] at hb
    subst hb
    exact ⟨Nat.le_refl _, by simp⟩

/-- No zeros put behind a row: it is as it was. -/
theorem run_append_none {P : Program} (w : World) (t tn ty e : TypeId) (i : TypeInfo) (k kn : IntKind) (ht : P.underlying t = some (.slice e)) (htn : P.underlying tn = some (.int kn)) (hi : P.info? e = some i) (b : Addr) (m c : Nat) (hc : m ≤ c) :
    (Builtin.append_ #[t, tn] ty #[.slice (some b) m c, .int k 0]).run P w = .ok (.slice (some b) m c) w := by
  have hw : IntKind.i64.wrap (0 : Int) = 0 := by rw [IntKind.wrap_i64]; rfl
  simp [Builtin.append_, run_underlying' ht, run_underlying' htn, sizeOf, typeInfo, hi, asInt, asIntOf, hw, hc, storeCells]
theorem x_appN {P : Program} {w : World} {K : Value → World → Prop} {tg : Tg K} {t tn ty e by_ : Nat} {kn : IntKind} (HS : SlT P t e 1 by_ (encB 0)) (htn : P.underlying tn = some (.int kn)) {g m c : Nat} {kk : IntKind} (hc : m ≤ c) (h : K (.slice (some ⟨g, 0, none⟩) m c) w) :
    Builtin' P K tg .append #[t, tn] ty [.slice (some ⟨g, 0, none⟩) m c, .int kk 0] w := by
  obtain ⟨i, hi, hs, hby, hz⟩ := HS.inf
  unfold Builtin'
  exact vS_run (run_append_none w t tn ty e i kk kn HS.un htn hi ⟨g, 0, none⟩ m c hc) h
def stepOf (n : Nat) : Nat := if n + 2 > 96 then 96 else 32
def padZ (n : Nat) : Nat := (stepOf n - (n + 2) % stepOf n) % stepOf n
def padded (b : List UInt8) : List UInt8 := greatB (b.length : Int) 2 ++ b ++ List.replicate (padZ b.length) 0
theorem great2_len (n : Nat) : (greatB (n : Int) 2).length = 2 := by
  unfold greatB littleB
  rw [List.length_reverse, if_pos ⟨by omega, by decide, by decide⟩, List.length_map, List.length_range]; rfl
theorem pd_rem_32 (n : Nat) : ((n : Int)).tmod 32 = ((n % 32 : Nat) : Int) := rfl
theorem pd_rem_96 (n : Nat) : ((n : Int)).tmod 96 = ((n % 96 : Nat) : Int) := rfl
theorem pd_sub_32 (n : Nat) : w64 (32 - ((n % 32 : Nat) : Int)) = ((32 - n % 32 : Nat) : Int) := by unfold w64; omega
theorem pd_sub_96 (n : Nat) : w64 (96 - ((n % 96 : Nat) : Int)) = ((96 - n % 96 : Nat) : Int) := by unfold w64; omega
theorem implPadded_ok (w : World) (v : Value) (b : List UInt8) (h : (bytes 5).rd w w.heap.size [v] b) (hb : b.length ≤ 200) :
    ACalls Tryz.prog 158 #[v] w fun r w' => ∃ fp, Sep w.heap.size w w' [Ck.own (bytes 5) fp [r] (padded b)] := by
  have h0 := h
  obtain ⟨A, c, rfl, _⟩ := sl_open h
  have H := Sep.start w
  refine body_of follows Tryz.func158 rfl rfl _ rfl (by kernel_rfl) (vs ?_)
  have hn : ¬ (200 : Int) < (b.length : Int) := by omega
  refine ve hn ?_
  refine x_callf H (implGreat_ok w (b.length : Int) 2 (by omega)) fun r1 f1 w1 H => ve hn ?_
  have hg := great2_len b.length
  have ej : [greatB (b.length : Int) 2, b].flatten = greatB (b.length : Int) 2 ++ b := by simp
  have hl : ([greatB (b.length : Int) 2, b].flatten).length = b.length + 2 := by rw [ej, List.length_append]; omega
  refine x_lstR (d := bytes 5) H sl26 rfl [_, _] [greatB (b.length : Int) 2, b] ⟨H.own (.head _), H.rd h0, trivial⟩ fun g7 w7 H hr => ve hn ?_
  refine x_call (joined2_ok w7 _ _ hr (by omega) (by simp)) fun _ w8 ⟨g8, e, S⟩ => ?_
  subst e
  have H := H.join S
  simp only [List.cons_append, List.nil_append] at H
  rw [hl, ej] at H
  rw [hl]
  have hN : ((greatB (b.length : Int) 2 ++ b).length + padZ b.length) * 1 ≤ 140737488355328 := by
    rw [List.length_append]; unfold padZ stepOf; split <;> omega
  have fin : ∀ (s : Nat), s = stepOf b.length → padZ b.length = (s - (b.length + 2) % s) % s := fun s hs => by subst hs; rfl
  by_cases hs : (96 : Int) < ((b.length + 2 : Nat) : Int)
  · have es : stepOf b.length = 96 := by unfold stepOf; rw [if_pos (by omega)]
    have ez := fin 96 es.symm
    refine ve (And.intro hs hn) ?_
    refine x_rem (b := 96) ?_
    refine ve (And.intro (pd_rem_96 (b.length + 2)) (pd_sub_96 (b.length + 2))) ?_
    refine x_rem (b := 96) ?_
    refine ve (pd_rem_96 (96 - (b.length + 2) % 96)) ?_
    rw [← ez]
    by_cases hz : padZ b.length = 0
    · rw [hz]
      refine x_appN sl22 Tryz.underlying3 (Nat.le_refl _) ?_
      refine vs ?_
      have e : padded b = greatB (b.length : Int) 2 ++ b := by unfold padded; rw [hz]; simp
      rw [e]
      exact ⟨_, H.head⟩
    · refine x_appZP (q := padZ b.length) sl22 Tryz.underlying3 H (by omega) hN (by omega) fun g2 c2 w2 H => vs ?_
      rw [show padded b = greatB (b.length : Int) 2 ++ b ++ List.replicate (padZ b.length) 0 from rfl]
      exact ⟨_, H.head⟩
  · have es : stepOf b.length = 32 := by unfold stepOf; rw [if_neg (by omega)]
    have ez := fin 32 es.symm
    refine ve (And.intro hs hn) ?_
    refine x_rem (b := 32) ?_
    refine ve (And.intro (pd_rem_32 (b.length + 2)) (pd_sub_32 (b.length + 2))) ?_
    refine x_rem (b := 32) ?_
    refine ve (pd_rem_32 (32 - (b.length + 2) % 32)) ?_
    rw [← ez]
    by_cases hz : padZ b.length = 0
    · rw [hz]
      refine x_appN sl22 Tryz.underlying3 (Nat.le_refl _) ?_
      refine vs ?_
      have e : padded b = greatB (b.length : Int) 2 ++ b := by unfold padded; rw [hz]; simp
      rw [e]
      exact ⟨_, H.head⟩
    · refine x_appZP (q := padZ b.length) sl22 Tryz.underlying3 H (by omega) hN (by omega) fun g2 c2 w2 H => vs ?_
      rw [show padded b = greatB (b.length : Int) 2 ++ b ++ List.replicate (padZ b.length) 0 from rfl]
      exact ⟨_, H.head⟩
theorem rem_nat (n : Nat) {s : Nat} (hs : 0 < s) : ((n : Int)).tmod (s : Int) = ((n % s : Nat) : Int) := rfl
theorem padZ_step {n k s : Nat} (hs : s = stepOf n) (h : ((n + 2 + k) % s = 0) = False) (hk : k ≤ padZ n) : k < padZ n := by
  have h : ¬ (n + 2 + k) % s = 0 := fun e => by rw [e] at h; simp at h
  unfold padZ at hk ⊢
  subst hs
  have : stepOf n = 96 ∨ stepOf n = 32 := by unfold stepOf; split <;> simp
  rcases this with e | e <;> rw [e] at hk h ⊢ <;> omega
theorem padZ_end {n k s : Nat} (hs : s = stepOf n) (h : (n + 2 + k) % s = 0) (hk : k ≤ padZ n) : k = padZ n := by
  unfold padZ at hk ⊢
  subst hs
  have : stepOf n = 96 ∨ stepOf n = 32 := by unfold stepOf; split <;> simp
  rcases this with e | e <;> rw [e] at hk h ⊢ <;> omega
theorem padZ_le (n : Nat) : padZ n ≤ 95 := by
  unfold padZ
  have : stepOf n = 96 ∨ stepOf n = 32 := by unfold stepOf; split <;> simp
  rcases this with e | e <;> rw [e] <;> omega
theorem rep_one (k : Nat) : List.replicate k (0 : UInt8) ++ [0] = List.replicate (k + 1) 0 := by rw [List.replicate_succ']
theorem specPadded_ok (w : World) (v : Value) (b : List UInt8) (h : (bytes 5).rd w w.heap.size [v] b) (hb : b.length ≤ 200) :
    ACalls Tryz.prog 156 #[v] w fun r w' => ∃ fp, Sep w.heap.size w w' [Ck.own (bytes 5) fp [r] (padded b)] := by
  have h0 := h
  obtain ⟨A, c, rfl, _⟩ := sl_open h
  have H := Sep.start w
  refine body_of follows Tryz.func156 rfl rfl _ rfl (by kernel_rfl) (vs ?_)
  have hn : ¬ (200 : Int) < (b.length : Int) := by omega
  refine ve hn ?_
  refine x_callf H (specGreat_ok w (b.length : Int) 2 (by omega)) fun r1 f1 w1 H => ve hn ?_
  have hg := great2_len b.length
  have hl : (greatB (b.length : Int) 2 ++ b).length = b.length + 2 := by rw [List.length_append]; omega
  refine x_app (l := greatB (b.length : Int) 2) H pl_u8 sl22 (H.rd h0) ?_ ?_ fun f2 r2 w2 H => ve hn ?_
  · omega
  · omega
  obtain ⟨A2, c2, rfl, _⟩ := sl_open (H.own (.head _))
  rw [hl]
  have hzl := padZ_le b.length
  have loop : ∀ s : Nat, s = stepOf b.length → (s : Int) = 96 ∨ (s : Int) = 32 → True := fun _ _ _ => trivial
  have inv0 : Sep w.heap.size w w2 [Ck.own (bytes 5) f2 [.slice A2 (greatB (b.length : Int) 2 ++ b).length c2] (greatB (b.length : Int) 2 ++ b ++ List.replicate 0 0)] := by simpa using H
  rw [hl] at inv0
  by_cases hs : (96 : Int) < ((b.length + 2 : Nat) : Int)
  · have es : stepOf b.length = 96 := by unfold stepOf; rw [if_pos (by omega)]
    refine ve (And.intro hs hn) ?_
    refine loop_at (σ := Nat × Value × List Nat) (fun y => [(3, y.2.1), (4, .int .i64 96)])
      (fun y w' => y.1 ≤ padZ b.length ∧ Sep w.heap.size w w' [Ck.own (bytes 5) y.2.2 [y.2.1] (greatB (b.length : Int) 2 ++ b ++ List.replicate y.1 0)]) (fun y => padZ b.length - y.1) (0, _, f2) (vs trivial) ⟨Nat.zero_le _, inv0⟩ ?_
    rintro ⟨k, r, f⟩ s w5 ⟨hk, H⟩
    dsimp only at hk H
    obtain ⟨A3, c3, rfl, _⟩ := sl_open (H.own (.head _))
    have hl3 : (greatB (b.length : Int) 2 ++ b ++ List.replicate k 0).length = b.length + 2 + k := by rw [List.length_append, hl, List.length_replicate]
    rw [hl3] at H ⊢
    refine vs ?_
    refine x_rem (b := 96) ?_
    by_cases hz : ((b.length + 2 + k : Nat) : Int).tmod 96 = 0
    · have hk2 := padZ_end es.symm (by have := pd_rem_96 (b.length + 2 + k); omega) hk
      refine ve hz ?_
      subst hk2
      exact ⟨_, H⟩
    · have hk2 := padZ_step es.symm (eq_false (by have := pd_rem_96 (b.length + 2 + k); omega)) hk
      refine ve hz ?_
      refine x_lst H pl_u8 sl22 [0] (by simp) fun g6 w6 H => vs ?_
      refine x_app (l := greatB (b.length : Int) 2 ++ b ++ List.replicate k 0) H pl_u8 sl22 (H.own (.head _)) ?_ ?_ fun f7 r7 w7 H => vs ?_
      · simp only [hl3, List.length_cons, List.length_nil]; omega
      · simp only [hl3, List.length_cons, List.length_nil]; omega
      rw [List.append_assoc _ _ [(0 : UInt8)], rep_one] at H
      exact ⟨(k + 1, r7, f7), rfl, ⟨hk2, H.tail⟩, by dsimp only; omega⟩
  · have es : stepOf b.length = 32 := by unfold stepOf; rw [if_neg (by omega)]
    refine ve (And.intro hs hn) ?_
    refine loop_at (σ := Nat × Value × List Nat) (fun y => [(3, y.2.1), (4, .int .i64 32)])
      (fun y w' => y.1 ≤ padZ b.length ∧ Sep w.heap.size w w' [Ck.own (bytes 5) y.2.2 [y.2.1] (greatB (b.length : Int) 2 ++ b ++ List.replicate y.1 0)]) (fun y => padZ b.length - y.1) (0, _, f2) (vs trivial) ⟨Nat.zero_le _, inv0⟩ ?_
    rintro ⟨k, r, f⟩ s w5 ⟨hk, H⟩
    dsimp only at hk H
    obtain ⟨A3, c3, rfl, _⟩ := sl_open (H.own (.head _))
    have hl3 : (greatB (b.length : Int) 2 ++ b ++ List.replicate k 0).length = b.length + 2 + k := by rw [List.length_append, hl, List.length_replicate]
    rw [hl3] at H ⊢
    refine vs ?_
    refine x_rem (b := 32) ?_
    by_cases hz : ((b.length + 2 + k : Nat) : Int).tmod 32 = 0
    · have hk2 := padZ_end es.symm (by have := pd_rem_32 (b.length + 2 + k); omega) hk
      refine ve hz ?_
      subst hk2
      exact ⟨_, H⟩
    · have hk2 := padZ_step es.symm (eq_false (by have := pd_rem_32 (b.length + 2 + k); omega)) hk
      refine ve hz ?_
      refine x_lst H pl_u8 sl22 [0] (by simp) fun g6 w6 H => vs ?_
      refine x_app (l := greatB (b.length : Int) 2 ++ b ++ List.replicate k 0) H pl_u8 sl22 (H.own (.head _)) ?_ ?_ fun f7 r7 w7 H => vs ?_
      · simp only [hl3, List.length_cons, List.length_nil]; omega
      · simp only [hl3, List.length_cons, List.length_nil]; omega
      rw [List.append_assoc _ _ [(0 : UInt8)], rep_one] at H
      exact ⟨(k + 1, r7, f7), rfl, ⟨hk2, H.tail⟩, by dsimp only; omega⟩
theorem padded_len {b : List UInt8} : (padded b).length = b.length + 2 + padZ b.length := by
  unfold padded
  rw [List.length_append, List.length_append, great2_len, List.length_replicate]; omega
end Go.Proofs.YtfhbglaigjekpaaGreat.V
