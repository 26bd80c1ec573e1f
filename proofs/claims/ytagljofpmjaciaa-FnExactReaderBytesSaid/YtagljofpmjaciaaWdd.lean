/- An append of zeros that are made for it; what a code has at a place. -/
import Derived.Test.YtagljofpmjaciaaWda
namespace Go.Proofs.Ytagljofpmjaciaa.V
open Go Go.RowKit
set_option maxRecDepth 100000
set_option maxHeartbeats 4000000
set_option linter.unusedSimpArgs false
set_option linter.unusedVariables false
set_option pp.deepTerms false
set_option pp.deepTerms.threshold 3

theorem run_append_zeros {P : Program} (w : World) (t tn ty e : TypeId) (i : TypeInfo) (z : Value) (k kn : IntKind) (ht : P.underlying t = some (.slice e)) (htn : P.underlying tn = some (.int kn)) (hi : P.info? e = some i) (hz : i.zero = some z)
    (b : Addr) (sLen sCap : Nat) (olds : List Value) (hlo : olds.length = sLen * i.size) (holds : ∀ j v, olds[j]? = some v → w.cell? (b.add j) = some v)
    (n : Nat) (h0 : n * i.size ≠ 0) (hg : sCap < sLen + n) (h63 : ((sLen + n : Nat) : Int) ≤ 9223372036854775807) (hfit : Builtin.nextslicecap (sLen + n) sCap * i.bytes ≤ 281474976710656) (hn48 : n * i.bytes ≤ 281474976710656) :
    (Builtin.append_ #[t, tn] ty #[.slice (some b) sLen sCap, .int k (n : Int)]).run P w =
      .ok (.slice (some ⟨w.heap.size, 0, none⟩) (sLen + n) (grownCap w (sLen + n) sCap e))
        (w.drew.alloc (.cells (olds.toArray ++ Builtin.zeroCells z.cells n ++ Builtin.zeroCells z.cells (grownCap w (sLen + n) sCap e - (sLen + n))) e)) := by
  have hn : ¬ (sLen + n ≤ sCap) := by omega
  have h63' : ¬ (9223372036854775807 < ((sLen : Int) + (n : Int))) := by omega
  have h48' : ¬ (281474976710656 < Builtin.nextslicecap (sLen + n) sCap * i.bytes) := by omega
  have h48i : ¬ (281474976710656 < (n : Int) * (i.bytes : Int)) := by rw [← Int.natCast_mul]; omega
  have hneg : ¬ ((n : Int) < 0) := by omega
  have hw : IntKind.i64.wrap (n : Int) = n := by rw [IntKind.wrap_i64]; omega
  have hfo := run_firstCells_some (P := P) w.drew i.size sLen b sLen sCap olds hlo (by simpa using holds)
  have h01 : ¬ n = 0 := fun e => h0 (by rw [e]; simp)
  have h02 : ¬ i.size = 0 := fun e => h0 (by rw [e]; simp)
  simp [Builtin.append_, run_underlying' ht, run_underlying' htn, sizeOf, typeInfo, zeroValue, hi, hz, asInt, asIntOf, hw, hneg, h48i, hn, h63', h48', Question.forced, hfo, newRow, grownCap, h01, h02]
  exact fun h => absurd h h0
theorem zeroB (n : Nat) : (Builtin.zeroCells #[encB 0] n).toList = (List.replicate n (0 : UInt8)).map encB := by
  apply List.ext_getElem?
  intro j
  simp only [Builtin.zeroCells, Array.toList_map, List.getElem?_map, List.getElem?_replicate, List.map_replicate]
  by_cases h : j < n
  · simp [h, Nat.mod_one]
  · simp [h]
/-- Bytes that lie in a row without room, and so many zeros behind them. -/
theorem x_appZ {P : Program} {n : Nat} {w0 w : World} {L : List Ck} {K : Value → World → Prop} {tg : Tg K} {t tn ty e by_ : Nat} {kn : IntKind} (HS : SlT P t e 1 by_ (encB 0)) (htn : P.underlying tn = some (.int kn)) {g m : Nat} {l : List UInt8} {q : Nat} {kk : IntKind} (H : Sep n w0 w (Ck.own (bytes e) [g] [.slice (some ⟨g, 0, none⟩) m m] l :: L)) (hq : 0 < q) (hb : (l.length + q) * by_ ≤ 140737488355328) (hn : l.length + q ≤ 9223372036854775807)
    (h : ∀ g' c w', Sep n w0 w' (Ck.own (bytes e) [g'] [.slice (some ⟨g', 0, none⟩) (l.length + q) c] (l ++ List.replicate q 0) :: L) → K (.slice (some ⟨g', 0, none⟩) (l.length + q) c) w') :
    Builtin' P K tg .append #[t, tn] ty [.slice (some ⟨g, 0, none⟩) m m, .int kk (q : Int)] w := by
  obtain ⟨i, hi, hs, hby, hz⟩ := HS.inf
  obtain ⟨hR, ho, hfp⟩ := pl_u8.slOw.1 (show (bytes e).ow w [g] [.slice (some ⟨g, 0, none⟩) m m] l from H.ok _ (.head _))
  obtain rfl := ownsRow_len ho
  rcases ho.2 with ⟨h1, _⟩ | ⟨g', cap, cur, h1, _, hh, hc, hm, hcs, ht⟩
  · cases h1
  cases h1
  have hlen := ho.1
  have hcell : ∀ j v, (l.map encB)[j]? = some v → w.cell? ((⟨g, 0, none⟩ : Addr).add j) = some v := fun j v hj => by
    rw [Kd.add_plain, Kd.cell_blk hh]
    have ht' : cur.toList.take (l.length * 1) = l.map encB := ht
    rw [← ht', List.getElem?_take] at hj
    split at hj
    · simpa using hj
    · cases hj
  subst hby
  have hr := run_append_zeros (P := P) w t tn ty e i (encB 0) kk kn HS.un htn hi hz ⟨g, 0, none⟩ l.length l.length (l.map encB) (by rw [hs]; exact hlen) hcell q (by rw [hs]; omega) (by omega) (by omega) (growslice_fits (by omega) hb) (by
    have : q * i.bytes ≤ (l.length + q) * i.bytes := Nat.mul_le_mul_right _ (by omega)
    omega)
  have hge := grownCap_ge w (l.length + q) l.length e
  have hzc : (encB 0).cells = #[encB 0] := rfl
  unfold Builtin'
  refine vS_run hr (h w.heap.size _ _ ?_)
  have hbl : Below w.heap.size w (w.drew.alloc (.cells ((l.map encB).toArray ++ Builtin.zeroCells (encB 0).cells q ++ Builtin.zeroCells (encB 0).cells (grownCap w (l.length + q) l.length e - (l.length + q))) e)) := Below.alloc ((Below.refl _ w).drew) (Nat.le_refl _) _
  have hL : (l ++ List.replicate q (0 : UInt8)).length = l.length + q := by rw [List.length_append, List.length_replicate]
  have hM : (l ++ List.replicate q (0 : UInt8)).map encB = l.map encB ++ (Builtin.zeroCells (encB 0).cells q).toList := by rw [List.map_append, hzc, zeroB]
  refine (H.add (c := Ck.own (bytes e) [w.heap.size] [.slice (some ⟨w.heap.size, 0, none⟩) (l.length + q) (grownCap w (l.length + q) l.length e)] (l ++ List.replicate q 0)) hbl (pl_u8.slOw.2 ⟨fun _ _ => trivial, ⟨by rw [List.length_map]; simp, .inr ⟨w.heap.size, _, _, ?_, Nat.zero_le _, heap_alloc_new w.drew _, by rw [hL]; exact hge, grownCap_le_maxLen w (l.length + q) l.length e (by simpa [maxLen] using hn), ?_, ?_⟩⟩, rfl⟩) (by simp [Ck.own]) (fun b hb => ?_)).drops' (L := [_])
  · rw [hL]
  · simp only [Array.size_append, List.size_toArray, List.length_map, size_zeroCells, hzc]
    simp
    omega
  · rw [hL, hM, Array.toList_append, Array.toList_append, List.take_append_of_le_length (by simp [size_zeroCells, hzc])]
    exact List.take_of_length_le (by simp [size_zeroCells, hzc])
  · simp only [Ck.own_fp, List.mem_singleton] at hb
    subst hb
    exact ⟨Nat.le_refl _, by simp⟩

theorem at_ok (w : World) (v : Value) (a : List UInt8) (i : Int) (h : (bytes 5).rd w w.heap.size [v] a) (hi : 0 ≤ i ∧ i ≤ 1000) (hl : a.length ≤ 1048576) :
    ACalls Try.prog 33 #[v, .int .i64 i] w fun r w' => ∃ k : Nat, r = .int .i64 (k : Int) ∧ k < 256 ∧ w' = w := by
  obtain ⟨A, c, rfl, _, _, ha⟩ := sl_open h
  refine body_of follows Try.func33 rfl rfl _ rfl (by kernel_rfl) (vs ?_)
  by_cases q : i < (a.length : Int)
  · refine ve q ?_
    refine x_el pl_u8 sl22 ha hi.1 q fun ad hb hc _ => vs ?_
    refine x_load sc5 hc (vs ?_)
    exact ⟨_, rfl, UInt8.toNat_lt _⟩
  · refine ve q ?_
    refine x_rem (h := ?_)
    obtain ⟨i, rfl⟩ : ∃ k : Nat, i = (k : Int) := ⟨i.toNat, by omega⟩
    rw [w64_id (n := (i : Int) * 7) (by omega) (by omega), w64_id (by omega) (by omega), show ((i : Int) * 7 + (a.length : Int)) = ((i * 7 + a.length : Nat) : Int) by omega]
    refine vs ?_
    refine ⟨(i * 7 + a.length) % 256, ?_, Nat.mod_lt _ (by decide)⟩
    rw [← tmod_nat]; rfl
end Go.Proofs.Ytagljofpmjaciaa.V
