/- What is drawn of a code: the cursor, and what it gives; of whatever it gives, only how great it may be. An append of zeros that are made for it; what a code has at a place. Draws of so many bytes, or nearly. Draws of one of a list, of a route, of a seed. -/
import Derived.Test.YtcmckbgiiclomaaGreatDoorWa
import Derived.Test.YtcmckbgiiclomaaGreatDoorVu
namespace Go.Proofs.YtcmckbgiiclomaaGreatDoor.V
open Go Go.RowKit
set_option maxRecDepth 100000
set_option maxHeartbeats 4000000
set_option linter.unusedSimpArgs false
set_option linter.unusedVariables false
set_option pp.deepTerms false
set_option pp.deepTerms.threshold 3

theorem iand_le {a : Int} {b : Nat} (hb : b < 9223372036854775808) : 0 ≤ iand .i64 a (b : Int) ∧ iand .i64 a (b : Int) ≤ b := by
  have h : (BitVec.ofInt IntKind.i64.bits a &&& BitVec.ofInt IntKind.i64.bits (b : Int)).toNat ≤ b := by
    show (BitVec.ofInt 64 a &&& BitVec.ofInt 64 (b : Int)).toNat ≤ b
    rw [BitVec.toNat_and, toNat_nat64, Nat.mod_eq_of_lt (by omega)]
    exact Nat.and_le_right
  unfold iand
  generalize (BitVec.ofInt IntKind.i64.bits a &&& BitVec.ofInt IntKind.i64.bits (b : Int)).toNat = m at h
  rw [wrap_nat64 (by omega)]
  omega
theorem iand_255 (a : Int) : ∃ k : Nat, k < 256 ∧ iand .i64 a 255 = (k : Int) := by
  have := iand_le (a := a) (b := 255) (by omega)
  have h : iand .i64 a ((255 : Nat) : Int) = iand .i64 a 255 := rfl
  rw [h] at this
  exact ⟨(iand .i64 a 255).toNat, by omega, by omega⟩
section
variable {P : Program} {s : Sl} {w : World} {K : Value → World → Prop} {d : Option Tmp} {ty : TypeId} {pos : String} {af : Array Edge} {g : Option (Nat × Bool)}
theorem x_nilc {x : Operand} {a : Addr} {t : Tg ((⟨d, .nilCheck x, ty, pos, af, g⟩ : Oper), K)} (h : K (.pointer (some a)) w) (he : ev s x = .pointer (some a) := by rfl) : Aop P ⟨d, .nilCheck x, ty, pos, af, g⟩ K t s w := by
  have e : execOp (ev s) ⟨d, .nilCheck x, ty, pos, af, g⟩ = pure (.value (.pointer (some a))) := by simp [execOp, he]
  unfold Aop aop
  rw [e]
  exact h
theorem q_nilc {n : Nat} {G : List (Nat × Nat)} {w0 : World} {K : Value → Prop} {x : Operand} {a : Addr} {t : Tg (n, G, w0, (⟨d, .nilCheck x, ty, pos, af, g⟩ : Oper), K)} (h : K (.pointer (some a))) (he : ev s x = .pointer (some a) := by rfl) : Qop P n G w0 ⟨d, .nilCheck x, ty, pos, af, g⟩ K t s := by
  rw [qop_now (v := .pointer (some a)) (by simp [execOp, he])]
  exact h
end

theorem Sep.drops' {n : Nat} {w0 w : World} {L M : List Ck} {c : Ck} (H : Sep n w0 w (L ++ c :: M)) : Sep n w0 w (L ++ M) := by
  have h : ∀ L : List Ck, Out c (L ++ c :: M) (L ++ M) := fun L => by
    induction L with
    | nil => exact .here
    | cons a L ih => exact .there ih
  exact (H.out (h L)).tail
/-! ### the cursor -/
abbrev curB (g : Nat) (v : Value) (i h : Int) : Ck := Ck.box g [v, .int .i64 i, .int .i64 h] 57

theorem l1Byte_ok {n : Nat} {w0 w : World} {L : List Ck} {g : Nat} {v : Value} {i h : Int} {a : List UInt8} (H : Sep n w0 w (curB g v i h :: L)) (hv : (bytes 5).rd w0 n [v] a) (hi : 0 ≤ i ∧ i ≤ a.length) :
    ACalls Tryz.prog 52 #[.pointer (some ⟨g, 0, none⟩)] w fun r w' => ∃ (k : Nat) (i' h' : Int), r = .int .i64 (k : Int) ∧ k < 256 ∧ (0 ≤ i' ∧ i' ≤ a.length) ∧ Sep n w0 w' (curB g v i' h' :: L) := by
  have hlm := sl_len hv
  obtain ⟨A, c, rfl, hc1, hc2, ha⟩ := sl_open hv
  refine body_of follows Tryz.func52 rfl rfl _ rfl (by kernel_rfl) (vs ?_)
  refine x_nilc ?_
  refine vs ?_
  refine x_ld H sc3 ?_
  refine vs ?_
  refine x_nilc ?_
  refine vs ?_
  refine x_st H sc3 fun w1 H => vs ?_
  refine draw_at [(0, true), (1, true), (2, true), (3, true), (4, true), (5, true), (6, true), (7, true), (8, true), (9, true), (10, true), (11, true), (12, true)] fun w2 hh hb2 => vs ?_
  have H := H.go (hb2 _)
  refine q_nilc ?_
  refine vs ?_
  refine q_ld H sc3 ?_
  refine vs ?_
  refine q_nilc ?_
  refine vs ?_
  refine q_ld H sc3 ?_
  refine vs ?_
  generalize ixor .i64 (ishr .i64 _ 33) (ishr .i64 _ 45) = b0
  obtain ⟨k0, hk0, e0⟩ := iand_255 b0
  refine ve e0 ?_
  clear e0
  refine draw_at [(0, true), (1, true), (2, true), (3, true), (4, true), (5, true), (6, true), (7, true), (8, true), (9, true)] fun w3 hh3 hb3 => vs ?_
  have H := H.go (hb3 _)
  refine q_nilc ?_
  refine vs ?_
  refine q_ld H sc3 ?_
  refine vs ?_
  refine q_nilc ?_
  refine vs ?_
  refine q_ld H sc22 ?_
  by_cases q : i < (a.length : Int)
  · refine ve q ?_
    refine draw_at [(0, true), (1, true), (2, true), (3, true), (4, true), (5, true), (6, true), (7, true), (8, true), (9, true), (10, true), (11, true), (12, true), (13, true), (14, true)] fun w4 hh4 hb4 => vs ?_
    have H := H.go (hb4 _)
    refine q_nilc ?_
    refine vs ?_
    refine q_ld H sc22 ?_
    refine vs ?_
    refine q_nilc ?_
    refine vs ?_
    refine q_ld H sc3 ?_
    refine vs ?_
    refine q_elV pl_u8 sl22 (x := a[i.toNat]'(by omega)) i.toNat (ha.mono H.bel) (List.getElem?_eq_getElem _) (by omega) rfl fun ad hb hc _ => vs ?_
    refine qx_load sc5 hc (Nat.lt_of_lt_of_le hb H.ns) (by simp) ?_
    refine vs ?_
    generalize w64 ((k0 : Int) + _) = b1
    obtain ⟨k1, hk1, e1⟩ := iand_255 b1
    refine x_nilc ?_
    refine vs ?_
    refine x_ld H sc3 ?_
    have ew : w64 (i + 1) = i + 1 := w64_id (by omega) (by omega)
    refine ve ew ?_
    clear ew
    refine x_nilc ?_
    refine vs ?_
    refine x_st H sc3 fun w5 H => vs ?_
    exact ⟨k1, _, _, by rw [e1], hk1, ⟨by omega, by omega⟩, H⟩
  · refine ve q ?_
    exact ⟨k0, _, _, rfl, hk0, hi, H⟩

theorem tmod_nat {a b : Nat} : ((a : Int)).tmod (b : Int) = ((a % b : Nat) : Int) := by
  rw [Int.ofNat_tmod]
theorem l1Below_ok {n : Nat} {w0 w : World} {L : List Ck} {g : Nat} {v : Value} {i h : Int} {a : List UInt8} (m : Int) (H : Sep n w0 w (curB g v i h :: L)) (hv : (bytes 5).rd w0 n [v] a) (hi : 0 ≤ i ∧ i ≤ a.length) :
    ACalls Tryz.prog 37 #[.pointer (some ⟨g, 0, none⟩), .int .i64 m] w fun r w' => ∃ (k : Nat) (i' h' : Int), r = .int .i64 (k : Int) ∧ (k = 0 ∨ (k : Int) < m) ∧ (0 ≤ i' ∧ i' ≤ a.length) ∧ Sep n w0 w' (curB g v i' h' :: L) := by
  refine body_of follows Tryz.func37 rfl rfl _ rfl (by kernel_rfl) (vs ?_)
  by_cases q : m ≤ 0
  · refine ve q ?_
    exact ⟨0, _, _, rfl, .inl rfl, hi, H⟩
  refine ve q ?_
  obtain ⟨m, rfl⟩ : ∃ k : Nat, m = (k : Int) := ⟨m.toNat, by omega⟩
  have hm : 0 < m := by omega
  by_cases q2 : (m : Int) ≤ 256
  · refine ve q2 ?_
    refine x_call (l1Byte_ok H hv hi) fun _ w1 ⟨k, i1, h1, e, hk, hi1, H⟩ => ?_
    subst e
    refine vs ?_
    refine x_rem (h := ?_) (hb := by omega)
    rw [tmod_nat]
    refine vs ?_
    exact ⟨_, _, _, rfl, .inr (by have := Nat.mod_lt k hm; omega), hi1, H⟩
  · refine ve q2 ?_
    refine x_call (l1Byte_ok H hv hi) fun _ w1 ⟨k1, i1, h1, e, hk1, hi1, H⟩ => ?_
    subst e
    refine vs ?_
    refine x_call (l1Byte_ok H hv hi1) fun _ w2 ⟨k2, i2, h2, e, hk2, hi2, H⟩ => ?_
    subst e
    refine vs ?_
    refine x_call (l1Byte_ok H hv hi2) fun _ w3 ⟨k3, i3, h3, e, hk3, hi3, H⟩ => ?_
    subst e
    refine vs ?_
    refine x_call (l1Byte_ok H hv hi3) fun _ w4 ⟨k4, i4, h4, e, hk4, hi4, H⟩ => ?_
    subst e
    refine vs ?_
    have e : w64 (w64 (w64 (w64 ((k1 : Int) * 16777216) + w64 ((k2 : Int) * 65536)) + w64 ((k3 : Int) * 256)) + (k4 : Int)) = ((k1 * 16777216 + k2 * 65536 + k3 * 256 + k4 : Nat) : Int) := by
      rw [w64_id (n := (k1 : Int) * 16777216) (by omega) (by omega), w64_id (n := (k2 : Int) * 65536) (by omega) (by omega), w64_id (n := (k3 : Int) * 256) (by omega) (by omega), w64_id (n := (k1 : Int) * 16777216 + (k2 : Int) * 65536) (by omega) (by omega), w64_id (n := (k1 : Int) * 16777216 + (k2 : Int) * 65536 + (k3 : Int) * 256) (by omega) (by omega), w64_id (by omega) (by omega)]
      omega
    rw [e]
    clear e
    refine x_rem (h := ?_) (hb := by omega)
    rw [tmod_nat]
    refine vs ?_
    exact ⟨_, _, _, rfl, .inr (by have := Nat.mod_lt (k1 * 16777216 + k2 * 65536 + k3 * 256 + k4) hm; omega), hi4, H⟩

theorem l1New_ok (w : World) (v : Value) (a : List UInt8) (hv : (bytes 5).rd w w.heap.size [v] a) :
    ACalls Tryz.prog 17 #[v] w fun r w' => ∃ (g : Nat) (i' h' : Int), r = .pointer (some ⟨g, 0, none⟩) ∧ (0 ≤ i' ∧ i' ≤ a.length) ∧ Sep w.heap.size w w' [curB g v i' h'] := by
  have hlm := sl_len hv
  obtain ⟨A, c, rfl, hc1, hc2, ha⟩ := sl_open hv
  have H := Sep.start w
  refine body_of follows Tryz.func17 rfl rfl _ rfl (by kernel_rfl) (vs ?_)
  refine loop_at (σ := Nat × Int) (fun y => [(0, .slice A a.length c), (3, .int .i64 y.2), (4, .int .i64 (y.1 : Int))])
    (fun y w' => Sep w.heap.size w w' []) (fun y => a.length - y.1) (0, w64 (27508 + (a.length : Int))) (vs trivial) H ?_
  rintro ⟨k, hh⟩ s w2 H
  refine vs ?_
  by_cases q1 : (k : Int) < (a.length : Int)
  · refine ve q1 ?_
    by_cases q2 : (k : Int) < 4000
    · refine ve q2 ?_
      refine x_el pl_u8 sl22 (ha.mono H.bel) (by omega) q1 fun ad hb hc _ => vs ?_
      refine x_load sc5 hc (vs ?_)
      exact ⟨(k + 1, _), ⟨rfl, i64_eq (by show w64 ((k : Int) + 1) = ((k + 1 : Nat) : Int); exact w64_succ (b := 4000) (by omega) (by omega))⟩, H, by show a.length - (k + 1) < a.length - k; omega⟩
    · refine ve q2 ?_
      refine x_build bl57 [.slice A a.length c, .int .i64 0, .int .i64 hh] ?_
      refine vs ?_
      refine x_bx H [.slice A a.length c, .int .i64 0, .int .i64 hh] fun g w3 H => vs ?_
      exact ⟨g, 0, hh, rfl, ⟨by omega, by omega⟩, H⟩
  · refine ve q1 ?_
    refine x_build bl57 [.slice A a.length c, .int .i64 0, .int .i64 hh] ?_
    refine vs ?_
    refine x_bx H [.slice A a.length c, .int .i64 0, .int .i64 hh] fun g w3 H => vs ?_
    exact ⟨g, 0, hh, rfl, ⟨by omega, by omega⟩, H⟩

theorem u8_low {k : Nat} (h : k < 256) : (k : Int) % 256 = ((UInt8.ofNat k).toNat : Int) := by
  rw [UInt8.toNat_ofNat']; omega

theorem run_append_zeros {P : Program} (w : World) (t tn ty e : TypeId) (i : TypeInfo) (z : Value) (k kn : IntKind) (ht : P.underlying t = some (.slice e)) (htn : P.underlying tn = some (.int kn)) (hi : P.info? e = some i) (hz : i.zero = some z)
    (b : Addr) (sLen sCap : Nat) (olds : List Value) (hlo : olds.length = sLen * i.size) (holds : ∀ j v, olds[j]? = some v → w.cell? (b.add j) = some v)
    (n : Nat) (h0 : n * i.size ≠ 0) (hg : sCap < sLen + n) (h63 : ((sLen + n : Nat) : Int) ≤ 9223372036854775807) (hfit : Builtin.nextslicecap (sLen + n) sCap * i.bytes ≤ 281474976710656) (hn48 : n * i.bytes ≤ 281474976710656) :
    (Builtin.append_ #[t, tn] ty #[.slice (some b) sLen sCap, .int k (n : Int)]).run P w =
      .ok (.slice (some ⟨w.heap.size, 0, none⟩) (sLen + n) (grownCap w (sLen + n) sCap e))
        (w.drew.alloc (.cells (olds.toArray ++ Builtin.zeroCells z.cells n ++ Builtin.zeroCells z.cells (grownCap w (sLen + n) sCap e - (sLen + n))) e)) := by
  have hn : ¬ (sLen + n ≤ sCap) := by omega
  have h63' : ¬ (9223372036854775807 < ((sLen : Int) + (n : Int))) := by omega
  have h48' : ¬ (281474976710656 < Builtin.nextslicecap (sLen + n) sCap * i.bytes) := by omega
  have h48i : ¬ (281474976710656 < (n : Int) * (i.bytes : Int)) := by rw [← Int.natCast_mul]; omega
  have hneg : ¬ ((n : Int) < 0) := by omega
  have hw : IntKind.i64.wrap (n : Int) = n := by rw [IntKind.wrap_i64]; omega
  have hfo := run_firstCells_some (P := P) w.drew i.size sLen b sLen sCap olds hlo (by simpa using holds)
  have h01 : ¬ n = 0 := fun e => h0 (by rw [e]; simp)
  have h02 : ¬ i.size = 0 := fun e => h0 (by rw [e]; simp)
  simp [Builtin.append_, run_underlying' ht, run_underlying' htn, sizeOf, typeInfo, zeroValue, hi, hz, asInt, asIntOf, hw, hneg, h48i, hn, h63', h48', Question.forced, hfo, newRow, grownCap, h01, h02]
  exact fun h => absurd h h0
theorem zeroB (n : Nat) : (Builtin.zeroCells #[encB 0] n).toList = (List.replicate n (0 : UInt8)).map encB := by
  apply List.ext_getElem?
  intro j
  simp only [Builtin.zeroCells, Array.toList_map, List.getElem?_map, List.getElem?_replicate, List.map_replicate]
  by_cases h : j < n
  · simp [h, Nat.mod_one]
  · simp [h]
/-- Bytes that lie in a row without room, and so many zeros behind them. -/
theorem x_appZ {P : Program} {n : Nat} {w0 w : World} {L : List Ck} {K : Value → World → Prop} {tg : Tg K} {t tn ty e by_ : Nat} {kn : IntKind} (HS : SlT P t e 1 by_ (encB 0)) (htn : P.underlying tn = some (.int kn)) {g m : Nat} {l : List UInt8} {q : Nat} {kk : IntKind} (H : Sep n w0 w (Ck.own (bytes e) [g] [.slice (some ⟨g, 0, none⟩) m m] l :: L)) (hq : 0 < q) (hb : (l.length + q) * by_ ≤ 140737488355328) (hn : l.length + q ≤ 9223372036854775807)
    (h : ∀ g' c w', Sep n w0 w' (Ck.own (bytes e) [g'] [.slice (some ⟨g', 0, none⟩) (l.length + q) c] (l ++ List.replicate q 0) :: L) → K (.slice (some ⟨g', 0, none⟩) (l.length + q) c) w') :
    Builtin' P K tg .append #[t, tn] ty [.slice (some ⟨g, 0, none⟩) m m, .int kk (q : Int)] w := by
  obtain ⟨i, hi, hs, hby, hz⟩ := HS.inf
  obtain ⟨hR, ho, hfp⟩ := pl_u8.slOw.1 (show (bytes e).ow w [g] [.slice (some ⟨g, 0, none⟩) m m] l from H.ok _ (.head _))
  obtain rfl := ownsRow_len ho
  rcases ho.2 with ⟨h1, _⟩ | ⟨g', cap, cur, h1, _, hh, hc, hm, hcs, ht⟩
  · cases h1
  cases h1
  have hlen := ho.1
  have hcell : ∀ j v, (l.map encB)[j]? = some v → w.cell? ((⟨g, 0, none⟩ : Addr).add j) = some v := fun j v hj => by
    rw [Kd.add_plain, Kd.cell_blk hh]
    have ht' : cur.toList.take (l.length * 1) = l.map encB := ht
    rw [← ht', List.getElem?_take] at hj
    split at hj
    · simpa using hj
    · cases hj
  subst hby
  have hr := run_append_zeros (P := P) w t tn ty e i (encB 0) kk kn HS.un htn hi hz ⟨g, 0, none⟩ l.length l.length (l.map encB) (by rw [hs]; exact hlen) hcell q (by rw [hs]; omega) (by omega) (by omega) (growslice_fits (by omega) hb) (by
    have : q * i.bytes ≤ (l.length + q) * i.bytes := Nat.mul_le_mul_right _ (by omega)
    omega)
  have hge := grownCap_ge w (l.length + q) l.length e
  have hzc : (encB 0).cells = #[encB 0] := rfl
  unfold Builtin'
  refine vS_run hr (h w.heap.size _ _ ?_)
  have hbl : Below w.heap.size w (w.drew.alloc (.cells ((l.map encB).toArray ++ Builtin.zeroCells (encB 0).cells q ++ Builtin.zeroCells (encB 0).cells (grownCap w (l.length + q) l.length e - (l.length + q))) e)) := Below.alloc ((Below.refl _ w).drew) (Nat.le_refl _) _
  have hL : (l ++ List.replicate q (0 : UInt8)).length = l.length + q := by rw [List.length_append, List.length_replicate]
  have hM : (l ++ List.replicate q (0 : UInt8)).map encB = l.map encB ++ (Builtin.zeroCells (encB 0).cells q).toList := by rw [List.map_append, hzc, zeroB]
  refine (H.add (c := Ck.own (bytes e) [w.heap.size] [.slice (some ⟨w.heap.size, 0, none⟩) (l.length + q) (grownCap w (l.length + q) l.length e)] (l ++ List.replicate q 0)) hbl (pl_u8.slOw.2 ⟨fun _ _ => trivial, ⟨by rw [List.length_map]; simp, .inr ⟨w.heap.size, _, _, ?_, Nat.zero_le _, heap_alloc_new w.drew _, by rw [hL]; exact hge, grownCap_le_maxLen w (l.length + q) l.length e (by simpa [maxLen] using hn), ?_, ?_⟩⟩, rfl⟩) (by simp [Ck.own]) (fun b hb => ?_)).drops' (L := [_])
  · rw [hL]
  · simp only [Array.size_append, List.size_toArray, List.length_map, size_zeroCells, hzc]
    simp
    omega
  · rw [hL, hM, Array.toList_append, Array.toList_append, List.take_append_of_le_length (by simp [size_zeroCells, hzc])]
    exact List.take_of_length_le (by simp [size_zeroCells, hzc])
  · simp only [Ck.own_fp, List.mem_singleton] at hb
    subst hb
    exact ⟨Nat.le_refl _, by simp⟩


theorem l1Max_ok (w : World) (a b : Int) : ACalls Tryz.prog 39 #[.int .i64 a, .int .i64 b] w fun r w' => r = .int .i64 (max a b) ∧ w' = w := by
  refine body_of follows Tryz.func39 rfl rfl _ rfl (by kernel_rfl) (vs ?_)
  by_cases q : b < a
  · refine ve q ?_
    congr 1; omega
  · refine ve q ?_
    congr 1; omega
theorem l1DrawJust_ok {n : Nat} {w0 w : World} {L : List Ck} {g : Nat} {v : Value} {i h : Int} {a : List UInt8} (m : Nat) (H : Sep n w0 w (curB g v i h :: L)) (hv : (bytes 5).rd w0 n [v] a) (hi : 0 ≤ i ∧ i ≤ a.length) (hm : m ≤ 1048576) :
    ACalls Tryz.prog 38 #[.pointer (some ⟨g, 0, none⟩), .int .i64 (m : Int)] w fun r w' => ∃ (b : List UInt8) (fp : List Nat) (i' h' : Int), b.length = m ∧ (0 ≤ i' ∧ i' ≤ a.length) ∧ Sep n w0 w' (Ck.own (bytes 5) fp [r] b :: curB g v i' h' :: L) := by
  refine body_of follows Tryz.func38 rfl rfl _ rfl (by kernel_rfl) (vs ?_)
  refine x_emp H pl_u8 sl22 fun g1 w1 H => vs ?_
  refine loop_at (σ := Nat × Value × List UInt8 × List Nat × Int × Int) (fun y => [(0, .pointer (some ⟨g, 0, none⟩)), (1, .int .i64 (m : Int)), (5, y.2.1), (6, .int .i64 (y.1 : Int))])
    (fun y w' => y.1 ≤ m ∧ y.2.2.1.length = y.1 ∧ (0 ≤ y.2.2.2.2.1 ∧ y.2.2.2.2.1 ≤ a.length) ∧ Sep n w0 w' (Ck.own (bytes 5) y.2.2.2.1 [y.2.1] y.2.2.1 :: curB g v y.2.2.2.2.1 y.2.2.2.2.2 :: L)) (fun y => m - y.1) (0, .slice (some ⟨g1, 0, none⟩) 0 0, [], [g1], i, h) (vs trivial) ⟨Nat.zero_le _, rfl, hi, H⟩ ?_
  rintro ⟨j, u, b, fp, i2, h2⟩ s w3 ⟨hj, hb, hi2, H⟩
  dsimp only at hj hb hi2 H
  refine vs (ways ?_ ?_)
  · refine vh fun hlt => ?_
    have H := H.front (c := curB g v i2 h2)
    refine x_call (l1Below_ok 256 H hv hi2) fun _ w4 ⟨q, i3, h3, e, hq, hi3, H⟩ => ?_
    subst e
    refine ve (u8_low (k := q) (by omega)) ?_
    refine x_lst H pl_u8 sl22 [UInt8.ofNat q] (by simp) fun g4 w4 H => vs ?_
    refine x_app H pl_u8 sl22 (H.own (.head _)) ?_ ?_ fun f5 v5 w5 H => vs ?_
    · simp only [List.length_cons, List.length_nil]; omega
    · simp only [List.length_cons, List.length_nil]; omega
    refine ⟨(j + 1, v5, b ++ [UInt8.ofNat q], f5, i3, h3), ⟨rfl, i64_eq (by show w64 ((j : Int) + 1) = ((j + 1 : Nat) : Int); exact w64_succ (b := 1048576) (by omega) (by omega))⟩, ⟨by dsimp only; omega, by dsimp only; simp [hb], hi3, ?_⟩, by show m - (j + 1) < m - j; omega⟩
    have H := H.front (c := Ck.own (bytes 5) f5 [v5] (b ++ [UInt8.ofNat q]))
    exact H.drops' (L := [_])
  · refine vh fun hlt => ?_
    exact ⟨_, _, _, _, by omega, hi2, H⟩
theorem l1DrawNear_ok {n : Nat} {w0 w : World} {L : List Ck} {g : Nat} {v : Value} {i h : Int} {a : List UInt8} (m : Nat) (H : Sep n w0 w (curB g v i h :: L)) (hv : (bytes 5).rd w0 n [v] a) (hi : 0 ≤ i ∧ i ≤ a.length) (hm : m ≤ 1048000) :
    ACalls Tryz.prog 18 #[.pointer (some ⟨g, 0, none⟩), .int .i64 (m : Int)] w fun r w' => ∃ (b : List UInt8) (fp : List Nat) (i' h' : Int), b.length ≤ m + 1 ∧ (0 ≤ i' ∧ i' ≤ a.length) ∧ Sep n w0 w' (Ck.own (bytes 5) fp [r] b :: curB g v i' h' :: L) := by
  refine body_of follows Tryz.func18 rfl rfl _ rfl (by kernel_rfl) (vs ?_)
  refine x_call (l1Below_ok 16 H hv hi) fun _ w1 ⟨k, i1, h1, e, hk, hi1, H⟩ => ?_
  subst e
  by_cases q0 : (k : Int) = 0
  · refine ve q0 ?_
    refine ve (show w64 ((m : Int) + 1) = ((m + 1 : Nat) : Int) by rw [w64_id (by omega) (by omega)]; omega) ?_
    refine x_call (l1DrawJust_ok (m + 1) H hv hi1 (by omega)) fun r w2 ⟨b, fp, i2, h2, hb, hi2, H⟩ => vs ?_
    exact ⟨_, _, _, _, by omega, hi2, H⟩
  refine ve q0 ?_
  by_cases q1 : (k : Int) = 1
  · refine ve q1 ?_
    refine ve (show w64 ((m : Int) - 1) = (m : Int) - 1 by rw [w64_id (by omega) (by omega)]) ?_
    refine x_callw (l1Max_ok w1 _ _) ?_
    rw [show max ((m : Int) - 1) 0 = ((m - 1 : Nat) : Int) by omega]
    refine vs ?_
    refine x_call (l1DrawJust_ok (m - 1) H hv hi1 (by omega)) fun r w2 ⟨b, fp, i2, h2, hb, hi2, H⟩ => vs ?_
    exact ⟨_, _, _, _, by omega, hi2, H⟩
  refine ve q1 ?_
  by_cases q2 : (k : Int) = 2
  · refine ve q2 ?_
    refine x_emp H pl_u8 sl22 fun g2 w2 H => vs ?_
    exact ⟨_, _, _, _, by simp, hi1, H⟩
  refine ve q2 ?_
  refine x_call (l1DrawJust_ok m H hv hi1 (by omega)) fun r w2 ⟨b, fp, i2, h2, hb, hi2, H⟩ => vs ?_
  exact ⟨_, _, _, _, by omega, hi2, H⟩

/-- One of a list of numbers. -/
theorem l1PickInt_ok {n : Nat} {w0 w : World} {L : List Ck} {g : Nat} {v u : Value} {i h : Int} {a : List UInt8} {fp : List Nat} (l : List Int) (H : Sep n w0 w (Ck.own (Kd.slice 3 Kd.i64) fp [u] l :: curB g v i h :: L)) (hv : (bytes 5).rd w0 n [v] a) (hi : 0 ≤ i ∧ i ≤ a.length) (hl : 0 < l.length) :
    ACalls Tryz.prog 28 #[.pointer (some ⟨g, 0, none⟩), u] w fun r w' => ∃ (x : Int) (i' h' : Int), r = .int .i64 x ∧ x ∈ l ∧ (-9223372036854775808 ≤ x ∧ x < 9223372036854775808) ∧ (0 ≤ i' ∧ i' ≤ a.length) ∧ Sep n w0 w' (curB g v i' h' :: L) := by
  obtain ⟨A, c, rfl, hc1, hc2, _⟩ := sl_open (H.own (.head _))
  refine body_of follows Tryz.func28 rfl rfl _ rfl (by kernel_rfl) (vs ?_)
  have H := H.front (c := curB g v i h)
  refine x_call (l1Below_ok (l.length : Int) H hv hi) fun _ w2 ⟨k, i1, h1, e, hk, hi1, H⟩ => ?_
  subst e
  refine vs ?_
  have hk2 : k < l.length := by omega
  obtain ⟨A', c', e', hc1', hc2', ha'⟩ := sl_open (H.own (.tail _ (.head _)))
  simp only [Value.slice.injEq] at e'
  obtain ⟨rfl, _, rfl⟩ := e'
  refine x_elV pl_i64 sl52 (x := l[k]) k ha' (List.getElem?_eq_getElem _) rfl rfl fun ad hb hc hr => vs ?_
  refine x_load sc3 hc (vs ?_)
  exact ⟨_, _, _, rfl, List.getElem_mem _, hr, hi1, H.drops' (L := [_])⟩
/-- One of a list of texts. -/
theorem l1Pick_ok {n : Nat} {w0 w : World} {L : List Ck} {g : Nat} {v u : Value} {i h : Int} {a : List UInt8} {fp : List Nat} (l : List (List UInt8)) (H : Sep n w0 w (Ck.own (Kd.slice 9 Kd.str) fp [u] l :: curB g v i h :: L)) (hv : (bytes 5).rd w0 n [v] a) (hi : 0 ≤ i ∧ i ≤ a.length) (hl : 0 < l.length) :
    ACalls Tryz.prog 40 #[.pointer (some ⟨g, 0, none⟩), u] w fun r w' => ∃ (x : List UInt8) (i' h' : Int), r = .string ⟨x.toArray⟩ ∧ x ∈ l ∧ (0 ≤ i' ∧ i' ≤ a.length) ∧ Sep n w0 w' (curB g v i' h' :: L) := by
  obtain ⟨A, c, rfl, hc1, hc2, _⟩ := sl_open (H.own (.head _))
  refine body_of follows Tryz.func40 rfl rfl _ rfl (by kernel_rfl) (vs ?_)
  have H := H.front (c := curB g v i h)
  refine x_call (l1Below_ok (l.length : Int) H hv hi) fun _ w2 ⟨k, i1, h1, e, hk, hi1, H⟩ => ?_
  subst e
  refine vs ?_
  have hk2 : k < l.length := by omega
  obtain ⟨A', c', e', hc1', hc2', ha'⟩ := sl_open (H.own (.tail _ (.head _)))
  simp only [Value.slice.injEq] at e'
  obtain ⟨rfl, _, rfl⟩ := e'
  refine x_elV pl_str sl45 (x := l[k]) k ha' (List.getElem?_eq_getElem _) rfl rfl fun ad hb hc hr => vs ?_
  refine x_load sc9 hc (vs ?_)
  exact ⟨_, _, _, rfl, List.getElem_mem _, hi1, H.drops' (L := [_])⟩

def routeS : List (List UInt8) := [[48, 48, 48, 48, 48, 48, 48, 48, 48, 48, 48, 48, 48, 48, 48, 48], [48, 48, 48, 48, 48, 48, 48, 48, 48, 48, 48, 48, 48, 48, 102, 102], [97, 98, 99, 100, 101, 102, 48, 49, 50, 51, 52, 53, 54, 55, 56, 57]]
theorem routeS_len : ∀ x ∈ routeS, x.length = 16 := by
  intro x hx
  simp only [routeS, List.mem_cons, List.not_mem_nil, or_false] at hx
  rcases hx with rfl | rfl | rfl <;> rfl
theorem routeS_lo : ∀ x ∈ routeS, x.length ≤ 9223372036854775807 := fun x hx => by rw [routeS_len x hx]; omega
theorem l13DrawRoute_ok {n : Nat} {w0 w : World} {L : List Ck} {g : Nat} {v : Value} {i h : Int} {a : List UInt8} (H : Sep n w0 w (curB g v i h :: L)) (hv : (bytes 5).rd w0 n [v] a) (hi : 0 ≤ i ∧ i ≤ a.length) :
    ACalls Tryz.prog 27 #[.pointer (some ⟨g, 0, none⟩)] w fun r w' => ∃ (x : List UInt8) (i' h' : Int), r = .string ⟨x.toArray⟩ ∧ x.length = 16 ∧ (0 ≤ i' ∧ i' ≤ a.length) ∧ Sep n w0 w' (curB g v i' h' :: L) := by
  refine body_of follows Tryz.func27 rfl rfl _ rfl (by kernel_rfl) (vs ?_)
  refine x_lst H pl_str sl45 routeS routeS_lo fun g1 w1 H => vs ?_
  refine x_call (l1Pick_ok routeS H hv hi (by decide)) fun _ w2 ⟨x, i1, h1, e, hx, hi1, H⟩ => ?_
  subst e
  refine vs ?_
  exact ⟨x, _, _, rfl, routeS_len x hx, hi1, H⟩
end Go.Proofs.YtcmckbgiiclomaaGreatDoor.V
