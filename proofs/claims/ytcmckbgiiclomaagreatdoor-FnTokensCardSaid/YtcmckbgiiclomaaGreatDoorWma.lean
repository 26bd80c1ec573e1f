/- Codes by a key: both sides. -/
import Derived.Test.YtcmckbgiiclomaaGreatDoorWy
namespace Go.Proofs.YtcmckbgiiclomaaGreatDoor.V
open Go Go.RowKit
set_option maxRecDepth 100000
set_option maxHeartbeats 4000000
set_option linter.unusedSimpArgs false
set_option linter.unusedVariables false
set_option pp.deepTerms false
set_option pp.deepTerms.threshold 3

section
variable {P : Program} {w : World} {K : Value → World → Prop} {KQ : Value → Prop} {m : Nat} {G : List (Nat × Nat)} {tg : Tg K} {tq : Tg (m, G, w, KQ)}
theorem x_min {ts : Array TypeId} {ty : TypeId} {a b : Int} (h : K (.int .i64 (min a b)) w) : Builtin' P K tg .min ts ty [.int .i64 a, .int .i64 b] w := by
  show vS P (Builtin.min_ ts ty #[.int .i64 a, .int .i64 b]) w K
  refine vS_run (v := .int .i64 (min a b)) ?_ h
  by_cases hab : b < a
  · have : ¬ (a ≤ b) := by omega
    simp [Builtin.min_, Builtin.min2, Int.min_def, hab, this]
  · have : a ≤ b := by omega
    simp [Builtin.min_, Builtin.min2, Int.min_def, hab, this]
theorem q_offB {t e sz by_ : Nat} {z : Value} (HS : SlT P t e sz by_ z) (h1 : sz = 1) {g c o : Nat} {k : IntKind} (hm : o ≤ c) (h : KQ (.slice (some ⟨g, if c = o then 0 else o, none⟩) (c - o) (c - o))) : QS P m G w KQ tq (Instr.sliceAt t (.slice (some ⟨g, 0, none⟩) c c) (some (.int k (o : Int))) none none) := by
  obtain ⟨i, hi', hs, _⟩ := HS.inf
  have he := elem_of HS.un
  have hu : P.underlying t = some (.slice (P.elem t)) := by rw [he]; exact HS.un
  refine QS_of (v := .slice (some ⟨g, if c = o then 0 else o, none⟩) (c - o) (c - o)) (fun w' _ => ?_) h
  have hsz : (sizeOf (P.elem t)).run P w' = .ok sz w' := by rw [he]; exact run_sizeOf' hi' hs
  rw [run_sliceAt_slice w' t _ _ _ _ hu, run_slice_l w' t (some ⟨g, 0, none⟩) c c hu k o (by omega) (by omega), hsz]
  subst h1
  by_cases e : c = o
  · simp [sliced, e]
  · simp [sliced, e, Kd.add_plain]
theorem q_hiB {t e sz by_ : Nat} {z : Value} (HS : SlT P t e sz by_ z) {g c o : Nat} {k : IntKind} (hm : o ≤ c) (h : KQ (.slice (some ⟨g, 0, none⟩) o c)) : QS P m G w KQ tq (Instr.sliceAt t (.slice (some ⟨g, 0, none⟩) c c) none (some (.int k (o : Int))) none) := by
  refine QS_of (v := .slice (some ⟨g, 0, none⟩) o c) (fun w' _ => ?_) h
  rw [(run_sub HS (w := w') (k := .i64) (lo := 0)).2.1 hm]
  simp [sliced, Addr.add]
end

theorem bitsMul64_ok (w : World) : ACalls Tryz.prog 101 #[.int .u64 1, .int .u64 64] w fun r w' => r = .tuple #[.int .u64 0, .int .u64 64] ∧ w' = w := by
  have a1 : iand .u64 1 4294967295 = 1 := by unfold iand; decide
  have a2 : ishr .u64 1 32 = 0 := by unfold ishr; decide
  have a3 : iand .u64 64 4294967295 = 64 := by unfold iand; decide
  have a4 : ishr .u64 64 32 = 0 := by unfold ishr; decide
  have a5 : IntKind.u64.wrap (1 * 64) = 64 := by decide
  have a6 : IntKind.u64.wrap (0 * 64) = 0 := by decide
  have a7 : IntKind.u64.wrap (0 + 0) = 0 := by decide
  have a8 : iand .u64 0 4294967295 = 0 := by unfold iand; decide
  have a9 : ishr .u64 0 32 = 0 := by unfold ishr; decide
  have b1 : IntKind.u64.wrap (1 * 0) = 0 := by decide
  have b2 : IntKind.u64.wrap (0 * 0) = 0 := by decide
  refine body_of follows Tryz.func101 rfl rfl _ rfl (by kernel_rfl) (ve (And.intro a1 (And.intro a2 (And.intro a3 (And.intro a4 (And.intro a5 (And.intro a6 (And.intro a7 (And.intro a8 (And.intro a9 (And.intro b1 b2)))))))))) ?_)
  trivial
theorem bitsMul_ok (w : World) : ACalls Tryz.prog 79 #[.int .u64 1, .int .u64 64] w fun r w' => r = .tuple #[.int .u64 0, .int .u64 64] ∧ w' = w := by
  refine body_of follows Tryz.func79 rfl rfl _ rfl (by kernel_rfl) (vs ?_)
  refine x_callw (bitsMul64_ok w) (vs ?_)
  trivial
theorem rep_rd {n : Nat} {w0 w : World} {L : List Ck} {g c k : Nat} {cur : List Value} {x : UInt8} (H : Sep n w0 w L) (hm : Ck.box g cur 5 ∈ L) (ht : cur.take k = List.replicate k (encB x)) (hk : k ≤ c) (hc : c ≤ maxLen) : (bytes 5).rd w w.heap.size [.slice (some ⟨g, 0, none⟩) k c] (List.replicate k x) := by
  refine ⟨some ⟨g, 0, none⟩, c, by simp, by simpa using hk, hc, pl_u8.slRd.2 ⟨fun _ _ => trivial, fun i hi => ⟨rfl, H.lt hm, ?_⟩⟩⟩
  rw [adA_some, Kd.add_plain, H.cell hm]
  simp only [List.length_replicate] at hi
  have h1 : (cur.take k)[i]? = (List.replicate k (encB x))[i]? := by rw [ht]
  rw [List.getElem?_take, if_pos hi, List.getElem?_replicate, if_pos hi] at h1
  rw [h1, List.getElem_replicate]
theorem rep_step {cur : List Value} {e : Nat} {x : UInt8} (he : e < 6) (hl : 64 ≤ cur.length) (ht : cur.take (2 ^ e) = List.replicate (2 ^ e) (encB x)) :
    (cur.take (2 ^ e) ++ (List.replicate (2 ^ e) x).map encB ++ cur.drop (2 ^ e + (List.replicate (2 ^ e) x).length)).length = cur.length ∧
    (cur.take (2 ^ e) ++ (List.replicate (2 ^ e) x).map encB ++ cur.drop (2 ^ e + (List.replicate (2 ^ e) x).length)).take (2 ^ (e + 1)) = List.replicate (2 ^ (e + 1)) (encB x) := by
  have h64 : 2 ^ (e + 1) ≤ 64 := Nat.pow_le_pow_right (n := 2) (by omega) (show e + 1 ≤ 6 by omega)
  rw [Nat.pow_succ] at h64 ⊢
  rw [ht]
  simp only [List.map_replicate, List.length_replicate]
  constructor
  · simp only [List.length_append, List.length_replicate, List.length_drop]; omega
  · rw [List.take_append_of_le_length (by simp only [List.length_append, List.length_replicate]; omega), List.replicate_append_replicate, List.take_of_length_le (by simp only [List.length_replicate]; omega)]
    congr 1; omega

theorem repeat_ok (w : World) (v : Value) (x : UInt8) (h : (bytes 5).rd w w.heap.size [v] [x]) :
    ACalls Tryz.prog 59 #[v, .int .i64 64] w fun r w' => ∃ fp, Sep w.heap.size w w' [Ck.own (bytes 5) fp [r] (List.replicate 64 x)] := by
  have h0 := h
  obtain ⟨A, c, rfl, hc1, hc2, ha⟩ := sl_open h
  have H := Sep.start w
  have a1 : IntKind.u64.wrap (([x] : List UInt8).length : Int) = 1 := by show IntKind.u64.wrap 1 = 1; decide
  have a2 : IntKind.u64.wrap 64 = 64 := by decide
  have a3 : ((64 : Int) = 0) = False := by decide
  have a4 : ¬ ((64 : Int) < 0) := by decide
  have a5 : ¬ ((0 : Int) < 0) := by decide
  have a6 : ¬ ((9223372036854775807 : Int) < 64) := by decide
  have a7 : w64 64 = 64 := by unfold w64; decide
  have a8 : ((([x] : List UInt8).length : Int) = 0) = False := eq_false (by simp)
  have a9 : ¬ ((8192 : Int) < 64) := by decide
  have E := And.intro a1 (And.intro a2 (And.intro a3 (And.intro a4 (And.intro a5 (And.intro a6 (And.intro a7 (And.intro a8 a9)))))))
  refine body_of follows Tryz.func59 rfl rfl _ rfl (by kernel_rfl) (ve E ?_)
  refine x_callw (bitsMul_ok w) (ve E ?_)
  refine o_ext Tryz.func78 (by kernel_rfl) (by kernel_rfl) (by kernel_rfl) (e := Extern.BytealgMakeNoZero.makeNoZero #[3] #[22]) (by kernel_rfl) ?_
  refine x_mkNZ (m := 64) H Tryz.underlying22 (by omega) fun g cs w3 hcs H => vs ?_
  refine x_hm (m := 64) sl22 hcs (vs ?_)
  refine x_cpB (cur := cs) H sl22 (H.rd h0) (by simp) (by simp; omega) fun w4 H => vs ?_
  have hcur : ∃ cur : List Value, cur = cs.take 0 ++ ([x] : List UInt8).map encB ++ cs.drop (0 + ([x] : List UInt8).length) := ⟨_, rfl⟩
  obtain ⟨cur, hcur⟩ := hcur
  rw [← hcur] at H
  have hcl : 64 ≤ cur.length := by rw [hcur]; simp; omega
  have hct : cur.take (2 ^ 0) = List.replicate (2 ^ 0) (encB x) := by rw [hcur]; simp
  refine loop_at (σ := Nat × List Value) (fun y => [(7, .int .i64 64), (8, .int .i64 64), (9, .slice (some ⟨g, 0, none⟩) 64 64), (10, .int .i64 ((2 ^ y.1 : Nat) : Int))])
    (fun y w' => y.1 ≤ 6 ∧ 64 ≤ y.2.length ∧ y.2.take (2 ^ y.1) = List.replicate (2 ^ y.1) (encB x) ∧ Sep w.heap.size w w' [Ck.box g y.2 5]) (fun y => 64 - 2 ^ y.1) (0, cur) (vs ?_) ⟨Nat.zero_le _, hcl, hct, H⟩ ?_
  · rfl
  rintro ⟨e, cur⟩ s w5 ⟨he, hcl, hct, H⟩
  dsimp only at he hcl hct H
  by_cases he6 : e < 6
  · have hp : 2 ^ (e + 1) ≤ 64 := Nat.pow_le_pow_right (n := 2) (by omega) (show e + 1 ≤ 6 by omega)
    have hp1 : 2 ^ (e + 1) = 2 ^ e * 2 := Nat.pow_succ ..
    have hp0 : 0 < 2 ^ e := Nat.pow_pos (by omega)
    have e1 : ((2 ^ e : Nat) : Int) < 64 := by omega
    refine ve e1 ?_
    refine x_min ?_
    have e2 : min ((2 ^ e : Nat) : Int) 64 = ((2 ^ e : Nat) : Int) := by omega
    rw [e2]
    refine vs ?_
    refine draw_of [(0, true), (1, true), (2, true), (3, true), (4, true), (5, true), (6, true), (7, false), (8, true), (9, true)] w.heap.size [] fun w6 hh hb6 => vs ?_
    have H := H.go (hb6 _)
    have H3 := H
    refine q_offB (c := 64) sl22 rfl (by omega) (vs ?_)
    refine q_hiB (c := 64) sl22 (by omega) (vs ?_)
    have hne : ¬ (64 = 2 ^ e) := by omega
    rw [if_neg hne]
    obtain ⟨y1, y2⟩ := rep_step he6 hcl hct
    refine x_cpB (cur := cur) H sl22 (rep_rd H (.head _) hct (by omega) (by simp [maxLen])) (by simp only [List.length_replicate]; omega) (by simp only [List.length_replicate]; omega) fun w7 H => vs ?_
    refine ⟨kept_base H3 H, (e + 1, _), i64_eq (by show w64 (((2 ^ e : Nat) : Int) + ((List.replicate (2 ^ e) x).length : Int)) = ((2 ^ (e + 1) : Nat) : Int); rw [List.length_replicate]; exact w64_add (by omega) (by omega)), ⟨by show e + 1 ≤ 6; omega, by rw [← y1] at hcl; exact hcl, y2, H⟩, by show 64 - 2 ^ (e + 1) < 64 - 2 ^ e; omega⟩
  · obtain rfl : e = 6 := by omega
    have e1 : ¬ (((2 ^ 6 : Nat) : Int) < 64) := by decide
    refine ve e1 ?_
    have hf := H.full (a := List.replicate 64 x) (by simpa using hcl) (by simp) (by simp only [List.length_replicate, List.map_replicate]; exact hct)
    exact ⟨_, hf⟩

/-! ### xor -/
def xorB (a b : List UInt8) : List UInt8 := List.zipWith (· ^^^ ·) a b
theorem xorB_len (a b : List UInt8) : (xorB a b).length = min a.length b.length := by simp [xorB]
theorem xorB_succ {a b : List UInt8} {k : Nat} (h : k < a.length) (h' : k < b.length) : xorB (a.take (k + 1)) (b.take (k + 1)) = xorB (a.take k) (b.take k) ++ [a[k] ^^^ b[k]] := by
  unfold xorB
  rw [List.take_succ_eq_append_getElem h, List.take_succ_eq_append_getElem h', List.zipWith_append (by simp; omega)]
  rfl
theorem xorB_take (a b : List UInt8) : xorB (a.take (min a.length b.length)) (b.take (min a.length b.length)) = xorB a b := by
  unfold xorB
  rw [← List.take_zipWith]
  exact List.take_of_length_le (by simp)
def xorPlan : List (Nat × Bool) := [(0, true), (1, true), (2, true), (3, true), (4, true), (5, true), (6, true), (7, true), (8, true), (9, true), (10, false), (11, false), (12, true)]
theorem implXor_ok (w : World) (v : Value) (a : List UInt8) (u : Value) (b : List UInt8) (h : (bytes 5).rd w w.heap.size [v] a) (h' : (bytes 5).rd w w.heap.size [u] b) (hl : a.length ≤ 1099511627776) :
    ACalls Tryz.prog 58 #[v, u] w fun r w' => ∃ fp, Sep w.heap.size w w' [Ck.own (bytes 5) fp [r] (xorB a b)] := by
  obtain ⟨A, c, rfl, _, _, ha⟩ := sl_open h
  obtain ⟨B, d, rfl, _, _, hb⟩ := sl_open h'
  have H := Sep.start w
  refine body_of follows Tryz.func58 rfl rfl _ rfl (by kernel_rfl) (vs ?_)
  refine x_emp H pl_u8 sl22 fun g w1 H => vs ?_
  refine x_min ?_
  have em : min (a.length : Int) (b.length : Int) = ((min a.length b.length : Nat) : Int) := by omega
  rw [em]
  refine vs ?_
  refine loop_at (σ := Nat × Value × List Nat) (fun x => [(0, .slice A a.length c), (1, .slice B b.length d), (5, x.2.1), (12, .int .i64 ((min a.length b.length : Nat) : Int)), (13, .int .i64 (x.1 : Int))])
    (fun x w' => x.1 ≤ min a.length b.length ∧ Sep w.heap.size w w' [Ck.own (bytes 5) x.2.2 [x.2.1] (xorB (a.take x.1) (b.take x.1))]) (fun x => min a.length b.length - x.1) (0, _, _) (vs trivial) ⟨Nat.zero_le _, H⟩ ?_
  rintro ⟨k, v', fp⟩ s w2 ⟨hk, H⟩
  dsimp only at hk H
  by_cases hlt : k < min a.length b.length
  · have h1 : k < a.length := by omega
    have h2 : k < b.length := by omega
    have e0 : ((k : Int) < ((min a.length b.length : Nat) : Int)) := by omega
    refine ve e0 ?_
    refine draw_of [(0, true), (1, true), (2, true), (3, true), (4, true), (5, true), (6, true), (7, true), (8, true), (9, true), (10, false), (11, false), (12, true)] w.heap.size [] fun w3 hh hb3 => vs ?_
    have H := H.go (hb3 _)
    have H3 := H
    refine q_elV pl_u8 sl22 k (ha.mono H.bel) (List.getElem?_eq_getElem h1) rfl rfl fun ad hb1 hc1 _ => vs ?_
    refine qx_load sc5 hc1 hb1 (by simp) (vs ?_)
    refine q_elV pl_u8 sl22 k (hb.mono H.bel) (List.getElem?_eq_getElem h2) rfl rfl fun ad hb2 hc2 _ => vs ?_
    refine qx_load sc5 hc2 hb2 (by simp) (vs ?_)
    rw [ixor_u8]
    refine x_lst H pl_u8 sl22 [a[k] ^^^ b[k]] (by simp) fun g4 w4 H => vs ?_
    refine ⟨kept_base H3 H, ?_⟩
    have hxl := xorB_len (a.take k) (b.take k)
    simp only [List.length_take] at hxl
    refine x_app (l := xorB (a.take k) (b.take k)) H pl_u8 sl22 (H.own (.head _)) ?_ ?_ fun fp5 v5 w5 H => vs ?_
    · simp only [List.length_cons, List.length_nil]; omega
    · simp only [List.length_cons, List.length_nil]; omega
    refine ⟨kept_base H3 H, (k + 1, v5, fp5), ⟨rfl, i64_eq (by show w64 ((k : Int) + 1) = ((k + 1 : Nat) : Int); unfold w64; omega)⟩, ⟨hlt, ?_⟩, by show min a.length b.length - (k + 1) < min a.length b.length - k; omega⟩
    dsimp only
    rw [xorB_succ h1 h2]; exact H.tail
  · obtain rfl : k = min a.length b.length := by omega
    have e0 : ¬ (((min a.length b.length : Nat) : Int) < ((min a.length b.length : Nat) : Int)) := by omega
    refine ve e0 ?_
    rw [xorB_take] at H
    exact ⟨_, H⟩
end Go.Proofs.YtcmckbgiiclomaaGreatDoor.V
