/- Draws of tokens. -/
import Derived.Test.YtcmckbgiiclomaaGreatDoorWdn2
import Derived.Test.YtcmckbgiiclomaaGreatDoorWton
namespace Go.Proofs.YtcmckbgiiclomaaGreatDoor.V
open Go Go.RowKit
set_option maxRecDepth 100000
set_option maxHeartbeats 4000000
set_option linter.unusedSimpArgs false
set_option linter.unusedVariables false
set_option pp.deepTerms false
set_option pp.deepTerms.threshold 3

theorem run_part_sc {P : Program} {w : World} {e : TypeId} {z v : Value} (H : ScT P e z) {xs : Array Value} {off : Nat} (h : xs[off]? = some v) : (Go.part e xs off).run P w = .ok v w := by
  simp only [Go.part, Sem.run_bind]
  rw [run_isAgg_sc H]
  simp [h]
theorem run_eq2 {P : Program} {w : World} {T s i : TypeId} {f0 f1 : Field} {zs zi : Value} {a b : List UInt8} {m n : Int} (hT : P.underlying T = some (.struct #[f0, f1])) (h0 : f0.type = s ∧ f0.offset = 0 ∧ f0.name ≠ "_") (h1 : f1.type = i ∧ f1.offset = 1 ∧ f1.name ≠ "_")
    (hs : P.underlying s = some .string) (hi : P.underlying i = some (.int .i64)) (Hs : ScT P s zs) (Hi : ScT P i zi) (hst : P.stoodInHeld T = false) :
    (Op.equal T (.agg #[.string ⟨a.toArray⟩, .int .i64 m]) (.agg #[.string ⟨b.toArray⟩, .int .i64 n])).run P w = .ok (decide (a = b) && decide (m = n)) w := by
  obtain ⟨e0, o0, n0⟩ := h0
  obtain ⟨e1, o1, n1⟩ := h1
  show (Op.equalIn (9998 + 1 + 1) _ _ _).run P w = _
  have q1' : ∀ d w, (Op.equalIn (d + 1) s (.string ⟨a.toArray⟩) (.string ⟨b.toArray⟩)).run P w = .ok (decide (a = b)) w := fun d w => by
    simp [Op.equalIn, run_underlying' hs]; rw [show ((⟨a.toArray⟩ : ByteArray) == ⟨b.toArray⟩) = (a.toArray == b.toArray) from rfl, beq_dec]; simp
  have q2' : ∀ d w, (Op.equalIn (d + 1) i (.int .i64 m) (.int .i64 n)).run P w = .ok (decide (m = n)) w := fun d w => by
    simp [Op.equalIn, run_underlying' hi, beq_dec]
  have q1 := q1' 9998
  have q2 := q2' 9998
  have p1 : ∀ w, (Go.part s #[.string ⟨a.toArray⟩, .int .i64 m] 0).run P w = .ok (.string ⟨a.toArray⟩) w := fun w => run_part_sc Hs rfl
  have p2 : ∀ w, (Go.part s #[.string ⟨b.toArray⟩, .int .i64 n] 0).run P w = .ok (.string ⟨b.toArray⟩) w := fun w => run_part_sc Hs rfl
  have p3 : ∀ w, (Go.part i #[.string ⟨a.toArray⟩, .int .i64 m] 1).run P w = .ok (.int .i64 m) w := fun w => run_part_sc Hi rfl
  have p4 : ∀ w, (Go.part i #[.string ⟨b.toArray⟩, .int .i64 n] 1).run P w = .ok (.int .i64 n) w := fun w => run_part_sc Hi rfl
  generalize hd : 9998 + 1 = d at q1 q2 ⊢
  unfold Op.equalIn
  simp only [Sem.run_bind, run_underlying' hT]
  simp [hst, e0, e1, o0, o1, n0, n1, p1, p2, p3, p4, q1, q2]
  by_cases ha : a = b <;> by_cases hm : m = n <;> simp [ha, hm]
theorem run_toks {P : Program} {w : World} {T s i : TypeId} {f0 f1 : Field} {zs zi : Value} {a b : List UInt8} {m n : Int} {x y : Operand} (hT : P.underlying T = some (.struct #[f0, f1])) (h0 : f0.type = s ∧ f0.offset = 0 ∧ f0.name ≠ "_") (h1 : f1.type = i ∧ f1.offset = 1 ∧ f1.name ≠ "_")
    (hs : P.underlying s = some .string) (hi : P.underlying i = some (.int .i64)) (Hs : ScT P s zs) (Hi : ScT P i zi) (hst : P.stoodInHeld T = false) (hg : P.eqGuardType P.depth T = false) :
    (do eqGuard .eql T x y (.agg [.string ⟨a.toArray⟩, .int .i64 m].toArray) (.agg [.string ⟨b.toArray⟩, .int .i64 n].toArray); binOp .eql T (.agg [.string ⟨a.toArray⟩, .int .i64 m].toArray) (.agg [.string ⟨b.toArray⟩, .int .i64 n].toArray) : Sem Value).run P w = .ok (.bool (decide (a = b) && decide (m = n))) w ∧
    (do eqGuard .neq T x y (.agg [.string ⟨a.toArray⟩, .int .i64 m].toArray) (.agg [.string ⟨b.toArray⟩, .int .i64 n].toArray); binOp .neq T (.agg [.string ⟨a.toArray⟩, .int .i64 m].toArray) (.agg [.string ⟨b.toArray⟩, .int .i64 n].toArray) : Sem Value).run P w = .ok (.bool (!(decide (a = b) && decide (m = n)))) w := by
  have q := fun w => run_eq2 (w := w) (a := a) (b := b) (m := m) (n := n) hT h0 h1 hs hi Hs Hi hst
  constructor <;> simp [eqGuard, binOp, hg, q]
theorem tok_und : ∃ f0 f1 : Field, Tryz.prog.underlying 25 = some (.struct #[f0, f1]) ∧ (f0.type = 9 ∧ f0.offset = 0 ∧ f0.name ≠ "_") ∧ (f1.type = 3 ∧ f1.offset = 1 ∧ f1.name ≠ "_") :=
  ⟨_, _, Tryz.underlying25, ⟨rfl, rfl, by decide⟩, rfl, rfl, by decide⟩
theorem run_tok {w : World} {a b : List UInt8} {m n : Int} {x y : Operand} :
    (do eqGuard .eql 25 x y (.agg [.string ⟨a.toArray⟩, .int .i64 m].toArray) (.agg [.string ⟨b.toArray⟩, .int .i64 n].toArray); binOp .eql 25 (.agg [.string ⟨a.toArray⟩, .int .i64 m].toArray) (.agg [.string ⟨b.toArray⟩, .int .i64 n].toArray) : Sem Value).run Tryz.prog w = .ok (.bool (decide (a = b) && decide (m = n))) w ∧
    (do eqGuard .neq 25 x y (.agg [.string ⟨a.toArray⟩, .int .i64 m].toArray) (.agg [.string ⟨b.toArray⟩, .int .i64 n].toArray); binOp .neq 25 (.agg [.string ⟨a.toArray⟩, .int .i64 m].toArray) (.agg [.string ⟨b.toArray⟩, .int .i64 n].toArray) : Sem Value).run Tryz.prog w = .ok (.bool (!(decide (a = b) && decide (m = n)))) w := by
  obtain ⟨f0, f1, h, h0, h1⟩ := tok_und
  exact run_toks h h0 h1 Tryz.underlying9 Tryz.underlying3 sc9 sc3 (by kernel_rfl) (by kernel_rfl)
section
variable {w : World} {K : Value → World → Prop} {KQ : Value → Prop} {m' : Nat} {G : List (Nat × Nat)} {tg : Tg K} {tq : Tg (m', G, w, KQ)} {a : List UInt8} {m : Int} {x y : Operand}
theorem x_teq (h : K (.bool true) w) : Bin Tryz.prog K tg .eql 25 x y (.agg [.string ⟨a.toArray⟩, .int .i64 m].toArray) (.agg [.string ⟨a.toArray⟩, .int .i64 m].toArray) w := by unfold Bin; exact vS_run run_tok.1 (by simpa using h)
theorem q_tne (h : KQ (.bool false)) : QBin Tryz.prog m' G w KQ tq .neq 25 x y (.agg [.string ⟨a.toArray⟩, .int .i64 m].toArray) (.agg [.string ⟨a.toArray⟩, .int .i64 m].toArray) := by unfold QBin; exact QS_of (fun _ _ => run_tok.2) (by simpa using h)
end
/-! ### texts, cut -/
theorem str_to (l : List UInt8) (k : Nat) : (⟨l.toArray⟩ : ByteArray).extract 0 k = ⟨(l.take k).toArray⟩ := by
  apply ByteArray.ext
  simp [ByteArray.data_extract]
theorem str_from (l : List UInt8) (k m : Nat) (h : m = l.length) : (⟨l.toArray⟩ : ByteArray).extract k m = ⟨(l.drop k).toArray⟩ := by
  subst h
  apply ByteArray.ext
  simp [ByteArray.data_extract]
  exact List.take_of_length_le (by simp)
section
variable {P : Program} {m : Nat} {w : World} {K : Value → World → Prop} {KQ : Value → Prop} {G : List (Nat × Nat)} {tg : Tg K} {tq : Tg (m, G, w, KQ)} {t : TypeId} {l : List UInt8} {k : IntKind} {i : Nat}
theorem run_str_hi {w : World} (ht : P.underlying t = some .string) (hi : i ≤ l.length) : (Instr.sliceAt t (.string ⟨l.toArray⟩) none (some (.int k (i : Int))) none).run P w = .ok (.string ⟨(l.take i).toArray⟩) w := by
  rw [run_sliceAt_string w t _ _ _ _ ht, run_slice_string_h w t _ ht k _ (by omega) (by rw [str_size]; omega), Int.toNat_natCast, str_to]
theorem run_str_lo {w : World} (ht : P.underlying t = some .string) (hi : i ≤ l.length) : (Instr.sliceAt t (.string ⟨l.toArray⟩) (some (.int k (i : Int))) none none).run P w = .ok (.string ⟨(l.drop i).toArray⟩) w := by
  rw [run_sliceAt_string w t _ _ _ _ ht, run_slice_string_l w t _ ht k _ (by omega) (by rw [str_size]; omega), Int.toNat_natCast, str_from _ _ _ (str_size ..)]
theorem x_strTo (ht : P.underlying t = some .string) (hi : i ≤ l.length) (h : K (.string ⟨(l.take i).toArray⟩) w) : VS P K tg (Instr.sliceAt t (.string ⟨l.toArray⟩) none (some (.int k (i : Int))) none) w := vS_run (run_str_hi ht hi) h
theorem q_strTo (ht : P.underlying t = some .string) (hi : i ≤ l.length) (h : KQ (.string ⟨(l.take i).toArray⟩)) : QS P m G w KQ tq (Instr.sliceAt t (.string ⟨l.toArray⟩) none (some (.int k (i : Int))) none) := QS_of (fun _ _ => run_str_hi ht hi) h
theorem q_strFrom (ht : P.underlying t = some .string) (hi : i ≤ l.length) (h : KQ (.string ⟨(l.drop i).toArray⟩)) : QS P m G w KQ tq (Instr.sliceAt t (.string ⟨l.toArray⟩) (some (.int k (i : Int))) none none) := QS_of (fun _ _ => run_str_lo ht hi) h
theorem q_sadd {x y : Operand} {a b : List UInt8} (hl : a.length + b.length ≤ 9223372036854775807) (h : KQ (.string ⟨(a ++ b).toArray⟩)) : QBin P m G w KQ tq .add t x y (.string ⟨a.toArray⟩) (.string ⟨b.toArray⟩) := by unfold QBin; exact QS_of (fun _ _ => run_sadd hl) h
end
theorem low4t {k : Nat} (h : k = 0 ∨ (k : Int) < 4) : k < 256 := by omega
theorem u8_low4 {k : Nat} (h : k = 0 ∨ (k : Int) < 4) : (k : Int) % 256 = ((UInt8.ofNat k).toNat : Int) := u8_low (low4t h)
theorem l16DrawSeed_ok {n : Nat} {w0 w : World} {L : List Ck} {g : Nat} {v : Value} {i h : Int} {a : List UInt8} (H : Sep n w0 w (curB g v i h :: L)) (hv : (bytes 5).rd w0 n [v] a) (hi : 0 ≤ i ∧ i ≤ a.length) :
    ACalls Tryz.prog 44 #[.pointer (some ⟨g, 0, none⟩)] w fun r w' => ∃ (b : List UInt8) (fp : List Nat) (i' h' : Int), b.length = 32 ∧ (0 ≤ i' ∧ i' ≤ a.length) ∧ Sep n w0 w' (Ck.own (bytes 5) fp [r] b :: curB g v i' h' :: L) := by
  refine body_of follows Tryz.func44 rfl rfl _ rfl (by kernel_rfl) (vs ?_)
  refine x_call (l1Below_ok 4 H hv hi) fun _ w1 ⟨k, i1, h1, e, hk, hi1, H⟩ => ?_
  subst e
  refine ve (u8_low4 hk) ?_
  refine x_emp H pl_u8 sl22 fun g1 w1 H => vs ?_
  have h32 : ((32 : Nat) : Int) = 32 := rfl
  refine loop_at (σ := Nat × Value × List UInt8 × List Nat) (fun y => [(3, .int .u8 ((UInt8.ofNat k).toNat : Int)), (4, y.2.1), (5, .int .i64 (y.1 : Int))])
    (fun y w' => y.1 ≤ 32 ∧ y.2.2.1.length = y.1 ∧ Sep n w0 w' (Ck.own (bytes 5) y.2.2.2 [y.2.1] y.2.2.1 :: curB g v i1 h1 :: L)) (fun y => 32 - y.1) (0, .slice (some ⟨g1, 0, none⟩) 0 0, [], [g1]) (vs trivial) ⟨Nat.zero_le _, rfl, H⟩ ?_
  rintro ⟨j, u, b, fp⟩ s w3 ⟨hj, hb, H⟩
  dsimp only at hj hb H
  refine vs (ways ?_ ?_)
  · refine vh fun hlt => ?_
    refine x_lst H pl_u8 sl22 [UInt8.ofNat k] (by simp) fun g4 w4 H => vs ?_
    refine x_app H pl_u8 sl22 (H.own (.head _)) ?_ ?_ fun f5 v5 w5 H => vs ?_
    · simp only [List.length_cons, List.length_nil]; omega
    · simp only [List.length_cons, List.length_nil]; omega
    refine ⟨(j + 1, v5, b ++ [UInt8.ofNat k], f5), ⟨rfl, i64_eq (by show w64 ((j : Int) + 1) = ((j + 1 : Nat) : Int); exact w64_succ (b := 1048576) (by omega) (by omega))⟩, ⟨by dsimp only; omega, by dsimp only; simp [hb], ?_⟩, by show 32 - (j + 1) < 32 - j; omega⟩
    have H := H.front (c := curB g v i1 h1)
    have H := H.front (c := Ck.own (bytes 5) f5 [v5] (b ++ [UInt8.ofNat k]))
    exact H.drops' (L := [_, _])
  · refine vh fun hlt => ?_
    exact ⟨_, _, _, _, by omega, hi1, H⟩

def smTok (x : MToken) : Prop := x.f_Route.length ≤ 16 ∧ (-9223372036854775808 ≤ x.f_Until ∧ x.f_Until < 9223372036854775808)
theorem smTok_of {r : List UInt8} {t : Int} (h1 : r.length ≤ 16) (h2 : -9223372036854775808 ≤ t ∧ t < 9223372036854775808) : smTok ⟨r, t⟩ := ⟨h1, h2⟩
theorem smTok_k {w : World} {n : Nat} {x : MToken} (h : smTok x) : kToken.rd w n [.string ⟨x.f_Route.toArray⟩, .int .i64 x.f_Until] x := kToken_of x (by have := h.1; omega) h.2
def oddT : List (List UInt8) := [[], [48, 48], [48, 48, 48, 48, 48, 48, 48, 48, 48, 48, 48, 48, 48, 48, 48, 71]]
theorem oddT_len : ∀ x ∈ oddT, x.length ≤ 16 := by
  intro x hx
  simp only [oddT, List.mem_cons, List.not_mem_nil, or_false] at hx
  rcases hx with rfl | rfl | rfl <;> decide
theorem oddT_lo : ∀ x ∈ oddT, x.length ≤ 9223372036854775807 := fun x hx => by have := oddT_len x hx; omega
theorem l25DrawToken_ok {n : Nat} {w0 w : World} {L : List Ck} {g : Nat} {v : Value} {i h : Int} {a : List UInt8} (H : Sep n w0 w (curB g v i h :: L)) (hv : (bytes 5).rd w0 n [v] a) (hi : 0 ≤ i ∧ i ≤ a.length) :
    ACalls Tryz.prog 19 #[.pointer (some ⟨g, 0, none⟩)] w fun r w' => ∃ (x : MToken) (i' h' : Int), r = .agg [.string ⟨x.f_Route.toArray⟩, .int .i64 x.f_Until].toArray ∧ smTok x ∧ (0 ≤ i' ∧ i' ≤ a.length) ∧ Sep n w0 w' (curB g v i' h' :: L) := by
  refine body_of follows Tryz.func19 rfl rfl _ rfl (by kernel_rfl) (vs ?_)
  refine x_al H st25 fun g2 w1 H => vs ?_
  have H := H.front (c := curB g v i h)
  refine x_call (l13DrawRoute_ok H hv hi) fun _ w2 ⟨R, i1, h1, e, hR, hi1, H⟩ => ?_
  subst e
  refine vs ?_
  refine x_lst H pl_i64 sl52 [0, 5, 100, 100000] (by simp) fun g3 w4 H => vs ?_
  refine x_call (l1PickInt_ok _ H hv hi1 (by simp)) fun _ w5 ⟨D, i3, h3, e, _, hD, hi3, H⟩ => ?_
  subst e
  refine vs ?_
  refine x_build bl25 [.string ⟨R.toArray⟩, .int .i64 D] ?_
  refine vs ?_
  refine x_al H st25 fun g6 w7 H => vs ?_
  refine x_sta H st25 (vs := [.string ⟨R.toArray⟩, .int .i64 D]) (h1 := oneT) fun w8 H => vs ?_
  have H := H.front (c := curB g v i3 h3)
  refine x_call (l1Below_ok 8 H hv hi3) fun _ w9 ⟨q, i5, h5, e, hq, hi5, H⟩ => ?_
  subst e
  by_cases q0 : (q : Int) = 0
  · refine ve q0 ?_
    refine x_lst H pl_str sl45 oddT oddT_lo fun g7 w10 H => vs ?_
    refine x_call (l1Pick_ok oddT H hv hi5 (by decide)) fun _ w11 ⟨R2, i6, h6, e, hR2, hi6, H⟩ => ?_
    subst e
    refine vs ?_
    refine x_st H sc9 fun w11 H => vs ?_
    refine x_lda H st25 ?_
    refine vs ?_
    refine x_sta H st25 (vs := [.string ⟨R2.toArray⟩, .int .i64 D]) (h1 := oneT) fun w12 H => vs ?_
    have hres := res_cell H (g := g2) (cs := [.string ⟨R2.toArray⟩, .int .i64 D]) st25
    have H := H.front (c := curB g v i6 h6)
    have H := H.drops' (L := [_])
    have H := H.drops' (L := [_])
    exact ⟨_, _, rfl, hres, (⟨R2, D⟩ : MToken), i6, h6, rfl, smTok_of (oddT_len R2 hR2) hD, hi6, H⟩
  refine ve q0 ?_
  by_cases q1 : (q : Int) = 1
  · refine ve q1 ?_
    refine x_lst H pl_i64 sl52 [-1, 100001] (by simp) fun g7 w10 H => vs ?_
    refine x_call (l1PickInt_ok _ H hv hi5 (by simp)) fun _ w11 ⟨D2, i6, h6, e, _, hD2, hi6, H⟩ => ?_
    subst e
    refine vs ?_
    refine x_st H sc3 fun w11 H => vs ?_
    refine x_lda H st25 ?_
    refine vs ?_
    refine x_sta H st25 (vs := [.string ⟨R.toArray⟩, .int .i64 D2]) (h1 := oneT) fun w12 H => vs ?_
    have hres := res_cell H (g := g2) (cs := [.string ⟨R.toArray⟩, .int .i64 D2]) st25
    have H := H.front (c := curB g v i6 h6)
    have H := H.drops' (L := [_])
    have H := H.drops' (L := [_])
    exact ⟨_, _, rfl, hres, (⟨R, D2⟩ : MToken), i6, h6, rfl, smTok_of (by show R.length ≤ 16; omega) hD2, hi6, H⟩
  refine ve q1 ?_
  refine x_lda H st25 ?_
  refine vs ?_
  refine x_sta H st25 (vs := [.string ⟨R.toArray⟩, .int .i64 D]) (h1 := oneT) fun w12 H => vs ?_
  have hres := res_cell H (g := g2) (cs := [.string ⟨R.toArray⟩, .int .i64 D]) st25
  have H := H.front (c := curB g v i5 h5)
  have H := H.drops' (L := [_])
  have H := H.drops' (L := [_])
  exact ⟨_, _, rfl, hres, (⟨R, D⟩ : MToken), i5, h5, rfl, smTok_of (by show R.length ≤ 16; omega) hD, hi5, H⟩
theorem kept_w {n : Nat} {w0 w w' : World} {L L' : List Ck} (H : Sep n w0 w L) (H' : Sep n w0 w' L') : Kept n [] w w' := kept_base H H'
theorem smTok_sm {x : MToken} (h : smTok x) : smToken x := by unfold smToken; have := h.1; omega
def mixT : List (List UInt8) := [[46], [48], [65], [32]]
theorem l25DrawText_ok {n : Nat} {w0 w : World} {L : List Ck} {g : Nat} {v : Value} {i h : Int} {a : List UInt8} (H : Sep n w0 w (curB g v i h :: L)) (hv : (bytes 5).rd w0 n [v] a) (hi : 0 ≤ i ∧ i ≤ a.length) (ht : Tab w0) (hn : w0.heap.size ≤ n) :
    ACalls Tryz.prog 22 #[.pointer (some ⟨g, 0, none⟩)] w fun r w' => ∃ (k s : List UInt8) (r1 : Value) (fp : List Nat) (i' h' : Int), r = .tuple #[r1, .string ⟨s.toArray⟩] ∧ (k.length ≤ 32 ∧ s.length ≤ 105) ∧ (0 ≤ i' ∧ i' ≤ a.length) ∧ Sep n w0 w' (Ck.own (bytes 5) fp [r1] k :: curB g v i' h' :: L) := by
  refine body_of follows Tryz.func22 rfl rfl _ rfl (by kernel_rfl) (vs ?_)
  refine x_call (l16DrawSeed_ok H hv hi) fun r1 w1 ⟨k, f1, i1, h1, hk, hi1, H⟩ => vs ?_
  have H := H.front (c := curB g v i1 h1)
  refine x_call (l25DrawToken_ok H hv hi1) fun _ w2 ⟨x, i2, h2, e, hx, hi2, H⟩ => ?_
  subst e
  refine vs ?_
  refine x_callb H (specIssue_ok w2 r1 k _ x (H.own (.tail _ (.head _))) (smTok_k hx) (smTok_sm hx) (Tab.sep ht H hn)) fun w3 H => ?_
  have hS := issue_len k x
  generalize issue k x = S at *
  refine vs ?_
  refine ve (show w64 ((S.length : Int) + 1) = (S.length : Int) + 1 from w64_id (by omega) (by omega)) ?_
  refine x_call (l1Below_ok ((S.length : Int) + 1) H hv hi2) fun _ w4 ⟨j, i3, h3, e, hj, hi3, H⟩ => ?_
  subst e
  have hj2 : j ≤ S.length := by omega
  refine vs ?_
  refine x_call (l1Below_ok 6 H hv hi3) fun _ w5 ⟨c, i4, h4, e, hc, hi4, H⟩ => ?_
  subst e
  refine vs ?_
  by_cases q0 : (c : Int) = 0
  · refine ve q0 ?_
    refine draw_of [(0, true), (1, true), (2, true), (3, true), (4, true), (5, true)] n [] fun w6 hh hb6 => vs ?_
    have H := H.go (hb6 _)
    refine q_strTo Tryz.underlying9 hj2 ?_
    refine vs ?_
    exact ⟨_, _, _, f1, i4, h4, rfl, ⟨by omega, by rw [List.length_take]; omega⟩, hi4, H.front (c := Ck.own (bytes 5) f1 [r1] k)⟩
  refine ve q0 ?_
  by_cases q1 : (c : Int) = 1
  · refine ve q1 ?_
    refine draw_of [(0, true), (1, true), (2, true), (3, true), (4, true), (8, true), (9, true), (10, true), (5, false), (6, false), (7, true), (11, true), (12, true), (13, true)] n [] fun w6 hh hb6 => vs ?_
    have H := H.go (hb6 _)
    refine q_strTo Tryz.underlying9 hj2 ?_
    refine vs ?_
    refine q_strFrom Tryz.underlying9 hj2 ?_
    refine vs ?_
    have H6 := H
    refine x_lst H pl_str sl45 mixT (by unfold mixT; simp) fun g7 w7 H => vs ?_
    refine ⟨kept_w H6 H, ?_⟩
    refine x_call (l1Pick_ok mixT H hv hi4 (by decide)) fun _ w8 ⟨y, i5, h5, e, hy, hi5, H⟩ => ?_
    subst e
    have hyl : y.length = 1 := by
      simp only [mixT, List.mem_cons, List.not_mem_nil, or_false] at hy
      rcases hy with rfl | rfl | rfl | rfl <;> rfl
    refine vs ?_
    refine ⟨kept_w H6 H, ?_⟩
    refine q_sadd (by rw [List.length_take]; omega) ?_
    refine vs ?_
    refine q_sadd (by rw [List.length_append, List.length_take, List.length_drop]; omega) ?_
    refine vs ?_
    exact ⟨_, _, _, f1, i5, h5, rfl, ⟨by omega, by rw [List.length_append, List.length_append, List.length_take, List.length_drop]; omega⟩, hi5, H.front (c := Ck.own (bytes 5) f1 [r1] k)⟩
  refine ve q1 ?_
  by_cases q2 : (c : Int) = 2
  · refine ve q2 ?_
    refine x_call (l16DrawSeed_ok H hv hi4) fun r2 w6 ⟨k2, f2, i5, h5, hk2, hi5, H⟩ => vs ?_
    exact ⟨_, _, _, f2, i5, h5, rfl, ⟨by omega, by omega⟩, hi5, H.drops' (L := [_, _])⟩
  refine ve q2 ?_
  exact ⟨_, _, _, f1, i4, h4, rfl, ⟨by omega, by omega⟩, hi4, H.front (c := Ck.own (bytes 5) f1 [r1] k)⟩
theorem drawTokenText_ok (w : World) (v : Value) (a : List UInt8) (hv : (bytes 5).rd w w.heap.size [v] a) :
    ACalls Tryz.prog 11 #[v] w fun r w' => ∃ x : MToken, r = .agg [.string ⟨x.f_Route.toArray⟩, .int .i64 x.f_Until].toArray ∧ smTok x ∧ Below w.heap.size w w' := by
  have H := Sep.start w
  refine body_of follows Tryz.func11 rfl rfl _ rfl (by kernel_rfl) (vs ?_)
  refine x_al H st25 fun g2 w1 H => vs ?_
  refine x_call (l1New_ok w1 v a (H.rd hv)) fun _ w2 ⟨g, i, h, e, hi, S⟩ => ?_
  subst e
  have H := H.join S
  simp only [List.cons_append, List.nil_append] at H
  refine vs ?_
  refine x_call (l25DrawToken_ok H hv hi) fun _ w3 ⟨x, i2, h2, e, hx, hi2, H⟩ => ?_
  subst e
  refine vs ?_
  refine x_sta H st25 (vs := [.string ⟨x.f_Route.toArray⟩, .int .i64 x.f_Until]) (h1 := oneT) fun w4 H => vs ?_
  exact ⟨_, _, rfl, res_cell H (g := g2) (cs := [.string ⟨x.f_Route.toArray⟩, .int .i64 x.f_Until]) st25, x, rfl, hx, H.bel⟩
theorem drawIssue_ok (w : World) (v : Value) (a : List UInt8) (hv : (bytes 5).rd w w.heap.size [v] a) :
    ACalls Tryz.prog 5 #[v] w fun r w' => ∃ (x : MToken) (k : List UInt8) (r1 : Value) (fp : List Nat), r = .tuple #[r1, .agg [.string ⟨x.f_Route.toArray⟩, .int .i64 x.f_Until].toArray] ∧ smTok x ∧ k.length ≤ 33 ∧ Sep w.heap.size w w' [Ck.own (bytes 5) fp [r1] k] := by
  have H := Sep.start w
  refine body_of follows Tryz.func5 rfl rfl _ rfl (by kernel_rfl) (vs ?_)
  refine x_al H st25 fun g2 w1 H => vs ?_
  refine x_call (l1New_ok w1 v a (H.rd hv)) fun _ w2 ⟨g, i, h, e, hi, S⟩ => ?_
  subst e
  have H := H.join S
  simp only [List.cons_append, List.nil_append] at H
  refine vs ?_
  refine x_call (l1DrawNear_ok 32 H hv hi (by omega)) fun r1 w3 ⟨k, f1, i1, h1, hk, hi1, H⟩ => vs ?_
  have H := H.front (c := curB g v i1 h1)
  refine x_call (l25DrawToken_ok H hv hi1) fun _ w4 ⟨x, i2, h2, e, hx, hi2, H⟩ => ?_
  subst e
  refine vs ?_
  refine x_sta H st25 (vs := [.string ⟨x.f_Route.toArray⟩, .int .i64 x.f_Until]) (h1 := oneT) fun w5 H => vs ?_
  exact ⟨_, _, rfl, res_cell H (g := g2) (cs := [.string ⟨x.f_Route.toArray⟩, .int .i64 x.f_Until]) st25, x, k, r1, f1, rfl, hx, hk, H.only (c := Ck.own (bytes 5) f1 [r1] k)⟩
theorem drawTokenOf_ok (w : World) (v : Value) (a : List UInt8) (hv : (bytes 5).rd w w.heap.size [v] a) (ht : Tab w) :
    ACalls Tryz.prog 7 #[v] w fun r w' => ∃ (k s : List UInt8) (r1 : Value) (fp : List Nat), r = .tuple #[r1, .string ⟨s.toArray⟩] ∧ (k.length ≤ 32 ∧ s.length ≤ 105) ∧ Sep w.heap.size w w' [Ck.own (bytes 5) fp [r1] k] := by
  refine body_of follows Tryz.func7 rfl rfl _ rfl (by kernel_rfl) (vs ?_)
  refine x_call (l1New_ok w v a hv) fun _ w2 ⟨g, i, h, e, hi, H⟩ => ?_
  subst e
  refine vs ?_
  refine x_call (l25DrawText_ok H hv hi ht (Nat.le_refl _)) fun _ w3 ⟨k, s, r1, fp, i1, h1, e, hks, hi1, H⟩ => ?_
  subst e
  refine vs ?_
  exact ⟨k, s, _, fp, rfl, hks, H.head⟩
theorem drawMayFetch_ok (w : World) (v : Value) (a : List UInt8) (hv : (bytes 5).rd w w.heap.size [v] a) (ht : Tab w) :
    ACalls Tryz.prog 10 #[v] w fun r w' => ∃ (k s R : List UInt8) (D : Int) (r1 : Value) (fp : List Nat), r = .tuple #[r1, .string ⟨s.toArray⟩, .string ⟨R.toArray⟩, .int .i64 D] ∧ (k.length ≤ 32 ∧ s.length ≤ 105 ∧ R.length = 16) ∧ Sep w.heap.size w w' [Ck.own (bytes 5) fp [r1] k] := by
  refine body_of follows Tryz.func10 rfl rfl _ rfl (by kernel_rfl) (vs ?_)
  refine x_call (l1New_ok w v a hv) fun _ w2 ⟨g, i, h, e, hi, H⟩ => ?_
  subst e
  refine vs ?_
  refine x_call (l25DrawText_ok H hv hi ht (Nat.le_refl _)) fun _ w3 ⟨k, s, r1, fp, i1, h1, e, hks, hi1, H⟩ => ?_
  subst e
  refine vs ?_
  have H := H.front (c := curB g v i1 h1)
  refine x_call (l13DrawRoute_ok H hv hi1) fun _ w4 ⟨R, i2, h2, e, hR, hi2, H⟩ => ?_
  subst e
  refine vs ?_
  refine x_lst H pl_i64 sl52 [0, 5, 6, 100, 100001, -1] (by simp) fun g5 w5 H => vs ?_
  refine x_call (l1PickInt_ok _ H hv hi2 (by simp)) fun _ w6 ⟨D, i3, h3, e, _, hD, hi3, H⟩ => ?_
  subst e
  refine vs ?_
  exact ⟨k, s, R, D, _, fp, rfl, ⟨hks.1, hks.2, hR⟩, H.only (c := Ck.own (bytes 5) fp [r1] k)⟩
end Go.Proofs.YtcmckbgiiclomaaGreatDoor.V
