/- A row behind how many it is, taken: the side of the program. -/
import Derived.Test.YtijbmapeechcpaaPo
namespace Go.Proofs.Ytijbmapeechcpaa.V
open Go Go.RowKit
set_option maxRecDepth 100000
set_option maxHeartbeats 400000
set_option linter.unusedSimpArgs false
set_option linter.unusedVariables false
set_option pp.deepTerms false
set_option pp.deepTerms.threshold 3

section
variable {P : Program} {l : List Oper} {K : Sl → World → Prop} {s : Sl} {w : World}
/-- A region that draws, and what is behind it walked once from what the region leaves. -/
theorem cut_at {tg : Tg (l.toArray, K)} {σ : Type} (sl : σ → List (Nat × Value)) (I : σ → World → Prop) (hd : Adraw P l.toArray (fun s w => ∃ x, Slots s (sl x) ∧ I x w) .mk s w) (hk : ∀ x s w, I x w → K (putAll s (sl x)) w) : Adraw P l.toArray K tg s w := by
  refine fun n a ha hok => wpAny_mono (fun e a w he => ?_) _ _ _ _ (hd n a ha hok)
  cases e with
  | normal =>
    obtain ⟨s, ha, x, hs, hI⟩ := he
    refine ⟨s, ha, ?_⟩
    have := hk x s w hI
    rwa [hs.put] at this
  | _ => exact he.elim
end

section
variable {P : Program} {m : Nat} {w : World} {KQ : Value → Prop} {G : List (Nat × Nat)} {tq : Tg (m, G, w, KQ)} {α : Type} {d : Kd α}
theorem q_subE {wr : World} {t e sz by_ : Nat} {z : Value} (HS : SlT P t e sz by_ z) (hd : d.sz = sz) {q : Nat} {v : Value} {l : List α} {k k' : IntKind} {li hi' : Int} (lo hi : Nat) (hr : (Kd.slice e d).rd wr q [v] l) (e1 : li = (lo : Int)) (e2 : hi' = (hi : Int)) (h0 : lo ≤ hi) (h1 : hi ≤ l.length)
    (h : ∀ v', (Kd.slice e d).rd wr q [v'] ((l.drop lo).take (hi - lo)) → KQ v') : QS P m G w KQ tq (Instr.sliceAt t v (some (.int k li)) (some (.int k' hi')) none) := by
  subst e1 e2; exact q_sub HS hd hr h0 h1 h
theorem q_fromE {wr : World} {t e sz by_ : Nat} {z : Value} (HS : SlT P t e sz by_ z) (hd : d.sz = sz) {q : Nat} {v : Value} {l : List α} {k : IntKind} {li : Int} (lo : Nat) (hr : (Kd.slice e d).rd wr q [v] l) (e1 : li = (lo : Int)) (h1 : lo ≤ l.length)
    (h : ∀ v', (Kd.slice e d).rd wr q [v'] (l.drop lo) → KQ v') : QS P m G w KQ tq (Instr.sliceAt t v (some (.int k li)) none none) := by
  subst e1; exact q_from HS hd hr h1 h
theorem q_toE {wr : World} {t e sz by_ : Nat} {z : Value} (HS : SlT P t e sz by_ z) (hd : d.sz = sz) {q : Nat} {v : Value} {l : List α} {k : IntKind} {hi' : Int} (hi : Nat) (hr : (Kd.slice e d).rd wr q [v] l) (e2 : hi' = (hi : Int)) (h1 : hi ≤ l.length)
    (h : ∀ v', (Kd.slice e d).rd wr q [v'] (l.take hi) → KQ v') : QS P m G w KQ tq (Instr.sliceAt t v none (some (.int k hi')) none) := by
  subst e2; exact q_to HS hd hr h1 h
end
section
variable {P : Program} {w : World} {K : Value → World → Prop} {tg : Tg K} {α : Type} {d : Kd α}
theorem x_subE {wr : World} {t e sz by_ : Nat} {z : Value} (HS : SlT P t e sz by_ z) (hd : d.sz = sz) {q : Nat} {v : Value} {l : List α} {k k' : IntKind} {li hi' : Int} (lo hi : Nat) (hr : (Kd.slice e d).rd wr q [v] l) (e1 : li = (lo : Int)) (e2 : hi' = (hi : Int)) (h0 : lo ≤ hi) (h1 : hi ≤ l.length)
    (h : ∀ v', (Kd.slice e d).rd wr q [v'] ((l.drop lo).take (hi - lo)) → K v' w) : VS P K tg (Instr.sliceAt t v (some (.int k li)) (some (.int k' hi')) none) w := by
  subst e1 e2; exact x_sub HS hd hr h0 h1 h
theorem x_fromE {wr : World} {t e sz by_ : Nat} {z : Value} (HS : SlT P t e sz by_ z) (hd : d.sz = sz) {q : Nat} {v : Value} {l : List α} {k : IntKind} {li : Int} (lo : Nat) (hr : (Kd.slice e d).rd wr q [v] l) (e1 : li = (lo : Int)) (h1 : lo ≤ l.length)
    (h : ∀ v', (Kd.slice e d).rd wr q [v'] (l.drop lo) → K v' w) : VS P K tg (Instr.sliceAt t v (some (.int k li)) none none) w := by
  subst e1; exact x_from HS hd hr h1 h
end

theorem takenClone_ok (w : World) (v : Value) (a : List UInt8) (h : (bytes 5).rd w w.heap.size [v] a) (hl : a.length ≤ 1099511627776) :
    ACalls Try.prog 15 #[v] w fun r w' => ∃ fp, Sep w.heap.size w w' [Ck.own (bytes 5) fp [r] a] := by
  have h0 := h
  obtain ⟨A, c, rfl, hc1, hc2, ha⟩ := sl_open h
  have H := Sep.start w
  refine body_of follows Try.func15 rfl rfl _ rfl (by kernel_rfl) (vs ?_)
  refine x_nil Try.underlying22 ?_
  cases A with
  | none =>
    obtain rfl := sl_none ha
    refine ve (show (none : Option Addr).isNone = true from rfl) ?_
    exact ⟨_, H.nothing (sl_zero w)⟩
  | some ad =>
    refine ve (show (some ad).isNone = false from rfl) ?_
    refine x_emp H pl_u8 sl22 fun g w1 H => vs ?_
    refine x_app H pl_u8 sl22 (H.rd h0) ?_ ?_ fun fp5 v5 w5 H => vs ?_
    · simp only [List.length_nil]; omega
    · simp only [List.length_nil]; omega
    exact ⟨_, H⟩

def twoB (b : List UInt8) : Nat := (b.getD 0 0).toNat * 256 + (b.getD 1 0).toNat
theorem twoB_lt (b : List UInt8) : twoB b < 65536 := by
  have h1 := (b.getD 0 0).toNat_lt
  have h2 := (b.getD 1 0).toNat_lt
  unfold twoB; omega
theorem takeP_eq {b : List UInt8} (h : 2 ≤ b.length) : takeP b = if twoB b ≤ b.length - 2 then some ((b.drop 2).take (2 + twoB b - 2), b.drop (2 + twoB b)) else none := by
  match b, h with
  | b0 :: b1 :: rest, _ =>
    show (if b0.toNat * 256 + b1.toNat ≤ rest.length then some (rest.take (b0.toNat * 256 + b1.toNat), rest.drop (b0.toNat * 256 + b1.toNat)) else none) = _
    have e1 : twoB (b0 :: b1 :: rest) = b0.toNat * 256 + b1.toNat := rfl
    have e2 : 2 + (b0.toNat * 256 + b1.toNat) - 2 = b0.toNat * 256 + b1.toNat := by omega
    rw [e1, e2]
    have e3 : (b0 :: b1 :: rest).drop (2 + (b0.toNat * 256 + b1.toNat)) = rest.drop (b0.toNat * 256 + b1.toNat) := by
      rw [Nat.add_comm]; rfl
    rw [e3]
    have e4 : (b0 :: b1 :: rest).length - 2 = rest.length := by simp
    rw [e4]
    rfl
theorem takeP_short {b : List UInt8} (h : ¬ 2 ≤ b.length) : takeP b = none := by
  match b, h with
  | [], _ => rfl
  | [_], _ => rfl
  | _ :: _ :: _, h => simp at h
theorem shl_or (a b : UInt8) : ior .i64 (ishl .i64 (a.toNat : Int) 8) (b.toNat : Int) = ((a.toNat * 256 + b.toNat : Nat) : Int) := by
  have ha := a.toNat_lt
  have hb := b.toNat_lt
  rw [ishl_nat (by omega) (by omega), ior_nat (by rw [Nat.shiftLeft_eq]; omega) (by omega)]
  congr 1
  rw [show a.toNat <<< 8 = 2 ^ 8 * a.toNat by rw [Nat.shiftLeft_eq, Nat.mul_comm], ← Nat.two_pow_add_eq_or_of_lt (by omega)]
  omega
/-- What is taken, and what is left. -/
def takenR (w wr : World) (q : Nat) (b : List UInt8) (r : Value) (w' : World) : Prop := match takeP b with
  | some (x, rest) => ∃ v v' fp, r = .tuple #[v, v', .bool true] ∧ (bytes 5).rd wr q [v'] rest ∧ Sep w.heap.size w w' [Ck.own (bytes 5) fp [v] x]
  | none => r = .tuple #[.slice none 0 0, .slice none 0 0, .bool false] ∧ Below w.heap.size w w'
theorem takenR_none {w wr : World} {q : Nat} {b : List UInt8} {r : Value} {w' : World} (h : takeP b = none) (h1 : r = .tuple #[.slice none 0 0, .slice none 0 0, .bool false]) (h2 : Below w.heap.size w w') : takenR w wr q b r w' := by
  unfold takenR; rw [h]; exact ⟨h1, h2⟩
theorem taken_ok (w wr : World) (q : Nat) (v : Value) (b : List UInt8) (h0 : (bytes 5).rd wr q [v] b) (h : (bytes 5).rd w w.heap.size [v] b) (hl : b.length ≤ 1099511627776) :
    ACalls Try.prog 16 #[v] w fun r w' => takenR w wr q b r w' := by
  have hv := h
  have hv0 := h0
  obtain ⟨A, c, rfl, hc1, hc2, ha⟩ := sl_open h
  have H := Sep.start w
  refine body_of follows Try.func16 rfl rfl _ rfl (by kernel_rfl) (vs (ways ?_ ?_))
  · refine vh fun hlt => ?_
    exact takenR_none (takeP_short (by omega)) rfl H.bel
  refine vh fun hge => ?_
  have hge2 : 2 ≤ b.length := by omega
  refine draw_of [(0, true), (1, true), (2, true), (3, true), (4, true), (5, true), (6, true), (7, true), (8, true), (9, true), (10, true)] w.heap.size [] fun w1 hh1 hb1 => vs ?_
  have H1 := H.go (hb1 _)
  refine q_elV pl_u8 sl22 0 (ha.mono H1.bel) (getD_at (z := 0) (by omega)) rfl rfl fun ad hb hc _ => vs ?_
  refine qx_load sc5 hc hb (by simp) (vs ?_)
  refine q_elV pl_u8 sl22 1 (ha.mono H1.bel) (getD_at (z := 0) (by omega)) rfl rfl fun ad hb hc _ => vs ?_
  refine qx_load sc5 hc hb (by simp) (vs ?_)
  refine ve (shl_or (b.getD 0 0) (b.getD 1 0)) ?_
  have eN : (b.getD 0 0).toNat * 256 + (b.getD 1 0).toNat = twoB b := rfl
  have hN := twoB_lt b
  refine ve eN ?_
  have e2 : w64 ((b.length : Int) - 2) = ((b.length - 2 : Nat) : Int) := by unfold w64; omega
  have e3 : w64 (2 + (twoB b : Int)) = ((2 + twoB b : Nat) : Int) := by unfold w64; omega
  have e4 : w64 (2 + ior .i64 (ishl .i64 ((b.getD 0 0).toNat : Int) 8) ((b.getD 1 0).toNat : Int)) = ((2 + twoB b : Nat) : Int) := by rw [shl_or, eN]; exact e3
  clear eN
  refine ve e2 (ways ?_ ?_)
  · refine vh fun hlt => ?_
    exact takenR_none (by rw [takeP_eq hge2, if_neg (by omega)]) rfl H1.bel
  refine vh fun hlt => ?_
  have hlt2 : twoB b ≤ b.length - 2 := by omega
  refine draw_of [(0, true), (1, true), (2, true), (3, true), (5, true), (6, true), (7, true), (8, true), (4, false), (9, true), (10, true), (11, true)] w.heap.size [] fun w2 hh2 hb2 => ve e3 ?_
  have H2 := H1.go (hb2 _)
  have H3 := H2
  refine q_subE sl22 rfl 2 (2 + twoB b) (H2.rd hv) rfl e4 (by omega) (by omega) fun v1 hr1 => ?_
  refine vs ?_
  refine q_fromE sl22 rfl (2 + twoB b) hv0 e4 (by omega) fun v2 hr2 => ?_
  refine vs ?_
  refine x_callf H2 (takenClone_ok w2 v1 _ hr1 (by simp only [List.length_take, List.length_drop]; omega)) fun r3 f3 w3 H2 => vs ?_
  refine ⟨kept_base H3 H2, ?_⟩
  unfold takenR
  rw [takeP_eq hge2, if_pos hlt2]
  exact ⟨_, _, _, rfl, hr2, H2⟩
end Go.Proofs.Ytijbmapeechcpaa.V
