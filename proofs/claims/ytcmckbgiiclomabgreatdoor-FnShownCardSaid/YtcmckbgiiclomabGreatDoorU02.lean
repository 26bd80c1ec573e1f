/- Texts laid by programs, part 2. -/
import Derived.Test.YtcmckbgiiclomabGreatDoorU01
import Derived.Laws.BytesString
import Derived.Laws.Strings
import Derived.Laws.Concat
import Derived.Laws.Small
import Derived.Laws.BytesArg
namespace Go.Proofs.YtcmckbgiiclomabGreatDoor.V
open Go Go.RowKit
set_option linter.unusedSimpArgs false
set_option linter.unusedVariables false
set_option pp.deepTerms false
set_option pp.deepTerms.threshold 3
def Kept (n : Nat) (G : List (Nat × Nat)) (w0 w : World) : Prop := (n ≤ w0.heap.size → n ≤ w.heap.size) ∧ (∀ b, b < n → (∀ t, (b, t) ∉ G) → w.heap[b]? = w0.heap[b]?) ∧ ∀ g t, (g, t) ∈ G → g < n → ∀ j, j < t → w.cell? ⟨g, j, none⟩ = w0.cell? ⟨g, j, none⟩
theorem Kept.refl (n : Nat) (G : List (Nat × Nat)) (w : World) : Kept n G w w := ⟨fun h => h, fun _ _ _ => rfl, fun _ _ _ _ _ _ => rfl⟩
theorem Kept.cell {n : Nat} {G : List (Nat × Nat)} {w0 w : World} (h : Kept n G w0 w) {a : Addr} (ha : a.block < n) (hG : ∀ t, (a.block, t) ∉ G) : w.cell? a = w0.cell? a := World.cell?_of_block (h.2.1 a.block ha hG)
theorem Kept.below {n : Nat} {G : List (Nat × Nat)} {w0 w w' : World} (h : Kept n G w0 w) (hb : Below n w w') : Kept n G w0 w' := ⟨fun h0 => Nat.le_trans (h.1 h0) hb.size, fun b hn hG => (hb.block b hn).trans (h.2.1 b hn hG), fun g t hg hn j hj => (hb.cell (p := ⟨g, j, none⟩) hn).trans (h.2.2 g t hg hn j hj)⟩
def planOk (ops : Array Oper) : List (Nat × Bool) → Array Bool → Bool
  | [], listed => (Region.ready .any ops listed).isEmpty
  | (i, true) :: rest, listed => Region.free .any ops listed i && (Region.ready .any ops listed).contains i && planOk ops rest (listed.setIfInBounds i true)
  | (i, false) :: rest, listed => (Region.ready .any ops listed == [i]) && planOk ops rest (listed.setIfInBounds i true)
def qop (P : Program) (S : World → Prop) (o : Oper) (s : Sl) (K : Value → Prop) : Prop := ∃ v, (∀ w, S w → (execOp (ev s) o).run P w = .ok (.value v) w) ∧ K v
def dpl (P : Program) (ops : Array Oper) (S : World → Prop) (K : Sl → World → Prop) : List (Nat × Bool) → Sl → World → Prop
  | [], s, w => K s w
  | (i, true) :: rest, s, w => match ops[i]? with
    | some o => if Region.wanted o (yl ops s) = true then qop P S o s fun v => dpl P ops S K rest (putS s o.dst v) w else dpl P ops S K rest (putS s o.dst undef) w
    | none => False
  | (i, false) :: rest, s, w => aopI P ops i s w fun s' w' => S w' ∧ dpl P ops S K rest s' w'
theorem dpl_sound {P : Program} {ops : Array Oper} {S : World → Prop} {K : Sl → World → Prop} (hs : Region.noSelect ops = true) :
    ∀ (l : List (Nat × Bool)) (k : Nat) (listed : Array Bool) (s : Sl) (w : World), planOk ops l listed = true → l.length ≤ k → S w → dpl P ops S K l s w → adr P ops K S k listed s w
  | [], k, listed, s, w, hp, _, _, h => adr_done (by simpa [planOk] using hp) h
  | (i, true) :: rest, k, listed, s, w, hp, hk, hS, h => by
    simp only [planOk, Bool.and_eq_true] at hp; obtain ⟨k, rfl⟩ : ∃ m, k = m + 1 := ⟨k - 1, by simp at hk; omega⟩; simp only [dpl] at h
    cases ho : ops[i]? with
    | none => rw [ho] at h; exact h.elim
    | some o =>
      rw [ho] at h; simp only at h
      by_cases hw : Region.wanted o (yl ops s) = true
      · rw [if_pos hw] at h
        obtain ⟨v, hv, h⟩ := h; exact adr_take i ho hs hp.1.1 hp.1.2 hS (.inl ⟨hw, hv⟩) (dpl_sound hs rest k _ _ _ hp.2 (by simp at hk; omega) hS h)
      · rw [if_neg hw] at h
        exact adr_take i ho hs hp.1.1 hp.1.2 hS (.inr ⟨by simpa using hw, rfl⟩) (dpl_sound hs rest k _ _ _ hp.2 (by simp at hk; omega) hS h)
  | (i, false) :: rest, k, listed, s, w, hp, hk, _, h => by
    simp only [planOk, Bool.and_eq_true, beq_iff_eq] at hp; obtain ⟨k, rfl⟩ : ∃ m, k = m + 1 := ⟨k - 1, by simp at hk; omega⟩; refine adr_all [i] hp.1 (by simp) fun j hj => ?_; simp only [List.mem_singleton] at hj; subst hj; have h' : aopI P ops j s w fun s' w' => S w' ∧ dpl P ops S K rest s' w' := h; unfold aopI at h' ⊢
    cases ho : ops[j]? with
    | none => rw [ho] at h'; exact h'
    | some o =>
      rw [ho] at h'; simp only at h' ⊢
      split
      · rename_i hw
        rw [if_pos hw] at h'; exact aop_mono h' fun v w' hv => ⟨hv.1, dpl_sound hs rest k _ _ _ hp.2 (by simp at hk; omega) hv.1 hv.2⟩
      · rename_i hw
        rw [if_neg hw] at h'; exact ⟨h'.1, dpl_sound hs rest k _ _ _ hp.2 (by simp at hk; omega) h'.1 h'.2⟩
def Dpl (P : Program) (ops : Array Oper) (n : Nat) (G : List (Nat × Nat)) (w0 : World) (K : Sl → World → Prop) (l : List (Nat × Bool)) (_ : Tg (ops, n, G, w0, K, l)) (s : Sl) (w : World) : Prop := dpl P ops (Kept n G w0) K l s w
theorem draw_of {P : Program} {l : List Oper} {K : Sl → World → Prop} {tg : Tg (l.toArray, K)} {s : Sl} {w : World} (pl : List (Nat × Bool)) (n : Nat) (G : List (Nat × Nat)) (h : ∀ w1, w1.heap = w.heap → (∀ m, Below m w w1) → Dpl P l.toArray n G w1 K pl .mk s w1)
    (hs : Region.noSelect l.toArray = true := by kernel_rfl) (hp : planOk l.toArray pl (Array.replicate l.toArray.size false) = true := by kernel_rfl) (hl : pl.length ≤ l.toArray.size := by decide) : Adraw P l.toArray K tg s w :=
  adraw_of (Kept n G w.drew) (dpl_sound hs pl _ _ _ _ hp hl (Kept.refl ..) (h w.drew rfl fun m => (Below.refl m w).drew))
theorem draw_at {P : Program} {l : List Oper} {K : Sl → World → Prop} {tg : Tg (l.toArray, K)} {s : Sl} {w : World} (pl : List (Nat × Bool)) (h : ∀ w1, w1.heap = w.heap → (∀ m, Below m w w1) → Dpl P l.toArray w1.heap.size [] w1 K pl .mk s w1)
    (hs : Region.noSelect l.toArray = true := by kernel_rfl) (hp : planOk l.toArray pl (Array.replicate l.toArray.size false) = true := by kernel_rfl) (hl : pl.length ≤ l.toArray.size := by decide) : Adraw P l.toArray K tg s w :=
  adraw_of (Kept w.drew.heap.size [] w.drew) (dpl_sound hs pl _ _ _ _ hp hl (Kept.refl ..) (h w.drew rfl fun m => (Below.refl m w).drew))
def QS (P : Program) (n : Nat) (G : List (Nat × Nat)) (w0 : World) (K : Value → Prop) (_ : Tg (n, G, w0, K)) (x : Sem Value) : Prop := ∃ v, (∀ w, Kept n G w0 w → x.run P w = .ok v w) ∧ K v
def Qop (P : Program) (n : Nat) (G : List (Nat × Nat)) (w0 : World) (o : Oper) (K : Value → Prop) (_ : Tg (n, G, w0, o, K)) (s : Sl) : Prop := qop P (Kept n G w0) o s K
section
variable {P : Program} {l : List Oper} {n : Nat} {G : List (Nat × Nat)} {w0 : World} {K : Sl → World → Prop} {s : Sl} {w : World}
theorem dp_nil {t : Tg (l.toArray, n, G, w0, K, ([] : List (Nat × Bool)))} : Dpl P l.toArray n G w0 K [] t s w = K s w := rfl
theorem dp_take {i : Nat} {rest : List (Nat × Bool)} {t : Tg (l.toArray, n, G, w0, K, (i, true) :: rest)} : Dpl P l.toArray n G w0 K ((i, true) :: rest) t s w =
    (∃ o, l[i]? = some o ∧ If (Qop P n G w0 o (fun v => Dpl P l.toArray n G w0 K rest .mk (putS s o.dst v) w) .mk s) (Dpl P l.toArray n G w0 K rest .mk (putS s o.dst undef) w) .mk (Region.wanted o (yl l.toArray s) = true)) := by
  simp only [Dpl, dpl, List.getElem?_toArray, Qop, If]
  cases l[i]? with
  | none => simp
  | some o => by_cases hw : Region.wanted o (yl l.toArray s) = true <;> simp [hw]
theorem dp_all {i : Nat} {rest : List (Nat × Bool)} {t : Tg (l.toArray, n, G, w0, K, (i, false) :: rest)} : Dpl P l.toArray n G w0 K ((i, false) :: rest) t s w =
    ∃ o, l[i]? = some o ∧ If (Aop P o (fun v w' => Kept n G w0 w' ∧ Dpl P l.toArray n G w0 K rest .mk (putS s o.dst v) w') .mk s w) (Kept n G w0 w ∧ Dpl P l.toArray n G w0 K rest .mk (putS s o.dst undef) w) .mk (Region.wanted o (yl l.toArray s) = true) := by
  simp only [Dpl, dpl, aopI, List.getElem?_toArray, Aop, If]
  cases l[i]? with
  | none => simp
  | some o => by_cases hw : Region.wanted o (yl l.toArray s) = true <;> simp [hw]
theorem wanted_none {d : Option Tmp} {op : Op} {ty : TypeId} {pos : String} {af : Array Edge} {f : Nat → Option Bool} : (Region.wanted ⟨d, op, ty, pos, af, none⟩ f = true) = True := by simp [Region.wanted]
theorem wanted_some {d : Option Tmp} {op : Op} {ty : TypeId} {pos : String} {af : Array Edge} {f : Nat → Option Bool} {j : Nat} {b : Bool} : (Region.wanted ⟨d, op, ty, pos, af, some (j, b)⟩ f = true) = (f j = some b) := by simp [Region.wanted]
end
section
variable {P : Program} {n : Nat} {G : List (Nat × Nat)} {w0 : World} {K : Value → Prop} {tg : Tg (n, G, w0, K)} {s : Sl} {d : Option Tmp} {ty : TypeId} {pos : String} {af : Array Edge} {g : Option (Nat × Bool)}
theorem QS_eq {x : Sem Value} {v : Value} (h : ∀ w, x.run P w = .ok v w) : QS P n G w0 K tg x = K v := by
  unfold QS
  apply propext
  constructor
  · rintro ⟨v', hv, hk⟩
    have h1 := hv w0 (Kept.refl ..); rw [h w0] at h1
    cases h1
    exact hk
  · exact fun hk => ⟨v, fun w _ => h w, hk⟩
theorem QS_of {x : Sem Value} {v : Value} (h : ∀ w, Kept n G w0 w → x.run P w = .ok v w) (hk : K v) : QS P n G w0 K tg x := ⟨v, h, hk⟩
theorem qop_v {o : Oper} {x : Sem Value} (h : execOp (ev s) o = (do pure (.value (← x)))) {t : Tg (n, G, w0, o, K)} : Qop P n G w0 o K t s = QS P n G w0 K .mk x := by
  unfold Qop qop QS; rw [h]
  have e : ∀ w v, ((do pure (.value (← x)) : Sem Next).run P w = .ok (.value v) w) = (x.run P w = .ok v w) := by
    intro w v; simp only [Sem.run_bind]
    cases x.run P w <;> simp
  simp only [e]
theorem qop_now {o : Oper} {v : Value} (h : execOp (ev s) o = pure (.value v)) {t : Tg (n, G, w0, o, K)} : Qop P n G w0 o K t s = K v := by
  unfold Qop qop; rw [h]
  apply propext
  constructor
  · rintro ⟨v', hv, hk⟩
    have h1 := hv w0 (Kept.refl ..); simp only [Sem.run_pure, Result.ok.injEq, Next.value.injEq, and_true] at h1; rw [h1]; exact hk
  · exact fun hk => ⟨v, fun w _ => rfl, hk⟩
theorem q_move {x : Operand} {t : Tg (n, G, w0, (⟨d, .move x, ty, pos, af, g⟩ : Oper), K)} : Qop P n G w0 ⟨d, .move x, ty, pos, af, g⟩ K t s = K (ev s x) := qop_now rfl
theorem q_assign {x : Operand} {t : Tg (n, G, w0, (⟨d, .assign x, ty, pos, af, g⟩ : Oper), K)} : Qop P n G w0 ⟨d, .assign x, ty, pos, af, g⟩ K t s = K (ev s x) := qop_now rfl
def QPick (K : Value → Prop) (_ : Tg K) (c a b : Value) : Prop := ∃ t, c = .bool t ∧ K (if t = true then a else b)
theorem q_pick {c a b : Operand} {t : Tg (n, G, w0, (⟨d, .pick c a b, ty, pos, af, g⟩ : Oper), K)} : Qop P n G w0 ⟨d, .pick c a b, ty, pos, af, g⟩ K t s = QPick K .mk (ev s c) (ev s a) (ev s b) := by
  unfold Qop qop QPick
  apply propext
  simp only [execOp]
  cases h : ev s c with
  | bool t =>
    simp only [asBool, Value.bool.injEq, exists_eq_left']
    constructor
    · rintro ⟨v', hv, hk⟩
      have h1 := hv w0 (Kept.refl ..); simp only [pure_bind, Sem.run_pure, Result.ok.injEq, Next.value.injEq, and_true] at h1; rw [h1]; exact hk
    · exact fun hk => ⟨_, fun w _ => by simp, hk⟩
  | _ =>
    simp only [asBool, reduceCtorEq, false_and, exists_false, iff_false, not_exists, not_and]; intro v hv; have h1 := hv w0 (Kept.refl ..)
    simp at h1
theorem qpick_bool {c : Bool} {a b : Value} {t : Tg K} : QPick K t (.bool c) a b = K (if c = true then a else b) := by simp [QPick]
theorem q_load {y : TypeId} {a : Operand} {t : Tg (n, G, w0, (⟨d, .load y a, ty, pos, af, g⟩ : Oper), K)} : Qop P n G w0 ⟨d, .load y a, ty, pos, af, g⟩ K t s = QS P n G w0 K .mk (Instr.loadAt y (ev s a)) := qop_v rfl
def QBin (P : Program) (n : Nat) (G : List (Nat × Nat)) (w0 : World) (K : Value → Prop) (_ : Tg (n, G, w0, K)) (op : BinOp) (y : TypeId) (x z : Operand) (a b : Value) : Prop := QS P n G w0 K .mk (do eqGuard op y x z a b; binOp op y a b)
theorem q_bin {op : BinOp} {y : TypeId} {x z : Operand} {y2 : TypeId} {t : Tg (n, G, w0, (⟨d, .binOp op y x z y2, ty, pos, af, g⟩ : Oper), K)} : Qop P n G w0 ⟨d, .binOp op y x z y2, ty, pos, af, g⟩ K t s = QBin P n G w0 K .mk op y x z (ev s x) (ev s z) := qop_v rfl
theorem q_un {op : UnOp} {y : TypeId} {x : Operand} {t : Tg (n, G, w0, (⟨d, .unOp op y x, ty, pos, af, g⟩ : Oper), K)} : Qop P n G w0 ⟨d, .unOp op y x, ty, pos, af, g⟩ K t s = QS P n G w0 K .mk (Op.unary op (ev s x)) := qop_v rfl
theorem q_convert {a b : TypeId} {x : Operand} {t : Tg (n, G, w0, (⟨d, .convert a b x, ty, pos, af, g⟩ : Oper), K)} : Qop P n G w0 ⟨d, .convert a b x, ty, pos, af, g⟩ K t s = QS P n G w0 K .mk (convert a b (ev s x)) := qop_v rfl
theorem q_slice {y : TypeId} {x : Operand} {lo hi mx : Option Operand} {t : Tg (n, G, w0, (⟨d, .slice y x lo hi mx, ty, pos, af, g⟩ : Oper), K)} : Qop P n G w0 ⟨d, .slice y x lo hi mx, ty, pos, af, g⟩ K t s = QS P n G w0 K .mk (Instr.sliceAt y (ev s x) (lo.map (ev s)) (hi.map (ev s)) (mx.map (ev s))) := qop_v rfl
theorem q_fieldAddr {y : TypeId} {x : Operand} {f : Nat} {t : Tg (n, G, w0, (⟨d, .fieldAddr y x f, ty, pos, af, g⟩ : Oper), K)} : Qop P n G w0 ⟨d, .fieldAddr y x f, ty, pos, af, g⟩ K t s = QS P n G w0 K .mk (Instr.fieldAt y (ev s x) f) := qop_v rfl
theorem q_indexAddr {y : TypeId} {x i : Operand} {t : Tg (n, G, w0, (⟨d, .indexAddr y x i, ty, pos, af, g⟩ : Oper), K)} : Qop P n G w0 ⟨d, .indexAddr y x i, ty, pos, af, g⟩ K t s = QS P n G w0 K .mk (Instr.indexAt y (ev s x) (ev s i)) := qop_v rfl
theorem q_index {y : TypeId} {x i : Operand} {t : Tg (n, G, w0, (⟨d, .index y x i, ty, pos, af, g⟩ : Oper), K)} : Qop P n G w0 ⟨d, .index y x i, ty, pos, af, g⟩ K t s = QS P n G w0 K .mk (Instr.index y (ev s x) (ev s i)) := qop_v rfl
theorem q_extract {x : Operand} {i : Nat} {t : Tg (n, G, w0, (⟨d, .extract x i, ty, pos, af, g⟩ : Oper), K)} : Qop P n G w0 ⟨d, .extract x i, ty, pos, af, g⟩ K t s = QS P n G w0 K .mk (Instr.extract (ev s x) i) := qop_v rfl
theorem q_build {y : TypeId} {ps : List (Nat × Operand)} {t : Tg (n, G, w0, (⟨d, .build y ps.toArray, ty, pos, af, g⟩ : Oper), K)} : Qop P n G w0 ⟨d, .build y ps.toArray, ty, pos, af, g⟩ K t s = QS P n G w0 K .mk (Instr.build y (ps.map fun p => (p.1, ev s p.2)).toArray) := by
  rw [show (ps.map fun p => (p.1, ev s p.2)).toArray = ps.toArray.map fun p => (p.1, ev s p.2) by simp]; exact qop_v rfl
def QLen (P : Program) (n : Nat) (G : List (Nat × Nat)) (w0 : World) (K : Value → Prop) (_ : Tg (n, G, w0, K)) (ts : Array TypeId) (ty : TypeId) (xs : List Value) : Prop := QS P n G w0 K .mk (Builtin.len_ ts ty xs.toArray)
theorem q_len {xs : List Operand} {ts : Array TypeId} {t : Tg (n, G, w0, (⟨d, .call ⟨.builtin .len, xs.toArray, ts⟩, ty, pos, af, g⟩ : Oper), K)} : Qop P n G w0 ⟨d, .call ⟨.builtin .len, xs.toArray, ts⟩, ty, pos, af, g⟩ K t s = QLen P n G w0 K .mk ts ty (xs.map (ev s)) := by
  unfold QLen; rw [show (xs.map (ev s)).toArray = xs.toArray.map (ev s) by simp]; exact qop_v rfl
variable {y : TypeId} {x z : Operand} {k : IntKind} {a b : Int}
theorem qb_add : QBin P n G w0 K tg .add y x z (.int k a) (.int k b) = K (.int k (k.wrap (a + b))) := QS_eq fun w => by simp [eqGuard, binOp, Op.intArith]
theorem qb_sub : QBin P n G w0 K tg .sub y x z (.int k a) (.int k b) = K (.int k (k.wrap (a - b))) := QS_eq fun w => by simp [eqGuard, binOp, Op.intArith]
theorem qb_mul : QBin P n G w0 K tg .mul y x z (.int k a) (.int k b) = K (.int k (k.wrap (a * b))) := QS_eq fun w => by simp [eqGuard, binOp, Op.intArith]
theorem qb_lss : QBin P n G w0 K tg .lss y x z (.int k a) (.int k b) = K (.bool (decide (a < b))) := QS_eq fun w => by simp [eqGuard, binOp, Op.intCmp]
theorem qb_leq : QBin P n G w0 K tg .leq y x z (.int k a) (.int k b) = K (.bool (decide (a ≤ b))) := QS_eq fun w => by simp [eqGuard, binOp, Op.intCmp]
theorem qb_gtr : QBin P n G w0 K tg .gtr y x z (.int k a) (.int k b) = K (.bool (decide (b < a))) := QS_eq fun w => by simp [eqGuard, binOp, Op.intCmp]
theorem qb_geq : QBin P n G w0 K tg .geq y x z (.int k a) (.int k b) = K (.bool (decide (b ≤ a))) := QS_eq fun w => by simp [eqGuard, binOp, Op.intCmp]
theorem qb_eql : QBin P n G w0 K tg .eql y x z (.int k a) (.int k b) = K (.bool (decide (a = b))) := QS_eq fun w => by
  have : (a == b) = decide (a = b) := by by_cases h : a = b <;> simp [h]
  simp [eqGuard, binOp, Op.intCmp, this]
theorem qb_neq : QBin P n G w0 K tg .neq y x z (.int k a) (.int k b) = K (.bool (decide (¬ a = b))) := QS_eq fun w => by
  have : (a != b) = decide (¬ a = b) := by by_cases h : a = b <;> simp [h]
  simp [eqGuard, binOp, Op.intCmp, this]
theorem qu_not {c : Bool} : QS P n G w0 K tg (Op.unary .not (.bool c)) = K (.bool (!c)) := QS_eq fun w => rfl
theorem qlen_slice {e ty : TypeId} {A : Option Addr} {m c : Nat} (h : P.underlying y = some (.slice e)) : QLen P n G w0 K tg #[y] ty [.slice A m c] = K (.int .i64 (m : Int)) := QS_eq fun w => by simp [Builtin.len_, run_underlying' h, goInt]
theorem qlen_str {ty : TypeId} {l : List UInt8} (h : P.underlying y = some .string) : QLen P n G w0 K tg #[y] ty [.string ⟨l.toArray⟩] = K (.int .i64 (l.length : Int)) := QS_eq fun w => by simp [Builtin.len_, run_underlying' h, goInt, str_size]
theorem qx_index {t e : TypeId} {sz b : Nat} {z : Value} (H : SlT P t e sz b z) {A : Option Addr} {m c : Nat} {k : IntKind} {i : Int} (hA : A.isSome = true) (h0 : 0 ≤ i) (h1 : i < (m : Int))
    (h : K (.pointer (some ((adA A).add (i.toNat * sz))))) : QS P n G w0 K tg (Instr.indexAt t (.slice A m c) (.int k i)) := by
  refine QS_of (fun w _ => ?_) h; obtain ⟨ad, rfl⟩ := Option.isSome_iff_exists.1 hA; obtain ⟨inf, hi, hs, _, _⟩ := H.inf
  simp [Instr.indexAt, asIntOf, run_underlying' H.un, run_sizeOf' hi hs, h0, h1, adA]
theorem qfieldAddr_st {t : TypeId} {fs : Array Field} (H : P.underlying t = some (.struct fs)) {f : Nat} {fd : Field} {a : Addr} {off : Nat} (hf : fs[f]? = some fd) (hi : (match P.info? fd.type with | some i => decide (i.size ≠ 0) && fd.offset == off | none => false) = true) :
    QS P n G w0 K tg (Instr.fieldAt t (.pointer (some a)) f) = K (.pointer (some (a.add off))) := by
  cases hq : P.info? fd.type with
  | none => rw [hq] at hi; cases hi
  | some i =>
    rw [hq] at hi; simp only [Bool.and_eq_true, decide_eq_true_eq, beq_iff_eq] at hi; rw [← hi.2]; exact QS_eq fun w => by simp [Instr.fieldAt, run_underlying' H, hf, Instr.sureAddr, fieldPlace, run_sizeOf' hq rfl, hi.1]
theorem qx_load {e : TypeId} {z v : Value} (H : ScT P e z) {a : Addr} (hc : w0.cell? a = some v) (hb : a.block < n) (hG : ∀ t, (a.block, t) ∉ G) (h : K v) : QS P n G w0 K tg (Instr.loadAt e (.pointer (some a))) := by
  refine QS_of (fun w hw => ?_) h
  simp [Instr.loadAt, Instr.sureAddr, loadVar, run_isAgg_sc H, hw.cell hb hG, hc]
theorem qx_loadAgg {t : TypeId} {sz : Nat} {z : Array Value} (H : StT P t sz z) {a : Addr} (cs : List Value) (hl : cs.length = sz) (hc : ∀ j v, cs[j]? = some v → w0.cell? (a.add j) = some v) (hb : a.block < n) (hG : ∀ t, (a.block, t) ∉ G)
    (h : K (.agg cs.toArray)) : QS P n G w0 K tg (Instr.loadAt t (.pointer (some a))) := by
  refine QS_of (fun w hw => ?_) h; obtain ⟨fs, hu⟩ := H.un; obtain ⟨inf, hi, hs, _⟩ := H.inf; have hc' := run_loadCells_list (P := P) w a cs (fun j v hj => by rw [hw.cell (a := a.add j) (by rw [Kd.add_block]; exact hb) (by rw [Kd.add_block]; exact hG)]; exact hc j v hj); rw [hl] at hc'; have ha : (isAgg t).run P w = .ok true w := by simp [isAgg, run_underlying' hu]
  simp [Instr.loadAt, Instr.sureAddr, loadVar, ha, run_sizeOf' hi hs, hc']
theorem qx_loadG {e : TypeId} {z v : Value} (H : ScT P e z) {g j t : Nat} (hc : w0.cell? ⟨g, j, none⟩ = some v) (hb : g < n) (hG : (g, t) ∈ G) (hj : j < t) (h : K v) : QS P n G w0 K tg (Instr.loadAt e (.pointer (some ⟨g, j, none⟩))) := by
  refine QS_of (fun w hw => ?_) h
  simp [Instr.loadAt, Instr.sureAddr, loadVar, run_isAgg_sc H, hw.2.2 g t hG hb j hj, hc]
end
structure Ck where
  fp : List Nat
  A : World → Prop
  loc : ∀ {w w' : World}, (∀ b ∈ fp, w'.heap[b]? = w.heap[b]?) → A w → A w'
def Ck.box (g : Nat) (c : List Value) (t : TypeId) : Ck := ⟨[g], fun w => w.heap[g]? = some (.cells c.toArray t (0, 0)), fun h ha => by rw [h g (by simp)]; exact ha⟩
def Ck.own {α : Type} (d : Kd α) (fp : List Nat) (cs : List Value) (x : α) : Ck := ⟨fp, fun w => d.ow w fp cs x, fun h ha => d.own_mono ha h⟩
theorem Ck.own_fp {α : Type} {d : Kd α} {fp : List Nat} {cs : List Value} {x : α} : (Ck.own d fp cs x).fp = fp := rfl
def fps : List Ck → List Nat
  | [] => []
  | c :: L => c.fp ++ fps L
theorem fps_append (L M : List Ck) : fps (L ++ M) = fps L ++ fps M := by
  induction L with
  | nil => rfl
  | cons c L ih => simp only [List.cons_append, fps, ih, List.append_assoc]
theorem mem_fps {c : Ck} {b : Nat} (hb : b ∈ c.fp) : ∀ {L : List Ck}, c ∈ L → b ∈ fps L
  | _ :: L, .head _ => List.mem_append_left _ hb
  | _ :: L, .tail _ h => List.mem_append_right _ (mem_fps hb h)
structure Sep (n : Nat) (w0 w : World) (L : List Ck) : Prop where
  bel : Below n w0 w
  ns : n ≤ w.heap.size
  nd : (fps L).Nodup
  lo : ∀ b ∈ fps L, n ≤ b ∧ b < w.heap.size
  ok : ∀ c ∈ L, c.A w
structure Chg (fp : List Nat) (w w' : World) : Prop where
  os : w'.os = w.os
  tape : w'.tape = w.tape
  output : w'.output = w.output
  size : w.heap.size ≤ w'.heap.size
  block : ∀ k, k < w.heap.size → k ∉ fp → w'.heap[k]? = w.heap[k]?
theorem Chg.below {fp : List Nat} {n : Nat} {w w' : World} (h : Chg fp w w') (hn : ∀ b ∈ fp, n ≤ b) (hw : n ≤ w.heap.size) : Below n w w' :=
  ⟨h.os, h.tape, h.output, h.size, fun k hk => h.block k (by omega) (fun hm => by have := hn k hm; omega)⟩
theorem Below.chg {w w' : World} (h : Below w.heap.size w w') : Chg [] w w' := ⟨h.os, h.tape, h.output, h.size, fun k hk _ => h.block k hk⟩
theorem grown_chg {w w' : World} {v : Value} (h : w.grownBy w' v.ownBlock) : Chg v.ownBlock.toList w w' :=
  ⟨h.os, h.tape, h.output, h.size, fun k hk hm => h.block k hk (fun e => hm (by rw [← e]; simp))⟩
inductive Hole (c : Ck) : List Ck → (Ck → List Ck) → Prop
  | here {L : List Ck} : Hole c (c :: L) (fun c' => c' :: L)
  | there {d : Ck} {L : List Ck} {f : Ck → List Ck} (h : Hole c L f) : Hole c (d :: L) (fun c' => d :: f c')
theorem Hole.split {c : Ck} {L : List Ck} {f : Ck → List Ck} (h : Hole c L f) : ∃ L1 L2, L = L1 ++ c :: L2 ∧ ∀ c', f c' = L1 ++ c' :: L2 := by
  induction h with
  | here => exact ⟨[], _, rfl, fun _ => rfl⟩
  | there h ih => obtain ⟨L1, L2, e, hf⟩ := ih; exact ⟨_ :: L1, L2, by rw [e]; rfl, fun c' => congrArg (_ :: ·) (hf c')⟩
theorem Hole.mem {c : Ck} {L : List Ck} {f : Ck → List Ck} (h : Hole c L f) : c ∈ L := by
  obtain ⟨L1, L2, e, _⟩ := h.split; rw [e]; simp
inductive Out (c : Ck) : List Ck → List Ck → Prop
  | here {L : List Ck} : Out c (c :: L) L
  | there {d : Ck} {L M : List Ck} (h : Out c L M) : Out c (d :: L) (d :: M)
theorem Out.split {c : Ck} {L M : List Ck} (h : Out c L M) : ∃ L1 L2, L = L1 ++ c :: L2 ∧ M = L1 ++ L2 := by
  induction h with
  | here => exact ⟨[], _, rfl, rfl⟩
  | there h ih => obtain ⟨L1, L2, e, hf⟩ := ih; exact ⟨_ :: L1, L2, by rw [e]; rfl, by rw [hf]; rfl⟩
section
variable {n : Nat} {w0 w w' : World} {L M : List Ck}
theorem Sep.start (w : World) : Sep w.heap.size w w [] := ⟨Below.refl .., Nat.le_refl _, List.nodup_nil, fun b hb => by simp [fps] at hb, fun c hc => by simp at hc⟩
theorem Sep.begin {n : Nat} {w : World} (h : n ≤ w.heap.size) : Sep n w w [] := ⟨Below.refl .., h, List.nodup_nil, fun b hb => by simp [fps] at hb, fun c hc => by simp at hc⟩
theorem Sep.go (H : Sep n w0 w L) (h : Below w.heap.size w w') : Sep n w0 w' L where
  bel := H.bel.trans (h.mono H.ns)
  ns := Nat.le_trans H.ns h.size
  nd := H.nd
  lo := fun b hb => ⟨(H.lo b hb).1, Nat.lt_of_lt_of_le (H.lo b hb).2 h.size⟩
  ok := fun c hc => c.loc (fun b hb => h.block b (H.lo b (mem_fps hb hc)).2) (H.ok c hc)
theorem Sep.join (H : Sep n w0 w L) (J : Sep w.heap.size w w' M) : Sep n w0 w' (M ++ L) where
  bel := (H.go J.bel).bel
  ns := (H.go J.bel).ns
  nd := by
    rw [fps_append]; exact List.nodup_append.2 ⟨J.nd, H.nd, fun a ha b hb e => by have h1 := (J.lo a ha).1; have h2 := (H.lo b hb).2; omega⟩
  lo := fun b hb => by
    rw [fps_append] at hb
    rcases List.mem_append.1 hb with hb | hb
    · exact ⟨Nat.le_trans H.ns (J.lo b hb).1, (J.lo b hb).2⟩
    · exact (H.go J.bel).lo b hb
  ok := fun c hc => by
    rcases List.mem_append.1 hc with hc | hc
    · exact J.ok c hc
    · exact (H.go J.bel).ok c hc
theorem Sep.tail {c : Ck} (H : Sep n w0 w (c :: L)) : Sep n w0 w L where
  bel := H.bel
  ns := H.ns
  nd := (List.nodup_append.1 H.nd).2.1
  lo := fun b hb => H.lo b (List.mem_append_right _ hb)
  ok := fun d hd => H.ok d (List.mem_cons_of_mem _ hd)
theorem Sep.out {c : Ck} (H : Sep n w0 w L) (h : Out c L M) : Sep n w0 w (c :: M) := by
  obtain ⟨L1, L2, rfl, rfl⟩ := h.split
  have hp : (fps (L1 ++ c :: L2)).Perm (fps (c :: (L1 ++ L2))) := by
    simp only [fps_append, fps]; rw [← List.append_assoc, ← List.append_assoc]; exact List.Perm.append_right _ List.perm_append_comm
  exact ⟨H.bel, H.ns, hp.nodup_iff.1 H.nd, fun b hb => H.lo b (hp.mem_iff.2 hb), fun d hd => H.ok d (by simp at hd ⊢; rcases hd with h | h | h <;> simp [h])⟩
theorem Sep.put {c c' : Ck} {f : Ck → List Ck} (H : Sep n w0 w L) (h : Hole c L f) (hc : Chg c.fp w w') (ha : c'.A w') (hnd : c'.fp.Nodup) (hl : ∀ b ∈ c'.fp, (b ∈ c.fp ∨ w.heap.size ≤ b) ∧ b < w'.heap.size) : Sep n w0 w' (f c') := by
  obtain ⟨L1, L2, rfl, hf⟩ := h.split; rw [hf]; have hnd0 := H.nd; have hlo := H.lo; simp only [fps_append, fps] at hnd0 hlo; obtain ⟨h1, h2, h3⟩ := List.nodup_append.1 hnd0; obtain ⟨h4, h5, h6⟩ := List.nodup_append.1 h2; have hge : ∀ b ∈ c.fp, n ≤ b := fun b hb => (hlo b (List.mem_append_right _ (List.mem_append_left _ hb))).1; refine ⟨H.bel.trans (hc.below hge H.ns), Nat.le_trans H.ns hc.size, ?_, ?_, ?_⟩
  · simp only [fps_append, fps]
    refine List.nodup_append.2 ⟨h1, List.nodup_append.2 ⟨hnd, h5, fun a hA b hb e => ?_⟩, fun a hA b hb e => ?_⟩
    · subst e
      rcases (hl a hA).1 with h7 | h7
      · exact h6 a h7 a hb rfl
      · have := (hlo a (List.mem_append_right _ (List.mem_append_right _ hb))).2; omega
    · subst e
      rcases List.mem_append.1 hb with hb | hb
      · rcases (hl a hb).1 with h7 | h7
        · exact h3 a hA a (List.mem_append_left _ h7) rfl
        · have := (hlo a (List.mem_append_left _ hA)).2; omega
      · exact h3 a hA a (List.mem_append_right _ hb) rfl
  · intro b hb
    simp only [fps_append, fps] at hb
    rcases List.mem_append.1 hb with hb | hb
    · have := hlo b (List.mem_append_left _ hb); have := hc.size; omega
    · rcases List.mem_append.1 hb with hb | hb
      · rcases (hl b hb).1 with h7 | h7
        · have := hge b h7; have := (hl b hb).2; omega
        · have := H.ns; have := (hl b hb).2; omega
      · have := hlo b (List.mem_append_right _ (List.mem_append_right _ hb)); have := hc.size; omega
  · intro d hd
    rcases List.mem_append.1 hd with hd | hd
    · exact d.loc (fun b hb => hc.block b (hlo b (List.mem_append_left _ (mem_fps hb hd))).2 (fun hm => h3 b (mem_fps hb hd) b (List.mem_append_left _ hm) rfl)) (H.ok d (List.mem_append_left _ hd))
    · rcases List.mem_cons.1 hd with hd | hd
      · subst hd; exact ha
      · exact d.loc (fun b hb => hc.block b (hlo b (List.mem_append_right _ (List.mem_append_right _ (mem_fps hb hd)))).2 (fun hm => h6 b hm b (mem_fps hb hd) rfl)) (H.ok d (List.mem_append_right _ (List.mem_cons_of_mem _ hd)))
theorem Sep.add {c : Ck} (H : Sep n w0 w L) (h : Below w.heap.size w w') (ha : c.A w') (hnd : c.fp.Nodup) (hl : ∀ b ∈ c.fp, w.heap.size ≤ b ∧ b < w'.heap.size) : Sep n w0 w' (c :: L) := by
  have J : Sep w.heap.size w w' [c] := ⟨h, h.size, by simpa [fps] using hnd, by simpa [fps] using hl, by simpa using ha⟩; exact H.join J
theorem Sep.rd {α : Type} {d : Kd α} {cs : List Value} {x : α} (H : Sep n w0 w L) (h : d.rd w0 n cs x) : d.rd w w.heap.size cs x := d.le (d.mono h H.bel) H.ns
theorem Sep.own {α : Type} {d : Kd α} {fp : List Nat} {cs : List Value} {x : α} (H : Sep n w0 w L) (h : Ck.own d fp cs x ∈ L) : d.rd w w.heap.size cs x :=
  d.own_rd (H.ok _ h) fun b hb => (H.lo b (mem_fps (c := Ck.own d fp cs x) hb h)).2
theorem Sep.ow {α : Type} (H : Sep n w0 w L) (d : Kd α) (fp : List Nat) (cs : List Value) (x : α) (h : Ck.own d fp cs x ∈ L := by repeat (first | exact List.mem_cons_self | apply List.mem_cons_of_mem)) : d.rd w w.heap.size cs x := H.own h
theorem Sep.om {α : Type} {d : Kd α} {fp : List Nat} {cs : List Value} {x : α} (H : Sep n w0 w L) (h : Ck.own d fp cs x ∈ L := by repeat (first | exact List.mem_cons_self | apply List.mem_cons_of_mem)) : d.rd w w.heap.size cs x := H.own h
theorem Sep.cell {g : Nat} {cs : List Value} {t : TypeId} (H : Sep n w0 w L) (h : Ck.box g cs t ∈ L) (j : Nat) : w.cell? ⟨g, j, none⟩ = cs[j]? := by
  have := H.ok _ h
  simp [World.cell?, show w.heap[g]? = some (.cells cs.toArray t (0, 0)) from this]
theorem Sep.lt {g : Nat} {cs : List Value} {t : TypeId} (H : Sep n w0 w L) (h : Ck.box g cs t ∈ L) : g < w.heap.size := (H.lo g (mem_fps (c := Ck.box g cs t) (by simp [Ck.box]) h)).2
end
section
variable {P : Program} {n : Nat} {w0 w : World} {L : List Ck} {K : Value → World → Prop} {tg : Tg K}
theorem Sep.fresh {w : World} {L : List Ck} (H : Sep n w0 w L) (cs : List Value) (t : TypeId) : Sep n w0 (w.alloc (.cells cs.toArray t)) (Ck.box w.heap.size cs t :: L) := by
  refine H.add (Below.alloc (Below.refl _ _) (Nat.le_refl _) _) (heap_alloc_new w _) (by simp [Ck.box]) (fun b hb => ?_); simp only [Ck.box, List.mem_singleton] at hb; subst hb
  simp
theorem x_bx (H : Sep n w0 w L) {t : TypeId} {v : Value} (cs : List Value) (h : ∀ g w', Sep n w0 w' (Ck.box g cs t :: L) → K (.pointer (some ⟨g, 0, none⟩)) w') (hc : v.cells = cs.toArray := by rfl) : VS P K tg (Instr.box t v) w := by
  unfold VS; rw [v_box, hc]; exact h _ _ (H.fresh cs t)
theorem x_al (H : Sep n w0 w L) {t : TypeId} {sz : Nat} {z : Array Value} (HS : StT P t sz z) (h : ∀ g w', Sep n w0 w' (Ck.box g z.toList t :: L) → K (.pointer (some ⟨g, 0, none⟩)) w') : VS P K tg (Instr.alloc t true (.tuple #[])) w := by
  rw [alloc_st HS]; exact h _ _ (by have := H.fresh z.toList t; simpa using this)
theorem x_ld (H : Sep n w0 w L) {g j : Nat} {cs : List Value} {t e : TypeId} {z v : Value} (HS : ScT P e z) (h : K v w) (hm : Ck.box g cs t ∈ L := by repeat (first | exact List.mem_cons_self | apply List.mem_cons_of_mem)) (hv : cs[j]? = some v := by rfl) :
    VS P K tg (Instr.loadAt e (.pointer (some ⟨g, j, none⟩))) w := x_load HS ((H.cell hm j).trans hv) h
theorem x_lda (H : Sep n w0 w L) {g : Nat} {cs : List Value} {t e : TypeId} {sz : Nat} {z : Array Value} (HS : StT P e sz z) (h : K (.agg cs.toArray) w) (hm : Ck.box g cs t ∈ L := by repeat (first | exact List.mem_cons_self | apply List.mem_cons_of_mem)) (hl : cs.length = sz := by rfl) :
    VS P K tg (Instr.loadAt e (.pointer (some ⟨g, 0, none⟩))) w := x_loadAgg HS cs hl (fun j v hj => by rw [Kd.add_at, Nat.zero_add, H.cell hm]; exact hj) h
theorem x_ldp (H : Sep n w0 w L) {g j : Nat} {cs : List Value} {t e : TypeId} {sz : Nat} {z : Array Value} (vs : List Value) (HS : StT P e sz z) (h : K (.agg vs.toArray) w) (hm : Ck.box g cs t ∈ L := by repeat (first | exact List.mem_cons_self | apply List.mem_cons_of_mem)) (hl : vs.length = sz := by rfl) (hv : (cs.drop j).take sz = vs := by rfl) :
    VS P K tg (Instr.loadAt e (.pointer (some ⟨g, j, none⟩))) w := x_loadAgg HS vs hl (fun i v hi => by
      rw [Kd.add_at, H.cell hm, ← hi, ← hv, List.getElem?_take, List.getElem?_drop]; have : i < sz := by rw [← hl]; exact (List.getElem?_eq_some_iff.1 hi).1
      rw [if_pos this]) h
theorem x_st (H : Sep n w0 w L) {g j : Nat} {cs : List Value} {t e : TypeId} {z v : Value} {f : Ck → List Ck} {tg : Tg K} (HS : ScT P e z) (h : ∀ w', Sep n w0 w' (f (Ck.box g (cs.set j v) t)) → K undef w')
    (hm : Hole (Ck.box g cs t) L f := by repeat (first | exact Hole.here | apply Hole.there)) (hj : j < cs.length := by first | decide | simp) (h1 : v.oneCell' = true := by rfl) :
    VU P K tg (Instr.storeAt e (.pointer (some ⟨g, j, none⟩)) v) w := by
  have hb : w.heap[g]? = some (.cells cs.toArray t (0, 0)) := H.ok _ hm.mem; refine x_store HS (old := cs[j]) (by rw [H.cell hm.mem, List.getElem?_eq_getElem hj]) (frozen_of_row w g j _ t hb) h1 (h _ (H.put hm ?_ ?_ (by simp [Ck.box]) (fun b hb => ?_)))
  · exact ⟨rfl, rfl, rfl, by simp, fun k _ hk => heap_setCell_other w _ k v (fun e => hk (by simp [Ck.box, e]))⟩
  · have := heap_setCell_same w g j _ t v hb
    simpa [Ck.box] using this
  · simp only [Ck.box, List.mem_singleton] at hb ⊢
    refine ⟨.inl hb, ?_⟩; have := H.lt hm.mem
    simp; omega
theorem x_sta (H : Sep n w0 w L) {g j : Nat} {cs vs : List Value} {t e : TypeId} {sz : Nat} {z : Array Value} {f : Ck → List Ck} {tg : Tg K} (HS : StT P e sz z) (h : ∀ w', Sep n w0 w' (f (Ck.box g (cs.take j ++ vs ++ cs.drop (j + vs.length)) t)) → K undef w')
    (hm : Hole (Ck.box g cs t) L f := by repeat (first | exact Hole.here | apply Hole.there)) (hl : vs.length = sz := by rfl) (hj : j + vs.length ≤ cs.length := by first | decide | simp) (h1 : ∀ v ∈ vs, v.oneCell' = true) :
    VU P K tg (Instr.storeAt e (.pointer (some ⟨g, j, none⟩)) (.agg vs.toArray)) w := by
  have hb : w.heap[g]? = some (.cells cs.toArray t (0, 0)) := H.ok _ hm.mem; obtain ⟨fs, hu⟩ := HS.un; obtain ⟨inf, hi, hs, _⟩ := HS.inf; have hst := run_storeCells_at P g j t vs 0 cs.toArray w hb (by simpa using hj) h1; unfold VU; refine vU_run (u := ()) (w' := w.setRow g ((cs.take j ++ vs ++ cs.drop (j + vs.length)).toArray)) ?_ (h _ (H.put hm ?_ ?_ (by simp [Ck.box]) (fun b hb => ?_)))
  · simp only [Nat.add_zero] at hst
    simp [Instr.storeAt, Instr.sureAddr, storeVar, Value.cells, run_sizeOf' hi hs, hl, hst]
  · exact ⟨rfl, rfl, rfl, by simp [World.setRow], fun k _ hk => setRow_other w g k _ (fun e => hk (by simp [Ck.box, e]))⟩
  · exact setRow_heap w g _ _ t _ hb
  · simp only [Ck.box, List.mem_singleton] at hb ⊢
    refine ⟨.inl hb, ?_⟩; have := H.lt hm.mem
    simp [World.setRow]; omega
theorem x_call {f : FuncId} {args : Array Value} {R : Value → World → Prop} (c : ACalls P f args w R) (h : ∀ v w', R v w' → K v w') : ACall P f K tg args w := ACalls.mono c h
end
section
variable {P : Program} {n n' : Nat} {w0 w1 w : World} {L : List Ck} {G : List (Nat × Nat)} {K : Value → Prop} {tg : Tg (w.heap.size, ([] : List (Nat × Nat)), w, K)}
theorem q_ld (H : Sep n w0 w L) {g j : Nat} {cs : List Value} {t e : TypeId} {z v : Value} (HS : ScT P e z) (h : K v) (hm : Ck.box g cs t ∈ L := by repeat (first | exact List.mem_cons_self | apply List.mem_cons_of_mem)) (hv : cs[j]? = some v := by rfl) :
    QS P w.heap.size [] w K tg (Instr.loadAt e (.pointer (some ⟨g, j, none⟩))) := qx_load HS ((H.cell hm j).trans hv) (H.lt hm) (by simp) h
end
def IsPlain {α : Type} (d : Kd α) (f : α → Value) (R : α → Prop) : Prop := ∃ h1, d = Kd.plain f h1 R
theorem pl_u8 : IsPlain Kd.u8 encB (fun _ => True) := ⟨_, rfl⟩
theorem pl_i64 : IsPlain Kd.i64 (fun x => .int .i64 x) (fun x => -9223372036854775808 ≤ x ∧ x < 9223372036854775808) := ⟨_, rfl⟩
theorem pl_str : IsPlain Kd.str (fun l => .string ⟨l.toArray⟩) (fun l => l.length ≤ 9223372036854775807) := ⟨_, rfl⟩
theorem pl_bool : IsPlain Kd.bool (fun x => .bool x) (fun _ => True) := ⟨_, rfl⟩
section
variable {α : Type} {d : Kd α} {f : α → Value} {R : α → Prop}
theorem IsPlain.sz (h : IsPlain d f R) : d.sz = 1 := by obtain ⟨_, rfl⟩ := h; rfl
theorem IsPlain.one (h : IsPlain d f R) (x : α) : (f x).oneCell' = true := by obtain ⟨h1, rfl⟩ := h; exact h1 x
theorem IsPlain.rd (h : IsPlain d f R) {w : World} {n : Nat} {cs : List Value} {x : α} : d.rd w n cs x ↔ cs = [f x] ∧ R x := by obtain ⟨h1, rfl⟩ := h; exact Iff.rfl
theorem IsPlain.ow (h : IsPlain d f R) {w : World} {fp : List Nat} {cs : List Value} {x : α} : d.ow w fp cs x ↔ (cs = [f x] ∧ R x) ∧ fp = [] := by obtain ⟨h1, rfl⟩ := h; exact Iff.rfl
theorem IsPlain.slRd (h : IsPlain d f R) {w : World} {n : Nat} {A : Option Addr} {l : List α} : Kd.sliceRd d w n A l ↔ (∀ x ∈ l, R x) ∧ ∀ i (hi : i < l.length), A.isSome = true ∧ (adA A).block < n ∧ w.cell? ((adA A).add i) = some (f l[i]) := by
  constructor
  · intro H
    refine ⟨fun x hx => ?_, fun i hi => ?_⟩
    · obtain ⟨i, hi, rfl⟩ := List.getElem_of_mem hx
      obtain ⟨_, _, es, h3, _⟩ := H i hi; exact (h.rd.1 h3).2
    · obtain ⟨h1, h2, es, h3, h4⟩ := H i hi
      refine ⟨h1, h2, ?_⟩; have h5 := h4 0 (by rw [h.sz]; exact Nat.zero_lt_one); rw [(h.rd.1 h3).1, h.sz, Nat.mul_one, Nat.add_zero] at h5; exact h5
  · intro ⟨hR, H⟩ i hi
    obtain ⟨h1, h2, h3⟩ := H i hi; refine ⟨h1, h2, [f l[i]], h.rd.2 ⟨rfl, hR _ (List.getElem_mem hi)⟩, fun j hj => ?_⟩; have hj0 : j = 0 := by rw [h.sz] at hj; omega
    subst hj0; rw [h.sz, Nat.mul_one, Nat.add_zero, h3]; rfl
theorem flat_one' (l : List α) (f : α → Value) : (l.map fun b => [f b]).flatten = l.map f := by induction l <;> simp_all
theorem flat_nil' (l : List α) : (l.map fun _ => ([] : List Nat)).flatten = [] := by induction l <;> simp_all
theorem IsPlain.slOw (hp : IsPlain d f R) {e : TypeId} {w : World} {fp : List Nat} {v : Value} {l : List α} : (Kd.slice e d).ow w fp [v] l ↔ (∀ x ∈ l, R x) ∧ w.owR e 1 v l.length (l.map f) ∧ fp = v.ownBlock.toList := by
  constructor
  · rintro ⟨v', rows, fps, hv, h⟩
    simp only [List.cons.injEq, and_true] at hv; subst hv
    have hr : rows = l.map fun b => [f b] := by
      apply List.ext_getElem
      · simp [h.lr]
      · intro i h1 h2
        have h3 := (hp.ow.1 (h.el i (by rw [← h.lr]; exact h1))).1.1; simp only [List.getElem_map]; exact h3
    have hf : fps.flatten = [] := by
      rw [List.flatten_eq_nil_iff]; intro f hf; obtain ⟨i, hi, rfl⟩ := List.getElem_of_mem hf; exact (hp.ow.1 (h.el i (by rw [← h.lf]; exact hi))).2
    have h1 := h.row; rw [hr, flat_one', hp.sz] at h1; refine ⟨fun x hx => ?_, h1, by rw [h.hfp, hf, List.append_nil]⟩; obtain ⟨i, hi, rfl⟩ := List.getElem_of_mem hx; exact (hp.ow.1 (h.el i hi)).1.2
  · rintro ⟨hR, h1, h2⟩
    refine ⟨v, l.map (fun b => [f b]), l.map (fun _ => []), rfl, ⟨by rw [flat_one', hp.sz]; exact h1, by simp, by simp, fun i hi => ?_, by rw [flat_nil', List.append_nil]; exact h2, ?_⟩⟩
    · simp only [List.getElem_map]
      exact hp.ow.2 ⟨⟨rfl, hR _ (List.getElem_mem hi)⟩, rfl⟩
    · rw [h2]; cases v.ownBlock <;> simp
theorem ownB_lt {w : World} {e : TypeId} {sz : Nat} {v : Value} {n : Nat} {xs : List Value} (h : w.owR e sz v n xs) : ∀ b ∈ v.ownBlock.toList, b < w.heap.size := fun b hb => owR_lt h b (by simpa using hb)
theorem ownB_nodup (v : Value) : v.ownBlock.toList.Nodup := by cases v.ownBlock <;> simp
end
theorem app_raw {P : Program} {w : World} {t ty e : TypeId} {sz by_ : Nat} {z : Value} (HS : SlT P t e sz by_ z) {v : Value} {n : Nat} {xs : List Value} (ho : w.owR e sz v n xs) {A : Option Addr} {m c : Nat} {news : List Value}
    (hl : news.length = m * sz) (hA : A = none → m = 0) (hnews : ∀ j u, news[j]? = some u → w.cell? ((adA A).add j) = some u) (h1 : ∀ u ∈ news, u.oneCell' = true) (hn : n + m ≤ 9223372036854775807) (hb : (n + m) * by_ ≤ 140737488355328) :
    ∃ v' w', (Builtin.append_ #[t, t] ty #[v, .slice A m c]).run P w = .ok v' w' ∧ w'.owR e sz v' (n + m) (xs ++ news) ∧ w.grownBy w' v.ownBlock ∧ (v'.ownBlock = v.ownBlock ∨ ∀ b, v'.ownBlock = some b → w.heap.size ≤ b) ∧ ∀ g j, v.ownBlock = some g → j < n * sz → w'.cell? ⟨g, j, none⟩ = w.cell? ⟨g, j, none⟩ := by
  obtain ⟨i, hi, hs, hby, hz⟩ := HS.inf; have hmx : n + m ≤ maxLen := by simpa [maxLen] using hn
  cases A with
  | none =>
    have := hA rfl; subst this; obtain rfl : news = [] := List.eq_nil_of_length_eq_zero (by simpa using hl); refine ⟨v, w, ?_, by simpa using ho, ⟨rfl, rfl, rfl, Nat.le_refl _, fun _ _ _ => rfl⟩, .inl rfl, fun _ _ _ _ => rfl⟩
    rcases ho.2 with ⟨rfl, rfl⟩ | ⟨g, cap, cur, rfl, _, _, hnc, _⟩
    · simp [Builtin.append_, run_underlying' HS.un, run_sizeOf' hi hs, Builtin.lenOf, Builtin.firstCells]
    · simp [Builtin.append_, run_underlying' HS.un, run_sizeOf' hi hs, Builtin.lenOf, Builtin.firstCells, hnc, storeCells]
  | some a =>
    rcases ho.2 with ⟨rfl, rfl⟩ | ⟨g, cap, cur, rfl, _, hg, hnc, hcm, hcs, htake⟩
    · have hx : xs = [] := List.eq_nil_of_length_eq_zero (by simpa using ho.1)
      subst hx; obtain ⟨v', w', h2, h3, h4, _⟩ := run_append_own (P := P) w w.heap.size t ty e i z sz by_ HS.un hi hz hs hby HS.zs HS.pos (.slice none 0 0) 0 [] (World.ownsRow_nil _ _ _ _) a m c news hl hnews h1 hmx hb (Nat.le_refl _); refine ⟨v', w', h2, owR_of ⟨h3.1, ?_⟩, h4, .inr fun b hb => (h3.lt b hb).1, fun g j hg _ => by simp [Value.ownBlock] at hg⟩
      rcases h3.2 with h5 | ⟨g, cap, cur, h5, h6, h7⟩
      · exact .inl h5
      · exact .inr ⟨g, cap, cur, h5, Nat.zero_le _, h7⟩
    · by_cases hroom : n + m ≤ cap
      · subst hs
        have hlen : (xs ++ news).length = (n + m) * i.size := by rw [List.length_append, ho.1, hl, Nat.add_mul]
        have hfit : n * i.size + news.length ≤ cur.size := by
          rw [hl, ← Nat.add_mul]; exact Nat.le_trans (Nat.mul_le_mul_right _ hroom) hcs
        have hr := run_append_room (P := P) w t ty e i HS.un hi g n cap cur hg a m c news hl hnews h1 hroom hfit; refine ⟨_, _, hr, ⟨hlen, .inr ⟨g, cap, _, rfl, Nat.zero_le _, setRow_heap w g cur _ e _ hg, hroom, hcm, ?_, ?_⟩⟩, ⟨rfl, rfl, rfl, by simp, fun k _ hk => setRow_other w g k _ (fun e => hk (by simp [Value.ownBlock, e]))⟩, .inl rfl, fun g' j hg' hj => ?_⟩
        · simp only [List.size_toArray, List.length_append, List.length_take, List.length_drop, Array.length_toList]
          omega
        · rw [htake, ← hlen]
          exact List.take_left
        · simp only [Value.ownBlock, Option.map_some, Option.some.injEq] at hg'
          subst hg'; rw [Kd.cell_blk (setRow_heap w g cur _ e _ hg), Kd.cell_blk hg]; have hjc : j < cur.size := by omega
          rw [List.getElem?_toArray, List.append_assoc, List.getElem?_append_left (by rw [List.length_take]; simp; omega), List.getElem?_take, if_pos hj]
          simp
      · subst hs
        subst hby; have hr := run_append_grow (P := P) w t ty e i z HS.un hi hz ⟨g, 0, none⟩ n cap xs ho.1 (fun j u hu => by rw [Kd.add_plain, Kd.cell_blk hg]; rw [← htake, List.getElem?_take] at hu; split at hu <;> simp_all) a m c news hl hnews (by omega) (by omega) (growslice_fits (by omega) hb); have hge := grownCap_ge w (n + m) cap e; have hlen : (xs ++ news).length = (n + m) * i.size := by rw [List.length_append, ho.1, hl, Nat.add_mul]
        refine ⟨_, _, hr, ⟨hlen, .inr ⟨w.heap.size, _, _, rfl, Nat.zero_le _, heap_alloc_new w.drew _, hge, grownCap_le_maxLen w (n + m) cap e hmx, ?_, ?_⟩⟩, ⟨rfl, rfl, rfl, by simp, fun k hk _ => heap_alloc_old w.drew _ k hk⟩, .inr fun b hb => by simp [Value.ownBlock] at hb; omega, fun g' j hg' _ => World.cell?_of_block (heap_alloc_old w.drew _ _ (by simp only [Value.ownBlock, Option.map_some, Option.some.injEq] at hg'; subst hg'; exact (Array.getElem?_eq_some_iff.1 hg).1))⟩
        · have e1 : grownCap w (n + m) cap e * i.size = (n + m) * i.size + (grownCap w (n + m) cap e - (n + m)) * i.size := by rw [← Nat.add_mul]; congr 1; omega
          have e2 := hlen; rw [List.length_append] at e2; simp only [Array.size_append, List.size_toArray, size_zeroCells, HS.zs]
          omega
        · rw [Array.toList_append, Array.toList_append, List.take_append_of_le_length (by simp [← hlen])]
          exact List.take_of_length_le (by simp [← hlen])
section
variable {P : Program} {n : Nat} {w0 w : World} {L : List Ck} {K : Value → World → Prop} {tg : Tg K}
variable {α : Type} {d : Kd α} {f : α → Value} {R : α → Prop}
theorem sl_open {e : TypeId} {m : Nat} {v : Value} {l : List α} (h : (Kd.slice e d).rd w m [v] l) : ∃ A c, v = .slice A l.length c ∧ l.length ≤ c ∧ c ≤ maxLen ∧ Kd.sliceRd d w m A l := by
  obtain ⟨A, c, hv, h1, h2, h3⟩ := h; simp only [List.cons.injEq, and_true] at hv; exact ⟨A, c, hv, h1, h2, h3⟩
theorem x_el (hp : IsPlain d f R) {t e by_ : Nat} {z : Value} (HS : SlT P t e 1 by_ z) {A : Option Addr} {m c : Nat} {l : List α} {k : IntKind} {i : Int} (hl : Kd.sliceRd d w m A l) (h0 : 0 ≤ i) (h1 : i < (l.length : Int))
    (h : ∀ ad, ad.block < m → w.cell? ad = some (f (l[i.toNat]'(by omega))) → R (l[i.toNat]'(by omega)) → K (.pointer (some ad)) w) : VS P K tg (Instr.indexAt t (.slice A l.length c) (.int k i)) w := by
  obtain ⟨hR, hc⟩ := hp.slRd.1 hl; obtain ⟨h2, h3, h4⟩ := hc i.toNat (by omega); refine x_index HS h2 h0 h1 (h _ ?_ ?_ (hR _ (List.getElem_mem _)))
  · rw [Kd.add_block]; exact h3
  · rw [Nat.mul_one]; exact h4
theorem x_mk (H : Sep n w0 w L) (hp : IsPlain d f R) {t e by_ : Nat} {x : α} (HS : SlT P t e 1 by_ (f x)) (hx : R x) {k k' : IntKind} {m : Nat} (hb : by_ * m ≤ 281474976710656) (hn : m ≤ 9223372036854775807)
    (h : ∀ g w', Sep n w0 w' (Ck.own (Kd.slice e d) [g] [.slice (some ⟨g, 0, none⟩) m m] (List.replicate m x) :: L) → K (.slice (some ⟨g, 0, none⟩) m m) w') (hc : (f x).cells = #[f x] := by rfl) :
    VS P K tg (Instr.makeSlice t (.int k (m : Int)) (.int k' (m : Int))) w := by
  refine x_make HS hb hn fun w' ho hbl hlt => h _ _ (H.add hbl (hp.slOw.2 ⟨fun y hy => by rw [List.eq_of_mem_replicate hy]; exact hx, ?_, rfl⟩) (by simp [Ck.own]) (fun b hb => by simp [Ck.own] at hb; omega)); rw [hc, Nat.mul_one, toList_madeCells_one] at ho
  simpa using ho
theorem x_emp (H : Sep n w0 w L) (hp : IsPlain d f R) {t e sz by_ : Nat} {z : Value} (HS : SlT P t e sz by_ z) (h : ∀ g w', Sep n w0 w' (Ck.own (Kd.slice e d) [g] [.slice (some ⟨g, 0, none⟩) 0 0] [] :: L) → K (.slice (some ⟨g, 0, none⟩) 0 0) w') (h1 : sz = 1 := by rfl) : VS P K tg (Instr.buildSlice t 0 #[]) w := by
  obtain ⟨i, hi, hs, _, hz⟩ := HS.inf; unfold VS; refine vS_run (v := .slice (some ⟨w.heap.size, 0, none⟩) 0 0) (w' := w.alloc (.cells #[] e)) ?_ (h _ _ (H.add (Below.alloc (Below.refl _ _) (Nat.le_refl _) _) (hp.slOw.2 ⟨by simp, ?_, rfl⟩) (by simp [Ck.own]) (fun b hb => by simp [Ck.own] at hb; subst hb; simp)))
  · have : (Array.range 0) = #[] := rfl
    simp [Instr.buildSlice, run_underlying' HS.un, run_sizeOf' hi hs, Instr.fill, newRow, this]
  · exact owR_of (World.ownsRow_lit (base := 0) w #[] 0 (Nat.zero_le _) (Nat.zero_le _) rfl)
def enumV : Nat → List Value → List (Nat × Value)
  | _, [] => []
  | i, v :: vs => (i, v) :: enumV (i + 1) vs
theorem cells_one {v : Value} (h : v.oneCell' = true) : v.cells = #[v] := by cases v <;> first | rfl | simp [Value.oneCell'] at h
theorem fill_enum : ∀ (vs : List Value) (i : Nat) (cells : Array Value), (∀ v ∈ vs, v.oneCell' = true) → i + vs.length = cells.size → Instr.fill (fun i => some (i, 1)) cells (enumV i vs) = some ((cells.toList.take i ++ vs).toArray)
  | [], i, cells, _, hl => by
    have : cells.toList.take i = cells.toList := List.take_of_length_le (by simp at hl; simp; omega)
    simp [enumV, Instr.fill, this]
  | v :: vs, i, cells, h1, hl => by
    have hv := h1 v (List.mem_cons_self ..); simp only [List.length_cons] at hl; have h2 : ¬ (i + 1 > cells.size) := by omega
    have h3 := fill_enum vs (i + 1) (cells.setIfInBounds i v) (fun u hu => h1 u (List.mem_cons_of_mem _ hu)) (by simp; omega); simp only [enumV, Instr.fill, cells_one hv]; have e1 : (#[v].zipIdx.foldl (fun cs x => cs.setIfInBounds (i + x.2) x.1) cells) = cells.setIfInBounds i v := rfl; have e2 : (#[v] : Array Value).size = 1 := rfl; rw [e2]; simp only [bne_self_eq_false, Bool.false_or, decide_eq_true_eq, ne_eq, not_true_eq_false, decide_false]; rw [if_neg h2]
    have e3 : (cells.setIfInBounds i v).toList.take (i + 1) = cells.toList.take i ++ [v] := by
      rw [Array.toList_setIfInBounds, List.take_add_one, List.getElem?_set_self (by simp; omega)]
      simp [List.take_set_of_le]
    rw [e3, List.append_assoc] at h3; exact h3
theorem x_lst (H : Sep n w0 w L) (hp : IsPlain d f R) {t e by_ : Nat} {z : Value} (HS : SlT P t e 1 by_ z) {m : Nat} {ps : Array (Nat × Value)} (l : List α) (hR : ∀ x ∈ l, R x)
    (h : ∀ g w', Sep n w0 w' (Ck.own (Kd.slice e d) [g] [.slice (some ⟨g, 0, none⟩) m m] l :: L) → K (.slice (some ⟨g, 0, none⟩) m m) w') (hm : l.length = m := by rfl)
    (hps : ps.toList = enumV 0 (l.map f) := by rfl) (hpos : m ≠ 0 := by decide) (hml : m ≤ 16777216 := by decide) : VS P K tg (Instr.buildSlice t m ps) w := by
  obtain ⟨i, hi, hs, _, hz⟩ := HS.inf; subst hm; have hmx : l.length ≤ maxLen := by simp only [maxLen]; omega
  have hf := fill_enum (l.map f) 0 ((Array.range l.length).map (z.cells[· % z.cells.size]!)) (fun u hu => by obtain ⟨y, _, rfl⟩ := List.mem_map.1 hu; exact hp.one y) (by simp); rw [← hps] at hf; simp only [List.take_zero, List.nil_append] at hf; unfold VS; refine vS_run (v := .slice (some ⟨w.heap.size, 0, none⟩) l.length l.length) (w' := w.alloc (.cells (l.map f).toArray e)) ?_ (h _ _ (H.add (Below.alloc (Below.refl _ _) (Nat.le_refl _) _) (hp.slOw.2 ⟨hR, ?_, rfl⟩) (by simp [Ck.own]) (fun b hb => by simp [Ck.own] at hb; subst hb; simp)))
  · have hg : ¬ (16777216 < l.length) := by omega
    simp [Instr.buildSlice, run_underlying' HS.un, run_sizeOf' hi hs, hg, hpos, run_zeroValue' hi hz, hf, newRow]
  · have := owR_of <| World.ownsRow_lit (base := 0) (e := e) (size := 1) w (l.map f).toArray l.length (Nat.zero_le _) hmx (by simp)
    simpa using this
theorem x_app (H : Sep n w0 w L) (hp : IsPlain d f R) {t ty e by_ : Nat} {z : Value} (HS : SlT P t e 1 by_ z) {fp : List Nat} {v x : Value} {l l' : List α} {F : Ck → List Ck} (hx : (Kd.slice e d).rd w w.heap.size [x] l') (hb : (l.length + l'.length) * by_ ≤ 140737488355328) (hn : l.length + l'.length ≤ 9223372036854775807)
    (h : ∀ fp' v' w', Sep n w0 w' (F (Ck.own (Kd.slice e d) fp' [v'] (l ++ l'))) → K v' w') (hm : Hole (Ck.own (Kd.slice e d) fp [v] l) L F := by repeat (first | exact Hole.here | apply Hole.there)) :
    Builtin' P K tg .append #[t, t] ty [v, x] w := by
  obtain ⟨i, hi, hs, hby, hz⟩ := HS.inf; obtain ⟨hR, ho, hfp⟩ := hp.slOw.1 (show (Kd.slice e d).ow w fp [v] l from H.ok _ hm.mem); obtain ⟨A, c, rfl, hc1, hc2, hx⟩ := sl_open hx; obtain ⟨hR', hx⟩ := hp.slRd.1 hx
  show vS P (Builtin.append_ #[t, t] ty #[v, .slice A l'.length c]) w K
  have key := app_raw HS (ty := ty) ho (A := A) (m := l'.length) (c := c) (news := l'.map f) (by simp) (fun hA => by
      cases l' with
      | nil => rfl
      | cons y ys => have := (hx 0 (by simp)).1; rw [hA] at this; cases this)
    (fun j u hj => by
      obtain ⟨h3, h4⟩ := List.getElem?_eq_some_iff.1 hj; have := (hx j (by simpa using h3)).2.2
      rw [this, ← h4]; simp)
    (fun u hu => by obtain ⟨y, _, rfl⟩ := List.mem_map.1 hu; exact hp.one y) hn hb
  obtain ⟨v', w', hr, ho', hg, hv', hk'⟩ := key; refine vS_run hr (h v'.ownBlock.toList v' w' (H.put hm (c' := Ck.own (Kd.slice e d) v'.ownBlock.toList [v'] (l ++ l')) (by rw [Ck.own_fp, hfp]; exact grown_chg hg) (hp.slOw.2 ⟨?_, ?_, rfl⟩) (ownB_nodup _) ?_))
  · intro y hy
    rcases List.mem_append.1 hy with hy | hy
    · exact hR y hy
    · exact hR' y hy
  · rw [List.length_append, List.map_append]; exact ho'
  · intro b hb
    rw [Ck.own_fp] at hb; refine ⟨?_, ownB_lt ho' b hb⟩
    rcases hv' with h1 | h1
    · left; rw [Ck.own_fp, hfp, ← h1]; exact hb
    · right; exact h1 b (by simpa using hb)
theorem x_appC (H : Sep n w0 w L) (hp : IsPlain d f R) {t ty e by_ : Nat} {z : Value} (HS : SlT P t e 1 by_ z) {fp : List Nat} {v x : Value} {l l' : List α} {F : Ck → List Ck} (hx : (Kd.slice e d).rd w w.heap.size [x] l') (hb : (l.length + l'.length) * by_ ≤ 140737488355328) (hn : l.length + l'.length ≤ 9223372036854775807)
    (h : ∀ fp' v' w', Sep n w0 w' (F (Ck.own (Kd.slice e d) fp' [v'] (l ++ l'))) → Chg v.ownBlock.toList w w' → (∀ g j, v.ownBlock = some g → j < l.length → w'.cell? ⟨g, j, none⟩ = w.cell? ⟨g, j, none⟩) → K v' w') (hm : Hole (Ck.own (Kd.slice e d) fp [v] l) L F := by repeat (first | exact Hole.here | apply Hole.there)) :
    Builtin' P K tg .append #[t, t] ty [v, x] w := by
  obtain ⟨i, hi, hs, hby, hz⟩ := HS.inf; obtain ⟨hR, ho, hfp⟩ := hp.slOw.1 (show (Kd.slice e d).ow w fp [v] l from H.ok _ hm.mem); obtain ⟨A, c, rfl, hc1, hc2, hx⟩ := sl_open hx; obtain ⟨hR', hx⟩ := hp.slRd.1 hx
  show vS P (Builtin.append_ #[t, t] ty #[v, .slice A l'.length c]) w K
  have key := app_raw HS (ty := ty) ho (A := A) (m := l'.length) (c := c) (news := l'.map f) (by simp) (fun hA => by
      cases l' with
      | nil => rfl
      | cons y ys => have := (hx 0 (by simp)).1; rw [hA] at this; cases this)
    (fun j u hj => by
      obtain ⟨h3, h4⟩ := List.getElem?_eq_some_iff.1 hj; have := (hx j (by simpa using h3)).2.2
      rw [this, ← h4]; simp)
    (fun u hu => by obtain ⟨y, _, rfl⟩ := List.mem_map.1 hu; exact hp.one y) hn hb
  obtain ⟨v', w', hr, ho', hg, hv', hk'⟩ := key; refine vS_run hr (h v'.ownBlock.toList v' w' (H.put hm (c' := Ck.own (Kd.slice e d) v'.ownBlock.toList [v'] (l ++ l')) (by rw [Ck.own_fp, hfp]; exact grown_chg hg) (hp.slOw.2 ⟨?_, ?_, rfl⟩) (ownB_nodup _) ?_) (grown_chg hg) fun g j hg' hj => hk' g j hg' (by omega))
  · intro y hy
    rcases List.mem_append.1 hy with hy | hy
    · exact hR y hy
    · exact hR' y hy
  · rw [List.length_append, List.map_append]; exact ho'
  · intro b hb
    rw [Ck.own_fp] at hb; refine ⟨?_, ownB_lt ho' b hb⟩
    rcases hv' with h1 | h1
    · left; rw [Ck.own_fp, hfp, ← h1]; exact hb
    · right; exact h1 b (by simpa using hb)
theorem ownsRow_len {w : World} {e : TypeId} {sz m c n : Nat} {A : Option Addr} {xs : List Value} (h : w.owR e sz (.slice A m c) n xs) : m = n := by
  rcases h.2 with ⟨h1, h2⟩ | ⟨g, cap, cur, h1, _⟩
  · cases h1; exact h2.symm
  · cases h1; rfl
theorem x_set (H : Sep n w0 w L) (hp : IsPlain d f R) {e : TypeId} {z : Value} (HS : ScT P e z) {fp : List Nat} {g c j m : Nat} {l : List α} {x : α} {F : Ck → List Ck} {tg : Tg K} (hj : j < m) (hx : R x)
    (h : ∀ w', Sep n w0 w' (F (Ck.own (Kd.slice e d) fp [.slice (some ⟨g, 0, none⟩) m c] (l.set j x))) → K undef w') (hm : Hole (Ck.own (Kd.slice e d) fp [.slice (some ⟨g, 0, none⟩) m c] l) L F := by repeat (first | exact Hole.here | apply Hole.there)) :
    VU P K tg (Instr.storeAt e (.pointer (some ⟨g, j, none⟩)) (f x)) w := by
  obtain ⟨hR, ho, hfp⟩ := hp.slOw.1 (show (Kd.slice e d).ow w fp [.slice (some ⟨g, 0, none⟩) m c] l from H.ok _ hm.mem); obtain rfl := ownsRow_len ho; have hfp' : fp = [g] := by rw [hfp]; rfl
  subst hfp'; have hg : g < w.heap.size := owR_lt ho g rfl; refine x_put HS ho hj (hp.one x) fun w' ho' hother hbl => h w' (H.put hm (c' := Ck.own (Kd.slice e d) [g] [.slice (some ⟨g, 0, none⟩) l.length c] (l.set j x)) ⟨hbl.os, hbl.tape, hbl.output, hbl.size, fun k _ hk => hother k (fun e => hk (by simp [Ck.own, e]))⟩ (hp.slOw.2 ⟨?_, ?_, rfl⟩) (by simp [Ck.own]) (fun b hb => ?_))
  · intro y hy
    rcases List.mem_or_eq_of_mem_set hy with hy | hy
    · exact hR y hy
    · rw [hy]; exact hx
  · rw [List.length_set, List.map_set]; exact ho'
  · refine ⟨.inl hb, ?_⟩
    simp only [Ck.own, List.mem_singleton] at hb; have := hbl.size
    omega
end
@[irreducible] def iand (k : IntKind) (a b : Int) : Int := k.wrap (BitVec.ofInt k.bits a &&& BitVec.ofInt k.bits b).toNat
@[irreducible] def ior (k : IntKind) (a b : Int) : Int := k.wrap (BitVec.ofInt k.bits a ||| BitVec.ofInt k.bits b).toNat
@[irreducible] def ixor (k : IntKind) (a b : Int) : Int := k.wrap (BitVec.ofInt k.bits a ^^^ BitVec.ofInt k.bits b).toNat
@[irreducible] def ishl (k : IntKind) (a : Int) (n : Nat) : Int := k.wrap (a * 2 ^ min n k.bits)
@[irreducible] def ishr (k : IntKind) (a : Int) (n : Nat) : Int := a.fdiv (2 ^ min n k.bits)
theorem toNat_nat64 (a : Nat) : (BitVec.ofInt 64 (a : Int)).toNat = a % 18446744073709551616 := by
  rw [BitVec.ofInt_natCast, BitVec.toNat_ofNat]
theorem wrap_nat64 {a : Nat} (h : a < 9223372036854775808) : IntKind.i64.wrap (a : Int) = a := by rw [wrap_i64]; exact w64_id (by omega) (by omega)
theorem and_lt {a b n : Nat} (h : a < n) : a &&& b < n := Nat.lt_of_le_of_lt Nat.and_le_left h
theorem iand_nat {a b : Nat} (ha : a < 9223372036854775808) : iand .i64 (a : Int) (b : Int) = ((a &&& b : Nat) : Int) := by
  have e : (BitVec.ofInt IntKind.i64.bits (a : Int) &&& BitVec.ofInt IntKind.i64.bits (b : Int)).toNat = a &&& b := by
    show (BitVec.ofInt 64 (a : Int) &&& BitVec.ofInt 64 (b : Int)).toNat = _
    rw [BitVec.toNat_and, toNat_nat64, toNat_nat64, Nat.mod_eq_of_lt (by omega)]; have h2 : ∀ x : Nat, x % 18446744073709551616 = x % 2 ^ 64 := fun _ => rfl; rw [h2, ← Nat.and_two_pow_sub_one_eq_mod b 64, Nat.and_comm b, ← Nat.and_assoc, Nat.and_two_pow_sub_one_eq_mod a 64, Nat.mod_eq_of_lt (by omega)]
  unfold iand; rw [e]; exact wrap_nat64 (and_lt ha)
theorem or_lt63 {a b : Nat} (ha : a < 9223372036854775808) (hb : b < 9223372036854775808) : a ||| b < 9223372036854775808 := Nat.or_lt_two_pow (n := 63) ha hb
theorem ior_nat {a b : Nat} (ha : a < 9223372036854775808) (hb : b < 9223372036854775808) : ior .i64 (a : Int) (b : Int) = ((a ||| b : Nat) : Int) := by
  have e : (BitVec.ofInt IntKind.i64.bits (a : Int) ||| BitVec.ofInt IntKind.i64.bits (b : Int)).toNat = a ||| b := by
    show (BitVec.ofInt 64 (a : Int) ||| BitVec.ofInt 64 (b : Int)).toNat = _
    rw [BitVec.toNat_or, toNat_nat64, toNat_nat64, Nat.mod_eq_of_lt (by omega), Nat.mod_eq_of_lt (by omega)]
  unfold ior; rw [e]; exact wrap_nat64 (or_lt63 ha hb)
theorem ishl_nat {a n : Nat} (h : a * 2 ^ n < 9223372036854775808) (hn : n ≤ 64) : ishl .i64 (a : Int) n = ((a <<< n : Nat) : Int) := by
  unfold ishl; rw [show min n IntKind.i64.bits = n from Nat.min_eq_left hn, Nat.shiftLeft_eq, show (a : Int) * 2 ^ n = ((a * 2 ^ n : Nat) : Int) by simp]; exact wrap_nat64 h
theorem ishr_nat {a n : Nat} (hn : n ≤ 64) : ishr .i64 (a : Int) n = ((a >>> n : Nat) : Int) := by
  unfold ishr; rw [show min n IntKind.i64.bits = n from Nat.min_eq_left hn, Nat.shiftRight_eq_div_pow, show ((2 : Int) ^ n) = ((2 ^ n : Nat) : Int) by simp]; rw [Int.fdiv_eq_ediv_of_nonneg _ (Int.natCast_nonneg _)]; simp
theorem toNat_nat8 (a : Nat) : (BitVec.ofInt 8 (a : Int)).toNat = a % 256 := by
  rw [BitVec.ofInt_natCast, BitVec.toNat_ofNat]
theorem wrap_nat8 {a : Nat} (h : a < 256) : IntKind.u8.wrap (a : Int) = a := by rw [wrap_u8]; omega
theorem iand_u8 {a b : UInt8} : iand .u8 (a.toNat : Int) (b.toNat : Int) = ((a &&& b).toNat : Int) := by
  have e : (BitVec.ofInt IntKind.u8.bits (a.toNat : Int) &&& BitVec.ofInt IntKind.u8.bits (b.toNat : Int)).toNat = (a &&& b).toNat := by
    show (BitVec.ofInt 8 (a.toNat : Int) &&& BitVec.ofInt 8 (b.toNat : Int)).toNat = _
    rw [BitVec.toNat_and, toNat_nat8, toNat_nat8, Nat.mod_eq_of_lt a.toNat_lt, Nat.mod_eq_of_lt b.toNat_lt, UInt8.toNat_and]
  unfold iand; rw [e]; exact wrap_nat8 (UInt8.toNat_lt _)
theorem ixor_u8 {a b : UInt8} : ixor .u8 (a.toNat : Int) (b.toNat : Int) = ((a ^^^ b).toNat : Int) := by
  have e : (BitVec.ofInt IntKind.u8.bits (a.toNat : Int) ^^^ BitVec.ofInt IntKind.u8.bits (b.toNat : Int)).toNat = (a ^^^ b).toNat := by
    show (BitVec.ofInt 8 (a.toNat : Int) ^^^ BitVec.ofInt 8 (b.toNat : Int)).toNat = _
    rw [BitVec.toNat_xor, toNat_nat8, toNat_nat8, Nat.mod_eq_of_lt a.toNat_lt, Nat.mod_eq_of_lt b.toNat_lt, UInt8.toNat_xor]
  unfold ixor; rw [e]; exact wrap_nat8 (UInt8.toNat_lt _)
theorem ior_u8 {a b : UInt8} : ior .u8 (a.toNat : Int) (b.toNat : Int) = ((a ||| b).toNat : Int) := by
  have e : (BitVec.ofInt IntKind.u8.bits (a.toNat : Int) ||| BitVec.ofInt IntKind.u8.bits (b.toNat : Int)).toNat = (a ||| b).toNat := by
    show (BitVec.ofInt 8 (a.toNat : Int) ||| BitVec.ofInt 8 (b.toNat : Int)).toNat = _
    rw [BitVec.toNat_or, toNat_nat8, toNat_nat8, Nat.mod_eq_of_lt a.toNat_lt, Nat.mod_eq_of_lt b.toNat_lt, UInt8.toNat_or]
  unfold ior; rw [e]; exact wrap_nat8 (UInt8.toNat_lt _)
theorem w64_u8 {b : UInt8} : w64 (b.toNat : Int) = (b.toNat : Int) := by have := b.toNat_lt; unfold w64; omega
theorem run_bits {P : Program} {w : World} {t : TypeId} {x y : Operand} {k : IntKind} {a b : Int} :
    (do eqGuard .and t x y (.int k a) (.int k b); binOp .and t (.int k a) (.int k b) : Sem Value).run P w = .ok (.int k (iand k a b)) w ∧
    (do eqGuard .or t x y (.int k a) (.int k b); binOp .or t (.int k a) (.int k b) : Sem Value).run P w = .ok (.int k (ior k a b)) w ∧
    (do eqGuard .xor t x y (.int k a) (.int k b); binOp .xor t (.int k a) (.int k b) : Sem Value).run P w = .ok (.int k (ixor k a b)) w := by
  refine ⟨?_, ?_, ?_⟩ <;> simp [eqGuard, binOp, Op.intBits, iand, ior, ixor]
theorem run_shift {P : Program} {w : World} {t : TypeId} {x y : Operand} {k k' : IntKind} {a : Int} {n : Nat} :
    (do eqGuard .shl t x y (.int k a) (.int k' (n : Int)); binOp .shl t (.int k a) (.int k' (n : Int)) : Sem Value).run P w = .ok (.int k (ishl k a n)) w ∧
    (do eqGuard .shr t x y (.int k a) (.int k' (n : Int)); binOp .shr t (.int k a) (.int k' (n : Int)) : Sem Value).run P w = .ok (.int k (ishr k a n)) w := by
  have h : ¬ ((n : Int) < 0) := by omega
  refine ⟨?_, ?_⟩ <;> simp [eqGuard, binOp, Op.shift, ishl, ishr, h]
theorem run_div {P : Program} {w : World} {t : TypeId} {x y : Operand} {k : IntKind} {a b : Int} (h : b ≠ 0) :
    (do eqGuard .quo t x y (.int k a) (.int k b); binOp .quo t (.int k a) (.int k b) : Sem Value).run P w = .ok (.int k (k.wrap (a.tdiv b))) w ∧
    (do eqGuard .rem t x y (.int k a) (.int k b); binOp .rem t (.int k a) (.int k b) : Sem Value).run P w = .ok (.int k (a.tmod b)) w := by
  refine ⟨?_, ?_⟩ <;> simp [eqGuard, binOp, Op.intDiv, h]
theorem beq_dec {α : Type} [DecidableEq α] [BEq α] [LawfulBEq α] (a b : α) : (a == b) = decide (a = b) := by by_cases h : a = b <;> simp [h]
theorem run_strs {P : Program} {w : World} {t : TypeId} {x y : Operand} {a b : List UInt8} :
    (do eqGuard .eql t x y (.string ⟨a.toArray⟩) (.string ⟨b.toArray⟩); binOp .eql t (.string ⟨a.toArray⟩) (.string ⟨b.toArray⟩) : Sem Value).run P w = .ok (.bool (decide (a = b))) w ∧
    (do eqGuard .neq t x y (.string ⟨a.toArray⟩) (.string ⟨b.toArray⟩); binOp .neq t (.string ⟨a.toArray⟩) (.string ⟨b.toArray⟩) : Sem Value).run P w = .ok (.bool (decide (¬ a = b))) w := by
  refine ⟨?_, ?_⟩ <;> simp [eqGuard, binOp, Op.stringOp, beq_dec]
theorem run_sadd {P : Program} {w : World} {t : TypeId} {x y : Operand} {a b : List UInt8} (h : a.length + b.length ≤ 9223372036854775807) :
    (do eqGuard .add t x y (.string ⟨a.toArray⟩) (.string ⟨b.toArray⟩); binOp .add t (.string ⟨a.toArray⟩) (.string ⟨b.toArray⟩) : Sem Value).run P w = .ok (.string ⟨(a ++ b).toArray⟩) w := by
  have h1 := run_string_add_sum (P := P) (w := w) ⟨a.toArray⟩ ⟨b.toArray⟩ (by rw [str_size, str_size]; exact h)
  have h2 : (⟨a.toArray⟩ ++ ⟨b.toArray⟩ : ByteArray) = ⟨(a ++ b).toArray⟩ := by
    rw [ByteArray.mk_append_mk]
  rw [h2] at h1; simp only [eqGuard, binOp, Sem.run_bind]; exact h1
theorem run_bools {P : Program} {w : World} {t : TypeId} {x y : Operand} {a b : Bool} (h : P.underlying t = some .bool) :
    (do eqGuard .eql t x y (.bool a) (.bool b); binOp .eql t (.bool a) (.bool b) : Sem Value).run P w = .ok (.bool (decide (a = b))) w ∧
    (do eqGuard .neq t x y (.bool a) (.bool b); binOp .neq t (.bool a) (.bool b) : Sem Value).run P w = .ok (.bool (decide (¬ a = b))) w := by
  refine ⟨?_, ?_⟩
  · simp [eqGuard, run_eql_bool w t a b h, beq_dec]
  · simp [eqGuard, run_neq_bool w t a b h, beq_dec]
theorem run_cvint {P : Program} {w : World} {s t : TypeId} {k k' : IntKind} {a : Int} {td : TypeDesc} (hs : P.underlying s = some td) (ht : P.underlying t = some (.int k')) : (convert s t (.int k a)).run P w = .ok (.int k' (k'.wrap a)) w := by
  simp [convert, run_underlying' hs, run_underlying' ht, Conv.intToInt]
section
variable {P : Program} {w : World} {K : Value → World → Prop} {tg : Tg K} {t : TypeId} {x y : Operand} {k k' : IntKind} {a b : Int} {n : Nat}
theorem b_and : Bin P K tg .and t x y (.int k a) (.int k b) w = K (.int k (iand k a b)) w := by unfold Bin vS; rw [run_bits.1]
theorem b_or : Bin P K tg .or t x y (.int k a) (.int k b) w = K (.int k (ior k a b)) w := by unfold Bin vS; rw [run_bits.2.1]
theorem b_xor : Bin P K tg .xor t x y (.int k a) (.int k b) w = K (.int k (ixor k a b)) w := by unfold Bin vS; rw [run_bits.2.2]
theorem b_shl : Bin P K tg .shl t x y (.int k a) (.int k' (n : Int)) w = K (.int k (ishl k a n)) w := by unfold Bin vS; rw [run_shift.1]
theorem b_shr : Bin P K tg .shr t x y (.int k a) (.int k' (n : Int)) w = K (.int k (ishr k a n)) w := by unfold Bin vS; rw [run_shift.2]
theorem b_shl_lit : Bin P K tg .shl t x y (.int k a) (.int k' (no_index (@OfNat.ofNat Int n instOfNat))) w = K (.int k (ishl k a n)) w := b_shl
theorem b_shr_lit : Bin P K tg .shr t x y (.int k a) (.int k' (no_index (@OfNat.ofNat Int n instOfNat))) w = K (.int k (ishr k a n)) w := b_shr
theorem x_quo (h : K (.int k (k.wrap (a.tdiv b))) w) (hb : b ≠ 0 := by decide) : Bin P K tg .quo t x y (.int k a) (.int k b) w := by unfold Bin; exact vS_run (run_div hb).1 h
theorem x_rem (h : K (.int k (a.tmod b)) w) (hb : b ≠ 0 := by decide) : Bin P K tg .rem t x y (.int k a) (.int k b) w := by unfold Bin; exact vS_run (run_div hb).2 h
theorem b_seql {a b : List UInt8} : Bin P K tg .eql t x y (.string ⟨a.toArray⟩) (.string ⟨b.toArray⟩) w = K (.bool (decide (a = b))) w := by unfold Bin vS; rw [run_strs.1]
theorem b_sneq {a b : List UInt8} : Bin P K tg .neq t x y (.string ⟨a.toArray⟩) (.string ⟨b.toArray⟩) w = K (.bool (decide (¬ a = b))) w := by unfold Bin vS; rw [run_strs.2]
theorem x_sadd {a b : List UInt8} (hl : a.length + b.length ≤ 9223372036854775807) (h : K (.string ⟨(a ++ b).toArray⟩) w) : Bin P K tg .add t x y (.string ⟨a.toArray⟩) (.string ⟨b.toArray⟩) w := by unfold Bin; exact vS_run (run_sadd hl) h
theorem b_beql {a b : Bool} (h : P.underlying t = some .bool) : Bin P K tg .eql t x y (.bool a) (.bool b) w = K (.bool (decide (a = b))) w := by unfold Bin vS; rw [(run_bools h).1]
theorem b_bneq {a b : Bool} (h : P.underlying t = some .bool) : Bin P K tg .neq t x y (.bool a) (.bool b) w = K (.bool (decide (¬ a = b))) w := by unfold Bin vS; rw [(run_bools h).2]
theorem cv_int {s t : TypeId} {td : TypeDesc} (hs : P.underlying s = some td) (ht : P.underlying t = some (.int k')) : VS P K tg (convert s t (.int k a)) w = K (.int k' (k'.wrap a)) w := by unfold VS vS; rw [run_cvint hs ht]
theorem run_str {P : Program} {w : World} {s t e : TypeId} {m : Nat} {v : Value} {l : List UInt8} (hs : P.underlying s = some (.slice e)) (he : P.underlying e = some (.int .u8)) (ht : P.underlying t = some .string) (h : (bytes e).rd w m [v] l) : (convert s t v).run P w = .ok (.string ⟨l.toArray⟩) w := by
  obtain ⟨A, c, rfl, h1, h2, h3⟩ := sl_open h; obtain ⟨_, h3⟩ := pl_u8.slRd.1 h3
  cases A with
  | none =>
    cases l with
    | nil =>
      rw [run_convert_bytes_string w s t e none _ c hs he ht]
      simp [Conv.bytesToString, ByteArray.empty, ByteArray.emptyWithCapacity]
      rfl
    | cons b l => have := (h3 0 (by simp)).1; cases this
  | some ad => exact run_convert_bytes_back w s t e ad c l hs he ht fun j hj => (h3 j hj).2.2
theorem x_str {s t e : TypeId} {m : Nat} {v : Value} {l : List UInt8} (hs : P.underlying s = some (.slice e)) (he : P.underlying e = some (.int .u8)) (ht : P.underlying t = some .string) (hr : (bytes e).rd w m [v] l) (h : K (.string ⟨l.toArray⟩) w) : VS P K tg (convert s t v) w := vS_run (run_str hs he ht hr) h
theorem run_sidx {P : Program} {w : World} {t : TypeId} {k : IntKind} {i : Int} {l : List UInt8} (ht : P.underlying t = some .string) (h0 : 0 ≤ i) (h1 : i < (l.length : Int)) : (Instr.index t (.string ⟨l.toArray⟩) (.int k i)).run P w = .ok (.int .u8 ((l.getD i.toNat 0).toNat : Int)) w := by
  rw [List.getD_eq_getElem?_getD, List.getElem?_eq_getElem (show i.toNat < l.length by omega), Option.getD_some]; rw [run_index_string w t _ k i ht, dif_pos ⟨h0, by rw [str_size]; exact h1⟩]
  congr 3
theorem x_sidx {t : TypeId} {k : IntKind} {i : Int} {l : List UInt8} (ht : P.underlying t = some .string) (h0 : 0 ≤ i) (h1 : i < (l.length : Int)) (h : K (.int .u8 ((l.getD i.toNat 0).toNat : Int)) w) : VS P K tg (Instr.index t (.string ⟨l.toArray⟩) (.int k i)) w := vS_run (run_sidx ht h0 h1) h
end
section
variable {P : Program} {m : Nat} {G : List (Nat × Nat)} {w0 : World} {K : Value → Prop} {tg : Tg (m, G, w0, K)} {t : TypeId} {x y : Operand} {k k' : IntKind} {a b : Int} {n : Nat}
theorem qb_and : QBin P m G w0 K tg .and t x y (.int k a) (.int k b) = K (.int k (iand k a b)) := QS_eq fun w => run_bits.1
theorem qb_or : QBin P m G w0 K tg .or t x y (.int k a) (.int k b) = K (.int k (ior k a b)) := QS_eq fun w => run_bits.2.1
theorem qb_xor : QBin P m G w0 K tg .xor t x y (.int k a) (.int k b) = K (.int k (ixor k a b)) := QS_eq fun w => run_bits.2.2
theorem qb_shl : QBin P m G w0 K tg .shl t x y (.int k a) (.int k' (n : Int)) = K (.int k (ishl k a n)) := QS_eq fun w => run_shift.1
theorem qb_shr : QBin P m G w0 K tg .shr t x y (.int k a) (.int k' (n : Int)) = K (.int k (ishr k a n)) := QS_eq fun w => run_shift.2
theorem qb_shl_lit : QBin P m G w0 K tg .shl t x y (.int k a) (.int k' (no_index (@OfNat.ofNat Int n instOfNat))) = K (.int k (ishl k a n)) := qb_shl
theorem qb_shr_lit : QBin P m G w0 K tg .shr t x y (.int k a) (.int k' (no_index (@OfNat.ofNat Int n instOfNat))) = K (.int k (ishr k a n)) := qb_shr
theorem qb_seql {a b : List UInt8} : QBin P m G w0 K tg .eql t x y (.string ⟨a.toArray⟩) (.string ⟨b.toArray⟩) = K (.bool (decide (a = b))) := QS_eq fun w => run_strs.1
theorem qb_sneq {a b : List UInt8} : QBin P m G w0 K tg .neq t x y (.string ⟨a.toArray⟩) (.string ⟨b.toArray⟩) = K (.bool (decide (¬ a = b))) := QS_eq fun w => run_strs.2
theorem qx_sadd {a b : List UInt8} (hl : a.length + b.length ≤ 9223372036854775807) (h : K (.string ⟨(a ++ b).toArray⟩)) : QBin P m G w0 K tg .add t x y (.string ⟨a.toArray⟩) (.string ⟨b.toArray⟩) := QS_of (fun w _ => run_sadd hl) h
theorem qb_beql {a b : Bool} (h : P.underlying t = some .bool) : QBin P m G w0 K tg .eql t x y (.bool a) (.bool b) = K (.bool (decide (a = b))) := QS_eq fun w => (run_bools h).1
theorem qb_bneq {a b : Bool} (h : P.underlying t = some .bool) : QBin P m G w0 K tg .neq t x y (.bool a) (.bool b) = K (.bool (decide (¬ a = b))) := QS_eq fun w => (run_bools h).2
theorem qcv_int {s t : TypeId} {td : TypeDesc} (hs : P.underlying s = some td) (ht : P.underlying t = some (.int k')) : QS P m G w0 K tg (convert s t (.int k a)) = K (.int k' (k'.wrap a)) := QS_eq fun w => run_cvint hs ht
theorem qx_sidx {t : TypeId} {k : IntKind} {i : Int} {l : List UInt8} (ht : P.underlying t = some .string) (h0 : 0 ≤ i) (h1 : i < (l.length : Int)) (h : K (.int .u8 ((l.getD i.toNat 0).toNat : Int))) : QS P m G w0 K tg (Instr.index t (.string ⟨l.toArray⟩) (.int k i)) := QS_of (fun w _ => run_sidx ht h0 h1) h
end
section
variable {n : Nat} {w0 w : World} {L : List Ck} {α β : Type}
theorem Sep.swapTo {M : List Ck} (H : Sep n w0 w L) (hp : (fps L).Perm (fps M)) (hc : ∀ c ∈ M, c.A w) : Sep n w0 w M := ⟨H.bel, H.ns, hp.nodup_iff.1 H.nd, fun b hb => H.lo b (hp.mem_iff.2 hb), hc⟩
theorem Sep.pair {d : Kd α} {d' : Kd β} {f f' : List Nat} {cs cs' : List Value} {x : α} {y : β} (H : Sep n w0 w (Ck.own d f cs x :: Ck.own d' f' cs' y :: L)) : Sep n w0 w (Ck.own (Kd.pair d d') (f ++ f') (cs ++ cs') (x, y) :: L) := by
  have e : fps (Ck.own (Kd.pair d d') (f ++ f') (cs ++ cs') (x, y) :: L) = fps (Ck.own d f cs x :: Ck.own d' f' cs' y :: L) := by simp only [fps, Ck.own_fp, List.append_assoc]
  refine H.swapTo (by rw [e]) fun c hc => ?_
  rcases List.mem_cons.1 hc with rfl | hc
  · have hnd := H.nd
    simp only [fps, Ck.own_fp, ← List.append_assoc] at hnd; exact ⟨⟨cs, cs', f, f', rfl, rfl, H.ok _ (.head _), H.ok _ (.tail _ (.head _))⟩, (List.nodup_append.1 hnd).1⟩
  · exact H.ok _ (.tail _ (.tail _ hc))
theorem Sep.unpair {d : Kd α} {d' : Kd β} {fp : List Nat} {cs : List Value} {x : α × β} (H : Sep n w0 w (Ck.own (Kd.pair d d') fp cs x :: L)) : ∃ f f' a b, cs = a ++ b ∧ fp = f ++ f' ∧ Sep n w0 w (Ck.own d f a x.1 :: Ck.own d' f' b x.2 :: L) := by
  obtain ⟨⟨a, b, f, f', h1, h2, h3, h4⟩, h5⟩ := (show (Kd.pair d d').ow w fp cs x from H.ok _ (.head _)); refine ⟨f, f', a, b, h1, h2, H.swapTo ?_ fun c hc => ?_⟩
  · simp only [fps, Ck.own_fp, h2, List.append_assoc]; exact List.Perm.refl _
  · rcases List.mem_cons.1 hc with rfl | hc
    · exact h3
    · rcases List.mem_cons.1 hc with rfl | hc
      · exact h4
      · exact H.ok _ (.tail _ hc)
theorem Sep.plain {d : Kd α} {f : α → Value} {R : α → Prop} (hp : IsPlain d f R) {x : α} (H : Sep n w0 w L) (hx : R x) : Sep n w0 w (Ck.own d [] [f x] x :: L) :=
  H.swapTo (by simp only [fps, Ck.own_fp, List.nil_append]; exact List.Perm.refl _) fun c hc => by
    rcases List.mem_cons.1 hc with rfl | hc
    · exact hp.ow.2 ⟨⟨rfl, hx⟩, rfl⟩
    · exact H.ok _ hc
theorem Sep.iso {d : Kd α} {f : β → α} {fp : List Nat} {cs : List Value} {y : β} {x : α} (H : Sep n w0 w (Ck.own d fp cs x :: L)) (h : f y = x := by rfl) : Sep n w0 w (Ck.own (d.iso f) fp cs y :: L) := by subst h; exact H
theorem Sep.head {c : Ck} (H : Sep n w0 w (c :: L)) : Sep n w0 w [c] := by
  refine ⟨H.bel, H.ns, ?_, fun b hb => H.lo b ?_, fun d hd => ?_⟩
  · have := (List.nodup_append.1 H.nd).1; simpa [fps] using this
  · simp only [fps, List.append_nil] at hb; exact List.mem_append_left _ hb
  · simp only [List.mem_singleton] at hd; subst hd; exact H.ok _ (.head _)
theorem Sep.front {c : Ck} {M : List Ck} (H : Sep n w0 w L) (h : Out c L M := by repeat (first | exact Out.here | apply Out.there)) : Sep n w0 w (c :: M) := H.out h
end
section
variable {P : Program} {n : Nat} {w0 w : World} {L : List Ck} {K : Value → World → Prop} {tg : Tg K} {α : Type} {d : Kd α}
end
section
variable {P : Program} {n : Nat} {w0 w : World} {L : List Ck} {K : Value → World → Prop} {tg : Tg K} {α : Type} {d : Kd α} {f : FuncId} {args : Array Value} {v : Value}
theorem x_callw (c : ACalls P f args w fun r w' => r = v ∧ w' = w) (h : K v w) : ACall P f K tg args w := x_call c fun _ _ ⟨e1, e2⟩ => by rw [e1, e2]; exact h
theorem x_callb (H : Sep n w0 w L) (c : ACalls P f args w fun r w' => r = v ∧ Below w.heap.size w w') (h : ∀ w', Sep n w0 w' L → K v w') : ACall P f K tg args w := x_call c fun _ _ ⟨e1, e2⟩ => by rw [e1]; exact h _ (H.go e2)
theorem x_callf (H : Sep n w0 w L) {x : α} (c : ACalls P f args w fun r w' => ∃ fp, Sep w.heap.size w w' [Ck.own d fp [r] x]) (h : ∀ r fp w', Sep n w0 w' (Ck.own d fp [r] x :: L) → K r w') : ACall P f K tg args w := x_call c fun _ _ ⟨_, S⟩ => h _ _ _ (H.join S)
end
end Go.Proofs.YtcmckbgiiclomabGreatDoor.V
