/- A region whose order the tape picks: a plan (which operations are taken first, which call or store comes then), checked by the kernel, and its walk in the plan's order. -/
import Derived.Test.YtcmckbgiiclomaaGreatDoorVg
namespace Go.Proofs.YtcmckbgiiclomaaGreatDoor.V
open Go Go.RowKit

/-- The blocks below n are as they were; of those of G, but so many cells at the least. -/
def Kept (n : Nat) (G : List (Nat × Nat)) (w0 w : World) : Prop := (n ≤ w0.heap.size → n ≤ w.heap.size) ∧ (∀ b, b < n → (∀ t, (b, t) ∉ G) → w.heap[b]? = w0.heap[b]?) ∧ ∀ g t, (g, t) ∈ G → g < n → ∀ j, j < t → w.cell? ⟨g, j, none⟩ = w0.cell? ⟨g, j, none⟩
theorem Kept.refl (n : Nat) (G : List (Nat × Nat)) (w : World) : Kept n G w w := ⟨fun h => h, fun _ _ _ => rfl, fun _ _ _ _ _ _ => rfl⟩
theorem Kept.cell {n : Nat} {G : List (Nat × Nat)} {w0 w : World} (h : Kept n G w0 w) {a : Addr} (ha : a.block < n) (hG : ∀ t, (a.block, t) ∉ G) : w.cell? a = w0.cell? a := World.cell?_of_block (h.2.1 a.block ha hG)
theorem Kept.below {n : Nat} {G : List (Nat × Nat)} {w0 w w' : World} (h : Kept n G w0 w) (hb : Below n w w') : Kept n G w0 w' := ⟨fun h0 => Nat.le_trans (h.1 h0) hb.size, fun b hn hG => (hb.block b hn).trans (h.2.1 b hn hG), fun g t hg hn j hj => (hb.cell (p := ⟨g, j, none⟩) hn).trans (h.2.2 g t hg hn j hj)⟩

/-- A plan: (i, true): operation i is taken first; (i, false): it is the only one that may come. -/
def planOk (ops : Array Oper) : List (Nat × Bool) → Array Bool → Bool
  | [], listed => (Region.ready .any ops listed).isEmpty
  | (i, true) :: rest, listed => Region.free .any ops listed i && (Region.ready .any ops listed).contains i && planOk ops rest (listed.setIfInBounds i true)
  | (i, false) :: rest, listed => (Region.ready .any ops listed == [i]) && planOk ops rest (listed.setIfInBounds i true)

/-- A quiet operation: one value in every world that is kept. -/
def qop (P : Program) (S : World → Prop) (o : Oper) (s : Sl) (K : Value → Prop) : Prop := ∃ v, (∀ w, S w → (execOp (ev s) o).run P w = .ok (.value v) w) ∧ K v

/-- The plan's walk. -/
def dpl (P : Program) (ops : Array Oper) (S : World → Prop) (K : Sl → World → Prop) : List (Nat × Bool) → Sl → World → Prop
  | [], s, w => K s w
  | (i, true) :: rest, s, w => match ops[i]? with
    | some o => if Region.wanted o (yl ops s) = true then qop P S o s fun v => dpl P ops S K rest (putS s o.dst v) w else dpl P ops S K rest (putS s o.dst undef) w
    | none => False
  | (i, false) :: rest, s, w => aopI P ops i s w fun s' w' => S w' ∧ dpl P ops S K rest s' w'

theorem dpl_sound {P : Program} {ops : Array Oper} {S : World → Prop} {K : Sl → World → Prop} (hs : Region.noSelect ops = true) :
    ∀ (l : List (Nat × Bool)) (k : Nat) (listed : Array Bool) (s : Sl) (w : World), planOk ops l listed = true → l.length ≤ k → S w → dpl P ops S K l s w → adr P ops K S k listed s w
  | [], k, listed, s, w, hp, _, _, h => adr_done (by simpa [planOk] using hp) h
  | (i, true) :: rest, k, listed, s, w, hp, hk, hS, h => by
    simp only [planOk, Bool.and_eq_true] at hp
    obtain ⟨k, rfl⟩ : ∃ m, k = m + 1 := ⟨k - 1, by simp at hk; omega⟩
    simp only [dpl] at h
    cases ho : ops[i]? with
    | none => rw [ho] at h; exact h.elim
    | some o =>
      rw [ho] at h
      simp only at h
      by_cases hw : Region.wanted o (yl ops s) = true
      · rw [if_pos hw] at h
        obtain ⟨v, hv, h⟩ := h
        exact adr_take i ho hs hp.1.1 hp.1.2 hS (.inl ⟨hw, hv⟩) (dpl_sound hs rest k _ _ _ hp.2 (by simp at hk; omega) hS h)
      · rw [if_neg hw] at h
        exact adr_take i ho hs hp.1.1 hp.1.2 hS (.inr ⟨by simpa using hw, rfl⟩) (dpl_sound hs rest k _ _ _ hp.2 (by simp at hk; omega) hS h)
  | (i, false) :: rest, k, listed, s, w, hp, hk, _, h => by
    simp only [planOk, Bool.and_eq_true, beq_iff_eq] at hp
    obtain ⟨k, rfl⟩ : ∃ m, k = m + 1 := ⟨k - 1, by simp at hk; omega⟩
    refine adr_all [i] hp.1 (by simp) fun j hj => ?_
    simp only [List.mem_singleton] at hj
    subst hj
    have h' : aopI P ops j s w fun s' w' => S w' ∧ dpl P ops S K rest s' w' := h
    unfold aopI at h' ⊢
    cases ho : ops[j]? with
    | none => rw [ho] at h'; exact h'
    | some o =>
      rw [ho] at h'
      simp only at h' ⊢
      split
      · rename_i hw
        rw [if_pos hw] at h'
        exact aop_mono h' fun v w' hv => ⟨hv.1, dpl_sound hs rest k _ _ _ hp.2 (by simp at hk; omega) hv.1 hv.2⟩
      · rename_i hw
        rw [if_neg hw] at h'
        exact ⟨h'.1, dpl_sound hs rest k _ _ _ hp.2 (by simp at hk; omega) h'.1 h'.2⟩

/-! ### marked words -/
def Dpl (P : Program) (ops : Array Oper) (n : Nat) (G : List (Nat × Nat)) (w0 : World) (K : Sl → World → Prop) (l : List (Nat × Bool)) (_ : Tg (ops, n, G, w0, K, l)) (s : Sl) (w : World) : Prop := dpl P ops (Kept n G w0) K l s w
/-- A region that draws: by a plan, what lies below n kept but for the blocks of G. -/
theorem draw_of {P : Program} {l : List Oper} {K : Sl → World → Prop} {tg : Tg (l.toArray, K)} {s : Sl} {w : World} (pl : List (Nat × Bool)) (n : Nat) (G : List (Nat × Nat)) (h : ∀ w1, w1.heap = w.heap → (∀ m, Below m w w1) → Dpl P l.toArray n G w1 K pl .mk s w1)
    (hs : Region.noSelect l.toArray = true := by kernel_rfl) (hp : planOk l.toArray pl (Array.replicate l.toArray.size false) = true := by kernel_rfl) (hl : pl.length ≤ l.toArray.size := by decide) : Adraw P l.toArray K tg s w :=
  adraw_of (Kept n G w.drew) (dpl_sound hs pl _ _ _ _ hp hl (Kept.refl ..) (h w.drew rfl fun m => (Below.refl m w).drew))

/-- The same: all that was there is kept. -/
theorem draw_at {P : Program} {l : List Oper} {K : Sl → World → Prop} {tg : Tg (l.toArray, K)} {s : Sl} {w : World} (pl : List (Nat × Bool)) (h : ∀ w1, w1.heap = w.heap → (∀ m, Below m w w1) → Dpl P l.toArray w1.heap.size [] w1 K pl .mk s w1)
    (hs : Region.noSelect l.toArray = true := by kernel_rfl) (hp : planOk l.toArray pl (Array.replicate l.toArray.size false) = true := by kernel_rfl) (hl : pl.length ≤ l.toArray.size := by decide) : Adraw P l.toArray K tg s w :=
  adraw_of (Kept w.drew.heap.size [] w.drew) (dpl_sound hs pl _ _ _ _ hp hl (Kept.refl ..) (h w.drew rfl fun m => (Below.refl m w).drew))

/-- A quiet computation. -/
def QS (P : Program) (n : Nat) (G : List (Nat × Nat)) (w0 : World) (K : Value → Prop) (_ : Tg (n, G, w0, K)) (x : Sem Value) : Prop := ∃ v, (∀ w, Kept n G w0 w → x.run P w = .ok v w) ∧ K v
def Qop (P : Program) (n : Nat) (G : List (Nat × Nat)) (w0 : World) (o : Oper) (K : Value → Prop) (_ : Tg (n, G, w0, o, K)) (s : Sl) : Prop := qop P (Kept n G w0) o s K

section
variable {P : Program} {l : List Oper} {n : Nat} {G : List (Nat × Nat)} {w0 : World} {K : Sl → World → Prop} {s : Sl} {w : World}
theorem dp_nil {t : Tg (l.toArray, n, G, w0, K, ([] : List (Nat × Bool)))} : Dpl P l.toArray n G w0 K [] t s w = K s w := rfl
theorem dp_take {i : Nat} {rest : List (Nat × Bool)} {t : Tg (l.toArray, n, G, w0, K, (i, true) :: rest)} : Dpl P l.toArray n G w0 K ((i, true) :: rest) t s w =
    (∃ o, l[i]? = some o ∧ If (Qop P n G w0 o (fun v => Dpl P l.toArray n G w0 K rest .mk (putS s o.dst v) w) .mk s) (Dpl P l.toArray n G w0 K rest .mk (putS s o.dst undef) w) .mk (Region.wanted o (yl l.toArray s) = true)) := by
  simp only [Dpl, dpl, List.getElem?_toArray, Qop, If]
  cases l[i]? with
  | none => simp
  | some o => by_cases hw : Region.wanted o (yl l.toArray s) = true <;> simp [hw]
theorem dp_all {i : Nat} {rest : List (Nat × Bool)} {t : Tg (l.toArray, n, G, w0, K, (i, false) :: rest)} : Dpl P l.toArray n G w0 K ((i, false) :: rest) t s w =
    ∃ o, l[i]? = some o ∧ If (Aop P o (fun v w' => Kept n G w0 w' ∧ Dpl P l.toArray n G w0 K rest .mk (putS s o.dst v) w') .mk s w) (Kept n G w0 w ∧ Dpl P l.toArray n G w0 K rest .mk (putS s o.dst undef) w) .mk (Region.wanted o (yl l.toArray s) = true) := by
  simp only [Dpl, dpl, aopI, List.getElem?_toArray, Aop, If]
  cases l[i]? with
  | none => simp
  | some o => by_cases hw : Region.wanted o (yl l.toArray s) = true <;> simp [hw]
theorem wanted_none {d : Option Tmp} {op : Op} {ty : TypeId} {pos : String} {af : Array Edge} {f : Nat → Option Bool} : (Region.wanted ⟨d, op, ty, pos, af, none⟩ f = true) = True := by simp [Region.wanted]
theorem wanted_some {d : Option Tmp} {op : Op} {ty : TypeId} {pos : String} {af : Array Edge} {f : Nat → Option Bool} {j : Nat} {b : Bool} : (Region.wanted ⟨d, op, ty, pos, af, some (j, b)⟩ f = true) = (f j = some b) := by simp [Region.wanted]
end

section
variable {P : Program} {n : Nat} {G : List (Nat × Nat)} {w0 : World} {K : Value → Prop} {tg : Tg (n, G, w0, K)} {s : Sl} {d : Option Tmp} {ty : TypeId} {pos : String} {af : Array Edge} {g : Option (Nat × Bool)}
theorem QS_eq {x : Sem Value} {v : Value} (h : ∀ w, x.run P w = .ok v w) : QS P n G w0 K tg x = K v := by
  unfold QS
  apply propext
  constructor
  · rintro ⟨v', hv, hk⟩
    have h1 := hv w0 (Kept.refl ..)
    rw [h w0] at h1
    cases h1
    exact hk
  · exact fun hk => ⟨v, fun w _ => h w, hk⟩
theorem QS_of {x : Sem Value} {v : Value} (h : ∀ w, Kept n G w0 w → x.run P w = .ok v w) (hk : K v) : QS P n G w0 K tg x := ⟨v, h, hk⟩
theorem qop_v {o : Oper} {x : Sem Value} (h : execOp (ev s) o = (do pure (.value (← x)))) {t : Tg (n, G, w0, o, K)} : Qop P n G w0 o K t s = QS P n G w0 K .mk x := by
  unfold Qop qop QS
  rw [h]
  have e : ∀ w v, ((do pure (.value (← x)) : Sem Next).run P w = .ok (.value v) w) = (x.run P w = .ok v w) := by
    intro w v
    simp only [Sem.run_bind]
    cases x.run P w <;> simp
  simp only [e]
theorem qop_now {o : Oper} {v : Value} (h : execOp (ev s) o = pure (.value v)) {t : Tg (n, G, w0, o, K)} : Qop P n G w0 o K t s = K v := by
  unfold Qop qop
  rw [h]
  apply propext
  constructor
  · rintro ⟨v', hv, hk⟩
    have h1 := hv w0 (Kept.refl ..)
    simp only [Sem.run_pure, Result.ok.injEq, Next.value.injEq, and_true] at h1
    rw [h1]; exact hk
  · exact fun hk => ⟨v, fun w _ => rfl, hk⟩
theorem q_move {x : Operand} {t : Tg (n, G, w0, (⟨d, .move x, ty, pos, af, g⟩ : Oper), K)} : Qop P n G w0 ⟨d, .move x, ty, pos, af, g⟩ K t s = K (ev s x) := qop_now rfl
theorem q_assign {x : Operand} {t : Tg (n, G, w0, (⟨d, .assign x, ty, pos, af, g⟩ : Oper), K)} : Qop P n G w0 ⟨d, .assign x, ty, pos, af, g⟩ K t s = K (ev s x) := qop_now rfl
def QPick (K : Value → Prop) (_ : Tg K) (c a b : Value) : Prop := ∃ t, c = .bool t ∧ K (if t = true then a else b)
theorem q_pick {c a b : Operand} {t : Tg (n, G, w0, (⟨d, .pick c a b, ty, pos, af, g⟩ : Oper), K)} : Qop P n G w0 ⟨d, .pick c a b, ty, pos, af, g⟩ K t s = QPick K .mk (ev s c) (ev s a) (ev s b) := by
  unfold Qop qop QPick
  apply propext
  simp only [execOp]
  cases h : ev s c with
  | bool t =>
    simp only [asBool, Value.bool.injEq, exists_eq_left']
    constructor
    · rintro ⟨v', hv, hk⟩
      have h1 := hv w0 (Kept.refl ..)
      simp only [pure_bind, Sem.run_pure, Result.ok.injEq, Next.value.injEq, and_true] at h1
      rw [h1]; exact hk
    · exact fun hk => ⟨_, fun w _ => by simp, hk⟩
  | _ =>
    simp only [asBool, reduceCtorEq, false_and, exists_false, iff_false, not_exists, not_and]
    intro v hv
    have h1 := hv w0 (Kept.refl ..)
    simp at h1
theorem qpick_bool {c : Bool} {a b : Value} {t : Tg K} : QPick K t (.bool c) a b = K (if c = true then a else b) := by simp [QPick]
theorem q_load {y : TypeId} {a : Operand} {t : Tg (n, G, w0, (⟨d, .load y a, ty, pos, af, g⟩ : Oper), K)} : Qop P n G w0 ⟨d, .load y a, ty, pos, af, g⟩ K t s = QS P n G w0 K .mk (Instr.loadAt y (ev s a)) := qop_v rfl
def QBin (P : Program) (n : Nat) (G : List (Nat × Nat)) (w0 : World) (K : Value → Prop) (_ : Tg (n, G, w0, K)) (op : BinOp) (y : TypeId) (x z : Operand) (a b : Value) : Prop := QS P n G w0 K .mk (do eqGuard op y x z a b; binOp op y a b)
theorem q_bin {op : BinOp} {y : TypeId} {x z : Operand} {y2 : TypeId} {t : Tg (n, G, w0, (⟨d, .binOp op y x z y2, ty, pos, af, g⟩ : Oper), K)} : Qop P n G w0 ⟨d, .binOp op y x z y2, ty, pos, af, g⟩ K t s = QBin P n G w0 K .mk op y x z (ev s x) (ev s z) := qop_v rfl
theorem q_un {op : UnOp} {y : TypeId} {x : Operand} {t : Tg (n, G, w0, (⟨d, .unOp op y x, ty, pos, af, g⟩ : Oper), K)} : Qop P n G w0 ⟨d, .unOp op y x, ty, pos, af, g⟩ K t s = QS P n G w0 K .mk (Op.unary op (ev s x)) := qop_v rfl
theorem q_convert {a b : TypeId} {x : Operand} {t : Tg (n, G, w0, (⟨d, .convert a b x, ty, pos, af, g⟩ : Oper), K)} : Qop P n G w0 ⟨d, .convert a b x, ty, pos, af, g⟩ K t s = QS P n G w0 K .mk (convert a b (ev s x)) := qop_v rfl
theorem q_slice {y : TypeId} {x : Operand} {lo hi mx : Option Operand} {t : Tg (n, G, w0, (⟨d, .slice y x lo hi mx, ty, pos, af, g⟩ : Oper), K)} : Qop P n G w0 ⟨d, .slice y x lo hi mx, ty, pos, af, g⟩ K t s = QS P n G w0 K .mk (Instr.sliceAt y (ev s x) (lo.map (ev s)) (hi.map (ev s)) (mx.map (ev s))) := qop_v rfl
theorem q_fieldAddr {y : TypeId} {x : Operand} {f : Nat} {t : Tg (n, G, w0, (⟨d, .fieldAddr y x f, ty, pos, af, g⟩ : Oper), K)} : Qop P n G w0 ⟨d, .fieldAddr y x f, ty, pos, af, g⟩ K t s = QS P n G w0 K .mk (Instr.fieldAt y (ev s x) f) := qop_v rfl
theorem q_indexAddr {y : TypeId} {x i : Operand} {t : Tg (n, G, w0, (⟨d, .indexAddr y x i, ty, pos, af, g⟩ : Oper), K)} : Qop P n G w0 ⟨d, .indexAddr y x i, ty, pos, af, g⟩ K t s = QS P n G w0 K .mk (Instr.indexAt y (ev s x) (ev s i)) := qop_v rfl
theorem q_index {y : TypeId} {x i : Operand} {t : Tg (n, G, w0, (⟨d, .index y x i, ty, pos, af, g⟩ : Oper), K)} : Qop P n G w0 ⟨d, .index y x i, ty, pos, af, g⟩ K t s = QS P n G w0 K .mk (Instr.index y (ev s x) (ev s i)) := qop_v rfl
theorem q_extract {x : Operand} {i : Nat} {t : Tg (n, G, w0, (⟨d, .extract x i, ty, pos, af, g⟩ : Oper), K)} : Qop P n G w0 ⟨d, .extract x i, ty, pos, af, g⟩ K t s = QS P n G w0 K .mk (Instr.extract (ev s x) i) := qop_v rfl
theorem q_build {y : TypeId} {ps : List (Nat × Operand)} {t : Tg (n, G, w0, (⟨d, .build y ps.toArray, ty, pos, af, g⟩ : Oper), K)} : Qop P n G w0 ⟨d, .build y ps.toArray, ty, pos, af, g⟩ K t s = QS P n G w0 K .mk (Instr.build y (ps.map fun p => (p.1, ev s p.2)).toArray) := by
  rw [show (ps.map fun p => (p.1, ev s p.2)).toArray = ps.toArray.map fun p => (p.1, ev s p.2) by simp]; exact qop_v rfl
def QLen (P : Program) (n : Nat) (G : List (Nat × Nat)) (w0 : World) (K : Value → Prop) (_ : Tg (n, G, w0, K)) (ts : Array TypeId) (ty : TypeId) (xs : List Value) : Prop := QS P n G w0 K .mk (Builtin.len_ ts ty xs.toArray)
theorem q_len {xs : List Operand} {ts : Array TypeId} {t : Tg (n, G, w0, (⟨d, .call ⟨.builtin .len, xs.toArray, ts⟩, ty, pos, af, g⟩ : Oper), K)} : Qop P n G w0 ⟨d, .call ⟨.builtin .len, xs.toArray, ts⟩, ty, pos, af, g⟩ K t s = QLen P n G w0 K .mk ts ty (xs.map (ev s)) := by
  unfold QLen
  rw [show (xs.map (ev s)).toArray = xs.toArray.map (ev s) by simp]; exact qop_v rfl

variable {y : TypeId} {x z : Operand} {k : IntKind} {a b : Int}
theorem qb_add : QBin P n G w0 K tg .add y x z (.int k a) (.int k b) = K (.int k (k.wrap (a + b))) := QS_eq fun w => by simp [eqGuard, binOp, Op.intArith]
theorem qb_sub : QBin P n G w0 K tg .sub y x z (.int k a) (.int k b) = K (.int k (k.wrap (a - b))) := QS_eq fun w => by simp [eqGuard, binOp, Op.intArith]
theorem qb_mul : QBin P n G w0 K tg .mul y x z (.int k a) (.int k b) = K (.int k (k.wrap (a * b))) := QS_eq fun w => by simp [eqGuard, binOp, Op.intArith]
theorem qb_lss : QBin P n G w0 K tg .lss y x z (.int k a) (.int k b) = K (.bool (decide (a < b))) := QS_eq fun w => by simp [eqGuard, binOp, Op.intCmp]
theorem qb_leq : QBin P n G w0 K tg .leq y x z (.int k a) (.int k b) = K (.bool (decide (a ≤ b))) := QS_eq fun w => by simp [eqGuard, binOp, Op.intCmp]
theorem qb_gtr : QBin P n G w0 K tg .gtr y x z (.int k a) (.int k b) = K (.bool (decide (b < a))) := QS_eq fun w => by simp [eqGuard, binOp, Op.intCmp]
theorem qb_geq : QBin P n G w0 K tg .geq y x z (.int k a) (.int k b) = K (.bool (decide (b ≤ a))) := QS_eq fun w => by simp [eqGuard, binOp, Op.intCmp]
theorem qb_eql : QBin P n G w0 K tg .eql y x z (.int k a) (.int k b) = K (.bool (decide (a = b))) := QS_eq fun w => by
  have : (a == b) = decide (a = b) := by by_cases h : a = b <;> simp [h]
  simp [eqGuard, binOp, Op.intCmp, this]
theorem qb_neq : QBin P n G w0 K tg .neq y x z (.int k a) (.int k b) = K (.bool (decide (¬ a = b))) := QS_eq fun w => by
  have : (a != b) = decide (¬ a = b) := by by_cases h : a = b <;> simp [h]
  simp [eqGuard, binOp, Op.intCmp, this]
theorem qu_not {c : Bool} : QS P n G w0 K tg (Op.unary .not (.bool c)) = K (.bool (!c)) := QS_eq fun w => rfl
theorem qlen_slice {e ty : TypeId} {A : Option Addr} {m c : Nat} (h : P.underlying y = some (.slice e)) : QLen P n G w0 K tg #[y] ty [.slice A m c] = K (.int .i64 (m : Int)) := QS_eq fun w => by simp [Builtin.len_, run_underlying' h, goInt]
theorem qlen_str {ty : TypeId} {l : List UInt8} (h : P.underlying y = some .string) : QLen P n G w0 K tg #[y] ty [.string ⟨l.toArray⟩] = K (.int .i64 (l.length : Int)) := QS_eq fun w => by simp [Builtin.len_, run_underlying' h, goInt, str_size]
theorem qx_index {t e : TypeId} {sz b : Nat} {z : Value} (H : SlT P t e sz b z) {A : Option Addr} {m c : Nat} {k : IntKind} {i : Int} (hA : A.isSome = true) (h0 : 0 ≤ i) (h1 : i < (m : Int))
    (h : K (.pointer (some ((adA A).add (i.toNat * sz))))) : QS P n G w0 K tg (Instr.indexAt t (.slice A m c) (.int k i)) := by
  refine QS_of (fun w _ => ?_) h
  obtain ⟨ad, rfl⟩ := Option.isSome_iff_exists.1 hA
  obtain ⟨inf, hi, hs, _, _⟩ := H.inf
  simp [Instr.indexAt, asIntOf, run_underlying' H.un, run_sizeOf' hi hs, h0, h1, adA]
theorem qfieldAddr_st {t : TypeId} {fs : Array Field} (H : P.underlying t = some (.struct fs)) {f : Nat} {fd : Field} {a : Addr} {off : Nat} (hf : fs[f]? = some fd) (hi : (match P.info? fd.type with | some i => decide (i.size ≠ 0) && fd.offset == off | none => false) = true) :
    QS P n G w0 K tg (Instr.fieldAt t (.pointer (some a)) f) = K (.pointer (some (a.add off))) := by
  cases hq : P.info? fd.type with
  | none => rw [hq] at hi; cases hi
  | some i =>
    rw [hq] at hi
    simp only [Bool.and_eq_true, decide_eq_true_eq, beq_iff_eq] at hi
    rw [← hi.2]
    exact QS_eq fun w => by simp [Instr.fieldAt, run_underlying' H, hf, Instr.sureAddr, fieldPlace, run_sizeOf' hq rfl, hi.1]
theorem qx_load {e : TypeId} {z v : Value} (H : ScT P e z) {a : Addr} (hc : w0.cell? a = some v) (hb : a.block < n) (hG : ∀ t, (a.block, t) ∉ G) (h : K v) : QS P n G w0 K tg (Instr.loadAt e (.pointer (some a))) := by
  refine QS_of (fun w hw => ?_) h
  simp [Instr.loadAt, Instr.sureAddr, loadVar, run_isAgg_sc H, hw.cell hb hG, hc]
theorem qx_loadAgg {t : TypeId} {sz : Nat} {z : Array Value} (H : StT P t sz z) {a : Addr} (cs : List Value) (hl : cs.length = sz) (hc : ∀ j v, cs[j]? = some v → w0.cell? (a.add j) = some v) (hb : a.block < n) (hG : ∀ t, (a.block, t) ∉ G)
    (h : K (.agg cs.toArray)) : QS P n G w0 K tg (Instr.loadAt t (.pointer (some a))) := by
  refine QS_of (fun w hw => ?_) h
  obtain ⟨fs, hu⟩ := H.un
  obtain ⟨inf, hi, hs, _⟩ := H.inf
  have hc' := run_loadCells_list (P := P) w a cs (fun j v hj => by rw [hw.cell (a := a.add j) (by rw [Kd.add_block]; exact hb) (by rw [Kd.add_block]; exact hG)]; exact hc j v hj)
  rw [hl] at hc'
  have ha : (isAgg t).run P w = .ok true w := by simp [isAgg, run_underlying' hu]
  simp [Instr.loadAt, Instr.sureAddr, loadVar, ha, run_sizeOf' hi hs, hc']
theorem qx_loadG {e : TypeId} {z v : Value} (H : ScT P e z) {g j t : Nat} (hc : w0.cell? ⟨g, j, none⟩ = some v) (hb : g < n) (hG : (g, t) ∈ G) (hj : j < t) (h : K v) : QS P n G w0 K tg (Instr.loadAt e (.pointer (some ⟨g, j, none⟩))) := by
  refine QS_of (fun w hw => ?_) h
  simp [Instr.loadAt, Instr.sureAddr, loadVar, run_isAgg_sc H, hw.2.2 g t hG hb j hj, hc]
end
end Go.Proofs.YtcmckbgiiclomaaGreatDoor.V
