/- Rules for memory: a walk's step at a load, a store, a new block, a slice, an append. -/
import Derived.Test.YtcmckbgiiclomaaGreatDoorVe
namespace Go.Proofs.YtcmckbgiiclomaaGreatDoor.V
open Go Go.RowKit

/-! ### a seat's types -/
section
variable {P : Program} {t e : TypeId} {sz b : Nat} {z : Value}
theorem SlT.of (h : P.underlying t = some (.slice e)) (hi : (P.info? e).map (fun i => (i.zero, i.size, i.bytes)) = some (some z, sz, b)) (hz : z.cells.size = sz) (hp : 0 < sz) : SlT P t e sz b z := by
  refine ⟨h, ?_, hz, hp⟩
  cases hq : P.info? e with
  | none => rw [hq] at hi; cases hi
  | some i => rw [hq] at hi; simp only [Option.map_some, Option.some.injEq, Prod.mk.injEq] at hi; exact ⟨i, rfl, hi.2.1, hi.2.2, hi.1⟩
theorem ScT.of (h : (match P.underlying e with | some (.struct _) | some (.array _ _) | none => false | _ => true) = true) (hi : (P.info? e).map (fun i => (i.zero, i.size)) = some (some z, 1)) : ScT P e z := by
  refine ⟨h, ?_⟩
  cases hq : P.info? e with
  | none => rw [hq] at hi; cases hi
  | some i => rw [hq] at hi; simp only [Option.map_some, Option.some.injEq, Prod.mk.injEq] at hi; exact ⟨i, rfl, hi.2, hi.1⟩
theorem StT.of {fs : Array Field} {cs : Array Value} (h : P.underlying t = some (.struct fs)) (hi : (P.info? t).map (fun i => (i.zero, i.size)) = some (some (.agg cs), sz)) (hz : cs.size = sz) : StT P t sz cs := by
  refine ⟨⟨fs, h⟩, ?_, hz⟩
  cases hq : P.info? t with
  | none => rw [hq] at hi; cases hi
  | some i => rw [hq] at hi; simp only [Option.map_some, Option.some.injEq, Prod.mk.injEq] at hi; exact ⟨i, rfl, hi.2, hi.1⟩
variable {w : World} {K : Value → World → Prop} {tg : Tg K}
theorem alloc_st {cs : Array Value} (H : StT P t sz cs) : VS P K tg (Instr.alloc t true (.tuple #[])) w = K (.pointer (some ⟨w.heap.size, 0, none⟩)) (w.alloc (.cells cs t)) := by
  obtain ⟨i, hi, _, hz⟩ := H.inf
  exact v_alloc hi hz
theorem alloc_sc {c : Array Value} (H : ScT P t z) (hc : z.cells = c) : VS P K tg (Instr.alloc t true (.tuple #[])) w = K (.pointer (some ⟨w.heap.size, 0, none⟩)) (w.alloc (.cells c t)) := by
  obtain ⟨i, hi, _, hz⟩ := H.inf
  rw [← hc]
  exact v_alloc hi hz
theorem fieldAddr_st {fs : Array Field} (H : P.underlying t = some (.struct fs)) {f : Nat} {fd : Field} {a : Addr} {off : Nat} (hf : fs[f]? = some fd) (hi : (match P.info? fd.type with | some i => decide (i.size ≠ 0) && fd.offset == off | none => false) = true) :
    VS P K tg (Instr.fieldAt t (.pointer (some a)) f) w = K (.pointer (some (a.add off))) w := by
  cases hq : P.info? fd.type with
  | none => rw [hq] at hi; cases hi
  | some i =>
    rw [hq] at hi
    simp only [Bool.and_eq_true, decide_eq_true_eq, beq_iff_eq] at hi
    rw [← hi.2]
    exact v_fieldAddr H hf hq rfl hi.1
theorem box_eq {v : Value} : VS P K tg (Instr.box t v) w = K (.pointer (some ⟨w.heap.size, 0, none⟩)) (w.alloc (.cells v.cells t)) := v_box
theorem extract_eq {vs : List Value} {i : Nat} : VS P K tg (Instr.extract (.tuple vs.toArray) i) w = ∃ v, vs[i]? = some v ∧ K v w := by
  unfold VS vS Instr.extract
  simp only [List.getElem?_toArray]
  cases vs[i]? <;> simp
theorem add_zero' {a : Addr} : a.add 0 = a := by simp [Addr.add]
end

/-! ### bytes -/
def encB (b : UInt8) : Value := .int .u8 (b.toNat : Int)
theorem encB_def (b : UInt8) : encB b = .int .u8 (b.toNat : Int) := rfl
theorem enc_inj {x y : UInt8} : ((x.toNat : Int) = (y.toNat : Int)) = (x = y) := by
  apply propext
  constructor
  · intro h; exact UInt8.toNat_inj.1 (by omega)
  · rintro rfl; rfl

abbrev bytes (e : TypeId) : Kd (List UInt8) := Kd.slice e Kd.u8

theorem rd_u8 {w : World} {n : Nat} {A : Option Addr} {l : List UInt8} : Kd.sliceRd Kd.u8 w n A l ↔ ∀ i (h : i < l.length), A.isSome = true ∧ (adA A).block < n ∧ w.cell? ((adA A).add i) = some (encB l[i]) := by
  constructor
  · intro h i hi
    obtain ⟨h1, h2, es, ⟨h3, _⟩, h4⟩ := h i hi
    refine ⟨h1, h2, ?_⟩
    have h5 := h4 0 Nat.zero_lt_one
    rw [h3] at h5
    have e1 : i * Kd.u8.sz + 0 = i := by show i * 1 + 0 = i; omega
    rw [e1] at h5
    exact h5
  · intro h i hi
    obtain ⟨h1, h2, h3⟩ := h i hi
    refine ⟨h1, h2, [encB l[i]], ⟨rfl, trivial⟩, fun j hj => ?_⟩
    have hj0 : j = 0 := by have : j < 1 := hj; omega
    subst hj0
    have e1 : i * Kd.u8.sz + 0 = i := by show i * 1 + 0 = i; omega
    rw [e1, h3]; rfl

theorem flat_one (l : List UInt8) : (l.map fun b => [encB b]).flatten = l.map encB := by induction l <;> simp_all
theorem flat_nil (l : List UInt8) : (l.map fun _ => ([] : List Nat)).flatten = [] := by induction l <;> simp_all

theorem ow_u8 {e : TypeId} {w : World} {fp : List Nat} {v : Value} {l : List UInt8} : (bytes e).ow w fp [v] l ↔ w.owR e 1 v l.length (l.map encB) ∧ fp = v.ownBlock.toList := by
  constructor
  · rintro ⟨v', rows, fps, hv, h⟩
    simp only [List.cons.injEq, and_true] at hv
    subst hv
    have hr : rows = l.map fun b => [encB b] := by
      apply List.ext_getElem
      · simp [h.lr]
      · intro i h1 h2
        have h3 := (h.el i (by rw [← h.lr]; exact h1)).1.1
        simp only [List.getElem_map]
        exact h3
    have hf : fps.flatten = [] := by
      rw [List.flatten_eq_nil_iff]
      intro f hf
      obtain ⟨i, hi, rfl⟩ := List.getElem_of_mem hf
      exact (h.el i (by rw [← h.lf]; exact hi)).2
    have h1 := h.row
    rw [hr, flat_one] at h1
    exact ⟨h1, by rw [h.hfp, hf, List.append_nil]⟩
  · rintro ⟨h1, h2⟩
    refine ⟨v, l.map (fun b => [encB b]), l.map (fun _ => []), rfl, ⟨by rw [flat_one]; exact h1, by simp, by simp, fun i hi => ?_, by rw [flat_nil, List.append_nil]; exact h2, ?_⟩⟩
    · simp only [List.getElem_map]
      exact ⟨⟨rfl, trivial⟩, rfl⟩
    · rw [h2]; cases v.ownBlock <;> simp

theorem ow_u8_row {e : TypeId} {w : World} {fp : List Nat} {v : Value} {l : List UInt8} (h : (bytes e).ow w fp [v] l) : w.owR e 1 v l.length (l.map encB) := (ow_u8.1 h).1

/-! ### steps -/
section
variable {P : Program} {w : World} {K : Value → World → Prop} {tg : Tg K}

theorem x_index {t e : TypeId} {sz b : Nat} {z : Value} (H : SlT P t e sz b z) {A : Option Addr} {n c : Nat} {k : IntKind} {i : Int} (hA : A.isSome = true) (h0 : 0 ≤ i) (h1 : i < (n : Int))
    (h : K (.pointer (some ((adA A).add (i.toNat * sz)))) w) : VS P K tg (Instr.indexAt t (.slice A n c) (.int k i)) w := by
  unfold VS; rw [v_index H hA h0 h1]; exact h
theorem x_load {e : TypeId} {z v : Value} (H : ScT P e z) {a : Addr} (hc : w.cell? a = some v) (h : K v w) : VS P K tg (Instr.loadAt e (.pointer (some a))) w := by
  unfold VS; rw [v_load H hc]; exact h
theorem x_loadAgg {t : TypeId} {sz : Nat} {z : Array Value} (H : StT P t sz z) {a : Addr} (cs : List Value) (hl : cs.length = sz) (hc : ∀ j v, cs[j]? = some v → w.cell? (a.add j) = some v)
    (h : K (.agg cs.toArray) w) : VS P K tg (Instr.loadAt t (.pointer (some a))) w := by
  unfold VS; rw [v_loadAgg H hl hc]; exact h
theorem x_store {e : TypeId} {z v old : Value} (H : ScT P e z) {a : Addr} (hc : w.cell? a = some old) (hf : w.frozen? a = false) (h1 : v.oneCell' = true) {tg : Tg K} (h : K undef (w.setCell a v)) :
    VU P K tg (Instr.storeAt e (.pointer (some a)) v) w := by
  unfold VU; rw [v_store H hc hf h1]; exact h
theorem x_box {t : TypeId} {v : Value} (h : K (.pointer (some ⟨w.heap.size, 0, none⟩)) (w.alloc (.cells v.cells t))) : VS P K tg (Instr.box t v) w := by
  unfold VS; rw [v_box]; exact h
theorem x_put {e : TypeId} {z v : Value} (H : ScT P e z) {g n c j : Nat} {xs : List Value} (ho : w.owR e 1 (.slice (some ⟨g, 0, none⟩) n c) n xs) (hj : j < n) (h1 : v.oneCell' = true) {tg : Tg K}
    (h : ∀ w', w'.owR e 1 (.slice (some ⟨g, 0, none⟩) n c) n (xs.set j v) → (∀ b, b ≠ g → w'.heap[b]? = w.heap[b]?) → Below g w w' → K undef w') : VU P K tg (Instr.storeAt e (.pointer (some ⟨g, j, none⟩)) v) w := by
  have hl : j < xs.length := by rw [ho.1]; omega
  rcases ho.2 with ⟨h1', _⟩ | ⟨g', cap, cur, h1', _, hh, hc, hm, hs, ht⟩
  · cases h1'
  cases h1'
  have hjc : j < cur.size := by omega
  refine x_store H (old := cur[j]) (by rw [Kd.cell_blk hh, Array.getElem?_eq_getElem hjc]) (frozen_of_row w g j _ e hh) h1 ?_
  refine h _ ⟨by rw [List.length_set]; exact ho.1, .inr ⟨g, c, _, rfl, Nat.zero_le _, heap_setCell_same w g j _ e v hh, hc, hm, by simpa using hs, ?_⟩⟩ (fun b hb => Below.heap_setCell _ _ _ _ hb) (Below.setCell (p := ⟨g, j, none⟩) (Below.refl _ _) (Nat.le_refl _) v)
  rw [Array.toList_setIfInBounds, List.take_set, ht]
theorem x_make {t e : TypeId} {sz b : Nat} {z : Value} (H : SlT P t e sz b z) {k k' : IntKind} {n : Nat} (hb : b * n ≤ 281474976710656) (hn : n ≤ 9223372036854775807)
    (h : ∀ w', w'.owR e sz (.slice (some ⟨w.heap.size, 0, none⟩) n n) n (madeCells z.cells (n * sz)).toList → Below w.heap.size w w' → w.heap.size < w'.heap.size → K (.slice (some ⟨w.heap.size, 0, none⟩) n n) w') :
    VS P K tg (Instr.makeSlice t (.int k (n : Int)) (.int k' (n : Int))) w := by
  obtain ⟨i, hi, hs, hby, hz⟩ := H.inf
  obtain ⟨w', hr, ho, hg⟩ := run_make_full (P := P) w 0 t e i z sz H.un hi hz hs k k' n (by rw [hby]; exact hb) (by simpa [maxLen] using hn) (Nat.zero_le _)
  refine vS_run hr (h w' (owR_of ho) ⟨hg.os, hg.tape, hg.output, hg.size, fun k hk => hg.block k hk (by simp)⟩ ?_)
  rcases ho.2 with ⟨h1, _⟩ | ⟨g, cap, cur, h1, _, h2, _⟩
  · cases h1
  · cases h1; exact (Array.getElem?_eq_some_iff.1 h2).1
end

/-! ### loops -/
theorem loop_of {P : Program} {b : Code} {Q : AX → Sl → World → Prop} {tg : Tg (b, Q)} {s : Sl} {w : World} {σ : Type} (J : σ → Sl → World → Prop) (m : σ → Nat) (x : σ) (h0 : J x s w)
    (hr : ∀ x s w, J x s w → Acode P b (Then (fun s' w' => ∃ x', J x' s' w' ∧ m x' < m x) Q .mk) .mk s w) : Loop P b Q tg s w := by
  have key : ∀ s w, (∃ x, J x s w) → ∃ n, (∃ x, J x s w ∧ m x = n) ∧ ∀ k, (∃ x, J x s w ∧ m x = k) → n ≤ k := by
    intro s w ⟨x, hx⟩
    have : ∀ n, (∃ x, J x s w ∧ m x = n) → ∃ n, (∃ x, J x s w ∧ m x = n) ∧ ∀ k, (∃ x, J x s w ∧ m x = k) → n ≤ k := by
      intro n
      induction n using Nat.strongRecOn with
      | _ n ih =>
        intro hn
        by_cases h : ∃ k, k < n ∧ ∃ x, J x s w ∧ m x = k
        · obtain ⟨k, hk, hx⟩ := h; exact ih k hk hx
        · exact ⟨n, hn, fun k hk => Nat.le_of_not_lt fun hlt => h ⟨k, hlt, hk⟩⟩
    exact this (m x) ⟨x, hx, rfl⟩
  refine ⟨fun s w => ∃ x, J x s w, fun s w => Classical.epsilon fun n => (∃ x, J x s w ∧ m x = n) ∧ ∀ k, (∃ x, J x s w ∧ m x = k) → n ≤ k, ⟨x, h0⟩, ?_⟩
  intro s w hI
  have hs := Classical.epsilon_spec (key s w hI)
  obtain ⟨⟨x, hx, hm⟩, _⟩ := hs
  have h1 := hr x s w hx
  refine acode_mono (fun e s' w' he => ?_) b s w h1
  cases e with
  | normal =>
    obtain ⟨x', hx', hlt⟩ := he
    refine ⟨⟨x', hx'⟩, ?_⟩
    have h2 := (Classical.epsilon_spec (key s' w' ⟨x', hx'⟩)).2 (m x') ⟨x', hx', rfl⟩
    rw [hm] at hlt
    exact Nat.lt_of_le_of_lt h2 hlt
  | exit i => exact he
  | ret => exact he


/-! ### loops, with the slots that matter -/
def Slots (s : Sl) : List (Nat × Value) → Prop
  | [] => True
  | (d, v) :: l => s d = v ∧ Slots s l
def putAll (s : Sl) : List (Nat × Value) → Sl
  | [] => s
  | (d, v) :: l => upd (putAll s l) d v
theorem slots_nil {s : Sl} : Slots s [] = True := rfl
theorem slots_cons {s : Sl} {d : Nat} {v : Value} {l : List (Nat × Value)} : Slots s ((d, v) :: l) = (s d = v ∧ Slots s l) := rfl
theorem putAll_nil {s : Sl} : putAll s [] = s := rfl
theorem putAll_cons {s : Sl} {d : Nat} {v : Value} {l : List (Nat × Value)} : putAll s ((d, v) :: l) = upd (putAll s l) d v := rfl
theorem Slots.put {s : Sl} : ∀ {l : List (Nat × Value)}, Slots s l → putAll s l = s
  | [], _ => rfl
  | (d, v) :: l, h => by
    rw [putAll_cons, h.2.put]
    funext t
    unfold upd
    split
    · rename_i e; rw [e, h.1]
    · rfl
theorem loop_at {P : Program} {b : Code} {Q : AX → Sl → World → Prop} {tg : Tg (b, Q)} {s : Sl} {w : World} {σ : Type} (sl : σ → List (Nat × Value)) (I : σ → World → Prop) (m : σ → Nat) (x : σ) (h0 : Slots s (sl x)) (h1 : I x w)
    (hr : ∀ x s w, I x w → Acode P b (Then (fun s' w' => ∃ x', Slots s' (sl x') ∧ I x' w' ∧ m x' < m x) Q .mk) .mk (putAll s (sl x)) w) : Loop P b Q tg s w :=
  loop_of (fun x s w => Slots s (sl x) ∧ I x w) m x ⟨h0, h1⟩ fun x s w ⟨hs, hI⟩ => by
    have h := hr x s w hI
    rw [hs.put] at h
    exact acode_mono (fun e s w he => by
      cases e with
      | normal => obtain ⟨x', a, b, c⟩ := he; exact ⟨x', ⟨a, b⟩, c⟩
      | exit i => exact he
      | ret => exact he) _ _ _ h
theorem i64_eq {a b : Int} (h : a = b) : Value.int .i64 a = .int .i64 b := by rw [h]
end Go.Proofs.YtcmckbgiiclomaaGreatDoor.V
