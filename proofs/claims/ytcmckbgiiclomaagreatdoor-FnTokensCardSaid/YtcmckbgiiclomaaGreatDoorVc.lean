/- What a value reads as in a world: kinds of data, read only (through blocks below a number) and owned (through just these blocks). -/
import Derived.Test.YtcmckbgiiclomaaGreatDoorVb
namespace Go.Proofs.YtcmckbgiiclomaaGreatDoor.V
open Go Go.RowKit

def adA (A : Option Addr) : Addr := A.getD ⟨0, 0, none⟩
theorem adA_some {a : Addr} : adA (some a) = a := rfl

/-- An owned row: its block has at least as many cells as the slice may grow to. -/
def _root_.Go.World.owR (w : World) (e : TypeId) (size : Nat) (v : Value) (n : Nat) (xs : List Value) : Prop :=
  xs.length = n * size ∧ ((v = .slice none 0 0 ∧ n = 0) ∨ ∃ g cap cur, v = .slice (some ⟨g, 0, none⟩) n cap ∧ 0 ≤ g ∧ w.heap[g]? = some (.cells cur e (0, 0)) ∧ n ≤ cap ∧ cap ≤ maxLen ∧ cap * size ≤ cur.size ∧ cur.toList.take (n * size) = xs)
theorem owR_of {w : World} {e sz : Nat} {v : Value} {n : Nat} {xs : List Value} (h : w.ownsRow 0 e sz v n xs) : w.owR e sz v n xs :=
  ⟨h.1, h.2.imp id fun ⟨g, cap, cur, h1, h2, h3, h4, h5, h6, h7⟩ => ⟨g, cap, cur, h1, h2, h3, h4, h5, Nat.le_of_eq h6.symm, h7⟩⟩
theorem owR_nil {w : World} {e sz : Nat} : w.owR e sz (.slice none 0 0) 0 [] := ⟨by simp, .inl ⟨rfl, rfl⟩⟩
theorem owR_lt {w : World} {e sz : Nat} {v : Value} {n : Nat} {xs : List Value} (h : w.owR e sz v n xs) : ∀ b, v.ownBlock = some b → b < w.heap.size := by
  intro b hb
  rcases h.2 with ⟨h1, _⟩ | ⟨g, cap, cur, h1, _, hh, _⟩
  · rw [h1] at hb; simp [Value.ownBlock] at hb
  · rw [h1] at hb; simp [Value.ownBlock] at hb; subst hb; exact (Array.getElem?_eq_some_iff.1 hh).1
/-- A kind of data: how many cells, and what is read. -/
structure Kd (α : Type) where
  sz : Nat
  rd : World → Nat → List Value → α → Prop
  len : ∀ {w n cs x}, rd w n cs x → cs.length = sz
  mono : ∀ {w w' n cs x}, rd w n cs x → Below n w w' → rd w' n cs x
  le : ∀ {w n m cs x}, rd w n cs x → n ≤ m → rd w m cs x
  ow : World → List Nat → List Value → α → Prop
  own_rd : ∀ {w fp cs x n}, ow w fp cs x → (∀ b ∈ fp, b < n) → rd w n cs x
  own_mono : ∀ {w w' fp cs x}, ow w fp cs x → (∀ b ∈ fp, w'.heap[b]? = w.heap[b]?) → ow w' fp cs x
  own_row : ∀ {w fp cs x}, ow w fp cs x → ∀ b ∈ fp, ∃ c e, w.heap[b]? = some (.cells c e (0, 0))
  own_nodup : ∀ {w fp cs x}, ow w fp cs x → fp.Nodup
  own_len : ∀ {w fp cs x}, ow w fp cs x → cs.length = sz
  one : ∀ {w n cs x}, rd w n cs x → ∀ v ∈ cs, v.oneCell' = true

namespace Kd
variable {α β : Type}

/-- A kind that looks at no memory. -/
def plain (f : α → Value) (h1 : ∀ x, (f x).oneCell' = true) (R : α → Prop) : Kd α where
  sz := 1
  rd := fun _ _ cs x => cs = [f x] ∧ R x
  len := fun h => by rw [h.1]; rfl
  mono := fun h _ => h
  le := fun h _ => h
  ow := fun _ fp cs x => (cs = [f x] ∧ R x) ∧ fp = []
  own_rd := fun h _ => h.1
  own_mono := fun h _ => h
  own_row := fun h b hb => by rw [h.2] at hb; cases hb
  own_nodup := fun h => by rw [h.2]; exact List.nodup_nil
  own_len := fun h => by rw [h.1.1]; rfl
  one := fun h v hv => by rw [h.1] at hv; simp at hv; subst hv; exact h1 _

def i64 : Kd Int := plain (fun x => .int .i64 x) (fun _ => rfl) (fun x => -9223372036854775808 ≤ x ∧ x < 9223372036854775808)
def u8 : Kd UInt8 := plain (fun x => .int .u8 (x.toNat : Int)) (fun _ => rfl) (fun _ => True)
def bool : Kd Bool := plain (fun x => .bool x) (fun _ => rfl) (fun _ => True)
/-- A string, as its bytes. -/
def str : Kd (List UInt8) := plain (fun l => .string ⟨l.toArray⟩) (fun _ => rfl) (fun l => l.length ≤ 9223372036854775807)

/-- Two kinds, one behind the other. -/
def pair (d : Kd α) (d' : Kd β) : Kd (α × β) where
  sz := d.sz + d'.sz
  rd := fun w n cs x => ∃ a b, cs = a ++ b ∧ d.rd w n a x.1 ∧ d'.rd w n b x.2
  len := fun ⟨a, b, e, h, h'⟩ => by rw [e, List.length_append, d.len h, d'.len h']
  mono := fun ⟨a, b, e, h, h'⟩ hb => ⟨a, b, e, d.mono h hb, d'.mono h' hb⟩
  le := fun ⟨a, b, e, h, h'⟩ hn => ⟨a, b, e, d.le h hn, d'.le h' hn⟩
  ow := fun w fp cs x => (∃ a b f f', cs = a ++ b ∧ fp = f ++ f' ∧ d.ow w f a x.1 ∧ d'.ow w f' b x.2) ∧ fp.Nodup
  own_rd := fun ⟨⟨a, b, f, f', e, ef, h, h'⟩, _⟩ hn => ⟨a, b, e, d.own_rd h (fun k hk => hn k (by rw [ef]; exact List.mem_append_left _ hk)), d'.own_rd h' (fun k hk => hn k (by rw [ef]; exact List.mem_append_right _ hk))⟩
  own_mono := fun ⟨⟨a, b, f, f', e, ef, h, h'⟩, hnd⟩ hm => ⟨⟨a, b, f, f', e, ef, d.own_mono h (fun k hk => hm k (by rw [ef]; exact List.mem_append_left _ hk)), d'.own_mono h' (fun k hk => hm k (by rw [ef]; exact List.mem_append_right _ hk))⟩, hnd⟩
  own_row := fun ⟨⟨a, b, f, f', e, ef, h, h'⟩, _⟩ k hk => by
    rw [ef] at hk
    rcases List.mem_append.1 hk with hk | hk
    · exact d.own_row h k hk
    · exact d'.own_row h' k hk
  own_nodup := fun h => h.2
  own_len := fun ⟨⟨a, b, f, f', e, ef, h, h'⟩, _⟩ => by rw [e, List.length_append, d.own_len h, d'.own_len h']
  one := fun ⟨a, b, e, h, h'⟩ v hv => by
    rw [e] at hv
    rcases List.mem_append.1 hv with hv | hv
    · exact d.one h v hv
    · exact d'.one h' v hv

/-- The same cells, told otherwise. -/
def iso (d : Kd α) (f : β → α) : Kd β where
  sz := d.sz
  rd := fun w n cs x => d.rd w n cs (f x)
  len := d.len
  mono := d.mono
  le := d.le
  ow := fun w fp cs x => d.ow w fp cs (f x)
  own_rd := d.own_rd
  own_mono := d.own_mono
  own_row := d.own_row
  own_nodup := d.own_nodup
  own_len := d.own_len
  one := d.one

theorem add_block (a : Addr) (n : Nat) : (a.add n).block = a.block := by unfold Addr.add; split <;> rfl
theorem add_add (a : Addr) (m n : Nat) : (a.add m).add n = a.add (m + n) := by
  unfold Addr.add
  by_cases hm : m = 0
  · subst hm; simp
  · by_cases hn : n = 0
    · subst hn; simp [hm]
    · rw [if_neg hm, if_neg hn, if_neg (by omega)]; simp [Nat.add_assoc]

/-- What a slice reads as: each element, in its cells. -/
def sliceRd (d : Kd α) (w : World) (n : Nat) (A : Option Addr) (l : List α) : Prop :=
  ∀ i (h : i < l.length), A.isSome = true ∧ (adA A).block < n ∧ ∃ es, d.rd w n es l[i] ∧ ∀ j, j < d.sz → w.cell? ((adA A).add (i * d.sz + j)) = es[j]?

theorem sliceRd.mono {d : Kd α} {w w' : World} {n : Nat} {A : Option Addr} {l : List α} (h : sliceRd d w n A l) (hb : Below n w w') : sliceRd d w' n A l := fun i hi => by
  obtain ⟨h1, h2, es, h3, h4⟩ := h i hi
  exact ⟨h1, h2, es, d.mono h3 hb, fun j hj => by rw [hb.cell (p := (adA A).add (i * d.sz + j)) (by rw [add_block]; exact h2)]; exact h4 j hj⟩
theorem sliceRd.le {d : Kd α} {w : World} {n m : Nat} {A : Option Addr} {l : List α} (h : sliceRd d w n A l) (hn : n ≤ m) : sliceRd d w m A l := fun i hi => by
  obtain ⟨h1, h2, es, h3, h4⟩ := h i hi
  exact ⟨h1, by omega, es, d.le h3 hn, h4⟩

/-- An owned row of rows of cells. -/
structure RowOw (e : TypeId) (d : Kd α) (w : World) (fp : List Nat) (v : Value) (l : List α) (rows : List (List Value)) (fps : List (List Nat)) : Prop where
  row : w.owR e d.sz v l.length rows.flatten
  lr : rows.length = l.length
  lf : fps.length = l.length
  el : ∀ i (h : i < l.length), d.ow w (fps[i]'(by omega)) (rows[i]'(by omega)) l[i]
  hfp : fp = v.ownBlock.toList ++ fps.flatten
  nd : fp.Nodup

theorem flat_get {k : Nat} : ∀ (rows : List (List Value)) (_ : ∀ r ∈ rows, r.length = k) (i j : Nat), j < k → rows.flatten[i * k + j]? = (rows[i]?).bind (·[j]?)
  | [], _, i, j, _ => by simp
  | r :: rs, h, 0, j, hj => by
    have hr := h r (List.mem_cons_self ..)
    simp only [Nat.zero_mul, Nat.zero_add, List.flatten_cons, List.getElem?_cons_zero, Option.bind_some]
    rw [List.getElem?_append_left (by omega)]
  | r :: rs, h, i + 1, j, hj => by
    have hr := h r (List.mem_cons_self ..)
    have e : (i + 1) * k + j = k + (i * k + j) := by rw [Nat.add_mul]; omega
    simp only [List.flatten_cons, List.getElem?_cons_succ]
    rw [List.getElem?_append_right (by omega), hr, e, Nat.add_sub_cancel_left]
    exact flat_get rs (fun r hr => h r (List.mem_cons_of_mem _ hr)) i j hj

theorem add_plain (g j : Nat) : (⟨g, 0, none⟩ : Addr).add j = ⟨g, j, none⟩ := by unfold Addr.add; split <;> simp_all
theorem add_at (g o j : Nat) : (⟨g, o, none⟩ : Addr).add j = ⟨g, o + j, none⟩ := by unfold Addr.add; split <;> simp_all
theorem cell_blk {w : World} {g : Nat} {c : Array Value} {e : TypeId} {f : Nat × Nat} (h : w.heap[g]? = some (.cells c e f)) (i : Nat) : w.cell? ⟨g, i, none⟩ = c[i]? := by simp [World.cell?, h]

theorem RowOw.lens {e : TypeId} {d : Kd α} {w : World} {fp : List Nat} {v : Value} {l : List α} {rows : List (List Value)} {fps : List (List Nat)} (h : RowOw e d w fp v l rows fps) : ∀ r ∈ rows, r.length = d.sz := by
  intro r hr
  obtain ⟨i, hi, rfl⟩ := List.getElem_of_mem hr
  exact d.own_len (h.el i (by have := h.lr; omega))

theorem RowOw.sub {e : TypeId} {d : Kd α} {w : World} {fp : List Nat} {v : Value} {l : List α} {rows : List (List Value)} {fps : List (List Nat)} (h : RowOw e d w fp v l rows fps) (i : Nat) (hi : i < fps.length) : ∀ b ∈ fps[i], b ∈ fp := by
  intro b hb
  rw [h.hfp]
  exact List.mem_append_right _ (List.mem_flatten_of_mem (List.getElem_mem hi) hb)

theorem RowOw.rd {e : TypeId} {d : Kd α} {w : World} {fp : List Nat} {v : Value} {l : List α} {rows : List (List Value)} {fps : List (List Nat)} (h : RowOw e d w fp v l rows fps) {n : Nat} (hn : ∀ b ∈ fp, b < n) :
    ∃ A c, v = .slice A l.length c ∧ l.length ≤ c ∧ c ≤ maxLen ∧ sliceRd d w n A l := by
  obtain ⟨hl, h1⟩ := h.row
  rcases h1 with ⟨hv, h0⟩ | ⟨g, cap, cur, hv, _, hh, hc, hm, hs, ht⟩
  · exact ⟨none, 0, by rw [hv, h0], by omega, by simp [maxLen], fun i hi => absurd hi (by omega)⟩
  · refine ⟨some ⟨g, 0, none⟩, cap, hv, hc, hm, fun i hi => ⟨rfl, ?_, rows[i]'(by have := h.lr; omega), ?_, ?_⟩⟩
    · exact hn g (by rw [h.hfp, hv]; exact List.mem_append_left _ (by simp [Value.ownBlock]))
    · exact d.own_rd (h.el i hi) (fun b hb => hn b (h.sub i (by have := h.lf; omega) b hb))
    · intro j hj
      have hlr := h.lr
      have e1 := flat_get rows h.lens i j hj
      rw [List.getElem?_eq_getElem (l := rows) (i := i) (by omega), Option.bind_some] at e1
      show w.cell? ((⟨g, 0, none⟩ : Addr).add _) = _
      rw [add_plain, cell_blk hh, ← e1, ← ht, List.getElem?_take]
      have hlt : i * d.sz + j < l.length * d.sz := by
        have h9 : (i + 1) * d.sz ≤ l.length * d.sz := Nat.mul_le_mul_right _ hi
        rw [Nat.add_mul, Nat.one_mul] at h9; omega
      rw [if_pos hlt]; simp

theorem RowOw.move {e : TypeId} {d : Kd α} {w w' : World} {fp : List Nat} {v : Value} {l : List α} {rows : List (List Value)} {fps : List (List Nat)} (h : RowOw e d w fp v l rows fps) (hm : ∀ b ∈ fp, w'.heap[b]? = w.heap[b]?) : RowOw e d w' fp v l rows fps where
  row := by
    obtain ⟨hl, h1⟩ := h.row
    refine ⟨hl, ?_⟩
    rcases h1 with h1 | ⟨g, cap, cur, hv, hg, hh, hr⟩
    · exact .inl h1
    · exact .inr ⟨g, cap, cur, hv, hg, by rw [hm g (by rw [h.hfp, hv]; exact List.mem_append_left _ (by simp [Value.ownBlock]))]; exact hh, hr⟩
  lr := h.lr
  lf := h.lf
  el := fun i hi => d.own_mono (h.el i hi) (fun b hb => hm b (h.sub i (by have := h.lf; omega) b hb))
  hfp := h.hfp
  nd := h.nd

/-- Slices. -/
def slice (e : TypeId) (d : Kd α) : Kd (List α) where
  sz := 1
  rd := fun w n cs l => ∃ A c, cs = [.slice A l.length c] ∧ l.length ≤ c ∧ c ≤ maxLen ∧ sliceRd d w n A l
  len := fun ⟨A, c, h, _⟩ => by rw [h]; rfl
  mono := fun ⟨A, c, h, h1, h2, h3⟩ hb => ⟨A, c, h, h1, h2, h3.mono hb⟩
  le := fun ⟨A, c, h, h1, h2, h3⟩ hn => ⟨A, c, h, h1, h2, h3.le hn⟩
  ow := fun w fp cs l => ∃ v rows fps, cs = [v] ∧ RowOw e d w fp v l rows fps
  own_rd := fun ⟨v, rows, fps, h, hr⟩ hn => by
    obtain ⟨A, c, hv, h1, h2, h3⟩ := hr.rd hn
    exact ⟨A, c, by rw [h, hv], h1, h2, h3⟩
  own_mono := fun ⟨v, rows, fps, h, hr⟩ hm => ⟨v, rows, fps, h, hr.move hm⟩
  own_row := fun ⟨v, rows, fps, h, hr⟩ b hb => by
    rw [hr.hfp] at hb
    rcases List.mem_append.1 hb with hb | hb
    · obtain ⟨_, h1⟩ := hr.row
      rcases h1 with ⟨hv, _⟩ | ⟨g, cap, cur, hv, _, hh, _⟩
      · rw [hv] at hb; simp [Value.ownBlock] at hb
      · rw [hv] at hb; simp [Value.ownBlock] at hb; subst hb; exact ⟨cur, e, hh⟩
    · obtain ⟨f, hf, hb⟩ := List.mem_flatten.1 hb
      obtain ⟨i, hi, rfl⟩ := List.getElem_of_mem hf
      exact d.own_row (hr.el i (by have := hr.lf; omega)) b hb
  own_nodup := fun ⟨v, rows, fps, h, hr⟩ => hr.nd
  own_len := fun ⟨v, rows, fps, h, hr⟩ => by rw [h]; rfl
  one := fun ⟨A, c, h, _⟩ v hv => by rw [h] at hv; simp at hv; subst hv; rfl

end Kd
end Go.Proofs.YtcmckbgiiclomaaGreatDoor.V
