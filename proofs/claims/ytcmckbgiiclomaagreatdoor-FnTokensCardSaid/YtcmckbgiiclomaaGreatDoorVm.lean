/- Owned parts put together and taken apart; slices of owned parts. -/
import Derived.Test.YtcmckbgiiclomaaGreatDoorVl
namespace Go.Proofs.YtcmckbgiiclomaaGreatDoor.V
open Go Go.RowKit
set_option linter.unusedVariables false

section
variable {n : Nat} {w0 w : World} {L : List Ck} {α β : Type}
theorem Sep.swapTo {M : List Ck} (H : Sep n w0 w L) (hp : (fps L).Perm (fps M)) (hc : ∀ c ∈ M, c.A w) : Sep n w0 w M := ⟨H.bel, H.ns, hp.nodup_iff.1 H.nd, fun b hb => H.lo b (hp.mem_iff.2 hb), hc⟩
theorem Sep.pair {d : Kd α} {d' : Kd β} {f f' : List Nat} {cs cs' : List Value} {x : α} {y : β} (H : Sep n w0 w (Ck.own d f cs x :: Ck.own d' f' cs' y :: L)) : Sep n w0 w (Ck.own (Kd.pair d d') (f ++ f') (cs ++ cs') (x, y) :: L) := by
  have e : fps (Ck.own (Kd.pair d d') (f ++ f') (cs ++ cs') (x, y) :: L) = fps (Ck.own d f cs x :: Ck.own d' f' cs' y :: L) := by simp only [fps, Ck.own_fp, List.append_assoc]
  refine H.swapTo (by rw [e]) fun c hc => ?_
  rcases List.mem_cons.1 hc with rfl | hc
  · have hnd := H.nd
    simp only [fps, Ck.own_fp, ← List.append_assoc] at hnd
    exact ⟨⟨cs, cs', f, f', rfl, rfl, H.ok _ (.head _), H.ok _ (.tail _ (.head _))⟩, (List.nodup_append.1 hnd).1⟩
  · exact H.ok _ (.tail _ (.tail _ hc))
theorem Sep.unpair {d : Kd α} {d' : Kd β} {fp : List Nat} {cs : List Value} {x : α × β} (H : Sep n w0 w (Ck.own (Kd.pair d d') fp cs x :: L)) : ∃ f f' a b, cs = a ++ b ∧ fp = f ++ f' ∧ Sep n w0 w (Ck.own d f a x.1 :: Ck.own d' f' b x.2 :: L) := by
  obtain ⟨⟨a, b, f, f', h1, h2, h3, h4⟩, h5⟩ := (show (Kd.pair d d').ow w fp cs x from H.ok _ (.head _))
  refine ⟨f, f', a, b, h1, h2, H.swapTo ?_ fun c hc => ?_⟩
  · simp only [fps, Ck.own_fp, h2, List.append_assoc]; exact List.Perm.refl _
  · rcases List.mem_cons.1 hc with rfl | hc
    · exact h3
    · rcases List.mem_cons.1 hc with rfl | hc
      · exact h4
      · exact H.ok _ (.tail _ hc)
theorem Sep.plain {d : Kd α} {f : α → Value} {R : α → Prop} (hp : IsPlain d f R) {x : α} (H : Sep n w0 w L) (hx : R x) : Sep n w0 w (Ck.own d [] [f x] x :: L) :=
  H.swapTo (by simp only [fps, Ck.own_fp, List.nil_append]; exact List.Perm.refl _) fun c hc => by
    rcases List.mem_cons.1 hc with rfl | hc
    · exact hp.ow.2 ⟨⟨rfl, hx⟩, rfl⟩
    · exact H.ok _ hc
theorem Sep.iso {d : Kd α} {f : β → α} {fp : List Nat} {cs : List Value} {y : β} {x : α} (H : Sep n w0 w (Ck.own d fp cs x :: L)) (h : f y = x := by rfl) : Sep n w0 w (Ck.own (d.iso f) fp cs y :: L) := by subst h; exact H
theorem Sep.rot {c : Ck} (H : Sep n w0 w (c :: L)) : Sep n w0 w (L ++ [c]) := by
  refine H.swapTo ?_ fun d hd => ?_
  · rw [fps_append]; simp only [fps, List.append_nil]; exact List.perm_append_comm
  · rcases List.mem_append.1 hd with hd | hd
    · exact H.ok _ (.tail _ hd)
    · simp only [List.mem_singleton] at hd; subst hd; exact H.ok _ (.head _)
/-- Only the head is kept. -/
theorem Sep.head {c : Ck} (H : Sep n w0 w (c :: L)) : Sep n w0 w [c] := by
  refine ⟨H.bel, H.ns, ?_, fun b hb => H.lo b ?_, fun d hd => ?_⟩
  · have := (List.nodup_append.1 H.nd).1; simpa [fps] using this
  · simp only [fps, List.append_nil] at hb; exact List.mem_append_left _ hb
  · simp only [List.mem_singleton] at hd; subst hd; exact H.ok _ (.head _)
/-- A part taken to the front. -/
theorem Sep.front {c : Ck} {M : List Ck} (H : Sep n w0 w L) (h : Out c L M := by repeat (first | exact Out.here | apply Out.there)) : Sep n w0 w (c :: M) := H.out h
end

/-! ### owned slices of owned parts -/
section
variable {P : Program} {n : Nat} {w0 w : World} {L : List Ck} {K : Value → World → Prop} {tg : Tg K} {α : Type} {d : Kd α}
theorem zero_row {e sz : Nat} {z : α} {zc : List Value} {g m : Nat} {w : World} (hd : d.sz = sz) (hz : ∀ w, d.ow w [] zc z) (hr : w.owR e sz (.slice (some ⟨g, 0, none⟩) m m) m (List.replicate m zc).flatten) : (Kd.slice e d).ow w [g] [.slice (some ⟨g, 0, none⟩) m m] (List.replicate m z) := by
  refine ⟨_, List.replicate m zc, List.replicate m [], rfl, ⟨by rw [hd, List.length_replicate]; exact hr, by simp, by simp, fun i hi => ?_, ?_, by simp⟩⟩
  · simp only [List.getElem_replicate]; exact hz w
  · have : (List.replicate m ([] : List Nat)).flatten = [] := by rw [List.flatten_eq_nil_iff]; intro l hl; exact List.eq_of_mem_replicate hl
    rw [this]; simp [Value.ownBlock]
theorem made_flat (zc : List Value) (hne : 0 < zc.length) (m : Nat) : (madeCells zc.toArray (m * zc.length)).toList = (List.replicate m zc).flatten := by
  apply List.ext_getElem?
  intro i
  have hl : ∀ r ∈ List.replicate m zc, r.length = zc.length := fun r hr => by rw [List.eq_of_mem_replicate hr]
  have e : i = i / zc.length * zc.length + i % zc.length := by rw [Nat.mul_comm]; exact (Nat.div_add_mod i zc.length).symm
  have hm := Nat.mod_lt i hne
  rw [e, Kd.flat_get _ hl _ _ hm, List.getElem?_replicate]
  by_cases h : i / zc.length < m
  · rw [if_pos h, Option.bind_some]
    have h2 : i / zc.length * zc.length + i % zc.length < m * zc.length := by rw [← e]; exact (Nat.div_lt_iff_lt_mul hne).1 h
    simp [madeCells, h2, List.getElem?_eq_getElem hm, Nat.mul_add_mod_of_lt hm]
  · rw [if_neg h, Option.bind_none]
    have h2 : ¬ i / zc.length * zc.length + i % zc.length < m * zc.length := by rw [← e]; intro h3; exact h ((Nat.div_lt_iff_lt_mul hne).2 h3)
    simp [madeCells]; omega
/-- A new slice of zero values. -/
theorem x_mkZ (H : Sep n w0 w L) {t e sz by_ : Nat} {z : Value} (HS : SlT P t e sz by_ z) (zc : List Value) (zx : α) (hd : d.sz = sz) (hz : ∀ w, d.ow w [] zc zx) {k k' : IntKind} {m : Nat} (hb : by_ * m ≤ 281474976710656) (hn : m ≤ 9223372036854775807)
    (h : ∀ g w', Sep n w0 w' (Ck.own (Kd.slice e d) [g] [.slice (some ⟨g, 0, none⟩) m m] (List.replicate m zx) :: L) → K (.slice (some ⟨g, 0, none⟩) m m) w') (hc : z.cells = zc.toArray := by rfl) :
    VS P K tg (Instr.makeSlice t (.int k (m : Int)) (.int k' (m : Int))) w := by
  have hl : zc.length = sz := by have := HS.zs; rw [hc] at this; simpa using this
  refine x_make HS hb hn fun w' ho hbl hlt => h _ _ (H.add hbl (zero_row hd hz ?_) (by simp [Ck.own]) (fun b hb => by simp [Ck.own] at hb; omega))
  rw [hc, ← hl, made_flat zc (by have := HS.pos; omega)] at ho
  rw [← hl]; exact ho
theorem fl_mem {fs : List (List Nat)} {b : Nat} : b ∈ fs.flatten ↔ ∃ i, ∃ h : i < fs.length, b ∈ fs[i] := by
  rw [List.mem_flatten]
  constructor
  · rintro ⟨l, hl, hb⟩; obtain ⟨i, hi, rfl⟩ := List.getElem_of_mem hl; exact ⟨i, hi, hb⟩
  · rintro ⟨i, hi, hb⟩; exact ⟨_, List.getElem_mem hi, hb⟩
end

/-! ### calls -/
section
variable {P : Program} {n : Nat} {w0 w : World} {L : List Ck} {K : Value → World → Prop} {tg : Tg K} {α : Type} {d : Kd α} {f : FuncId} {args : Array Value} {v : Value}
theorem x_callw (c : ACalls P f args w fun r w' => r = v ∧ w' = w) (h : K v w) : ACall P f K tg args w := x_call c fun _ _ ⟨e1, e2⟩ => by rw [e1, e2]; exact h
theorem x_callb (H : Sep n w0 w L) (c : ACalls P f args w fun r w' => r = v ∧ Below w.heap.size w w') (h : ∀ w', Sep n w0 w' L → K v w') : ACall P f K tg args w := x_call c fun _ _ ⟨e1, e2⟩ => by rw [e1]; exact h _ (H.go e2)
theorem x_callf (H : Sep n w0 w L) {x : α} (c : ACalls P f args w fun r w' => ∃ fp, Sep w.heap.size w w' [Ck.own d fp [r] x]) (h : ∀ r fp w', Sep n w0 w' (Ck.own d fp [r] x :: L) → K r w') : ACall P f K tg args w := x_call c fun _ _ ⟨_, S⟩ => h _ _ _ (H.join S)
end
end Go.Proofs.YtcmckbgiiclomaaGreatDoor.V
