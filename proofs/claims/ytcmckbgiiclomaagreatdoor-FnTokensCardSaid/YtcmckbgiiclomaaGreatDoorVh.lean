/- A region that draws, and one walk behind it; slices with equations for their ends. -/
import Derived.Test.YtcmckbgiiclomaaGreatDoorVx
import Derived.Test.YtcmckbgiiclomaaGreatDoorVt
namespace Go.Proofs.YtcmckbgiiclomaaGreatDoor.V
open Go Go.RowKit
set_option linter.unusedVariables false
section
variable {P : Program} {l : List Oper} {K : Sl → World → Prop} {s : Sl} {w : World}
/-- A region that draws, and what is behind it walked once from what the region leaves. -/
theorem cut_to {tg : Tg (l.toArray, K)} {σ : Type} (sl : σ → List (Nat × Value)) (I : σ → World → Prop) (hd : Adraw P l.toArray (fun s w => ∃ x, Slots s (sl x) ∧ I x w) .mk s w) (hk : ∀ x s w, I x w → K (putAll s (sl x)) w) : Adraw P l.toArray K tg s w := by
  refine fun n a ha hok => wpAny_mono (fun e a w he => ?_) _ _ _ _ (hd n a ha hok)
  cases e with
  | normal =>
    obtain ⟨s, ha, x, hs, hI⟩ := he
    refine ⟨s, ha, ?_⟩
    have := hk x s w hI
    rwa [hs.put] at this
  | _ => exact he.elim
end
section
variable {P : Program} {m : Nat} {w : World} {KQ : Value → Prop} {G : List (Nat × Nat)} {tq : Tg (m, G, w, KQ)} {α : Type} {d : Kd α}
theorem q_subN {wr : World} {t e sz by_ : Nat} {z : Value} (HS : SlT P t e sz by_ z) (hd : d.sz = sz) {q : Nat} {v : Value} {l : List α} {k k' : IntKind} {li hi' : Int} (lo hi : Nat) (hr : (Kd.slice e d).rd wr q [v] l) (e1 : li = (lo : Int)) (e2 : hi' = (hi : Int)) (h0 : lo ≤ hi) (h1 : hi ≤ l.length)
    (h : ∀ v', (Kd.slice e d).rd wr q [v'] ((l.drop lo).take (hi - lo)) → KQ v') : QS P m G w KQ tq (Instr.sliceAt t v (some (.int k li)) (some (.int k' hi')) none) := by
  subst e1 e2; exact q_sub HS hd hr h0 h1 h
theorem q_fromN {wr : World} {t e sz by_ : Nat} {z : Value} (HS : SlT P t e sz by_ z) (hd : d.sz = sz) {q : Nat} {v : Value} {l : List α} {k : IntKind} {li : Int} (lo : Nat) (hr : (Kd.slice e d).rd wr q [v] l) (e1 : li = (lo : Int)) (h1 : lo ≤ l.length)
    (h : ∀ v', (Kd.slice e d).rd wr q [v'] (l.drop lo) → KQ v') : QS P m G w KQ tq (Instr.sliceAt t v (some (.int k li)) none none) := by
  subst e1; exact q_from HS hd hr h1 h
theorem q_toN {wr : World} {t e sz by_ : Nat} {z : Value} (HS : SlT P t e sz by_ z) (hd : d.sz = sz) {q : Nat} {v : Value} {l : List α} {k : IntKind} {hi' : Int} (hi : Nat) (hr : (Kd.slice e d).rd wr q [v] l) (e2 : hi' = (hi : Int)) (h1 : hi ≤ l.length)
    (h : ∀ v', (Kd.slice e d).rd wr q [v'] (l.take hi) → KQ v') : QS P m G w KQ tq (Instr.sliceAt t v none (some (.int k hi')) none) := by
  subst e2; exact q_to HS hd hr h1 h
end
section
variable {P : Program} {w : World} {K : Value → World → Prop} {tg : Tg K} {α : Type} {d : Kd α}
theorem x_subN {wr : World} {t e sz by_ : Nat} {z : Value} (HS : SlT P t e sz by_ z) (hd : d.sz = sz) {q : Nat} {v : Value} {l : List α} {k k' : IntKind} {li hi' : Int} (lo hi : Nat) (hr : (Kd.slice e d).rd wr q [v] l) (e1 : li = (lo : Int)) (e2 : hi' = (hi : Int)) (h0 : lo ≤ hi) (h1 : hi ≤ l.length)
    (h : ∀ v', (Kd.slice e d).rd wr q [v'] ((l.drop lo).take (hi - lo)) → K v' w) : VS P K tg (Instr.sliceAt t v (some (.int k li)) (some (.int k' hi')) none) w := by
  subst e1 e2; exact x_sub HS hd hr h0 h1 h
theorem x_fromN {wr : World} {t e sz by_ : Nat} {z : Value} (HS : SlT P t e sz by_ z) (hd : d.sz = sz) {q : Nat} {v : Value} {l : List α} {k : IntKind} {li : Int} (lo : Nat) (hr : (Kd.slice e d).rd wr q [v] l) (e1 : li = (lo : Int)) (h1 : lo ≤ l.length)
    (h : ∀ v', (Kd.slice e d).rd wr q [v'] (l.drop lo) → K v' w) : VS P K tg (Instr.sliceAt t v (some (.int k li)) none none) w := by
  subst e1; exact x_from HS hd hr h1 h
theorem x_toN {wr : World} {t e sz by_ : Nat} {z : Value} (HS : SlT P t e sz by_ z) (hd : d.sz = sz) {q : Nat} {v : Value} {l : List α} {k : IntKind} {hi' : Int} (hi : Nat) (hr : (Kd.slice e d).rd wr q [v] l) (e2 : hi' = (hi : Int)) (h1 : hi ≤ l.length)
    (h : ∀ v', (Kd.slice e d).rd wr q [v'] (l.take hi) → K v' w) : VS P K tg (Instr.sliceAt t v none (some (.int k hi')) none) w := by
  subst e2; exact x_to HS hd hr h1 h
end
section
variable {P : Program} {w : World} {K : Value → World → Prop} {tg : Tg K} {t : TypeId} {x y : Operand}
/-- Held against the empty text. -/
theorem x_seqlN {a : List UInt8} {b : ByteArray} (h : K (.bool (decide (a = []))) w) (hb : b = ⟨([] : List UInt8).toArray⟩ := by rfl) : Bin P K tg .eql t x y (.string ⟨a.toArray⟩) (.string b) w := by
  subst hb; rw [b_seql]; exact h
end
section
variable {P : Program} {s : Sl} {w : World} {K : Value → World → Prop} {d : Option Tmp} {ty : TypeId} {pos : String} {af : Array Edge} {g : Option (Nat × Bool)}
theorem x_nilP {x : Operand} {a : Addr} {t : Tg ((⟨d, .nilCheck x, ty, pos, af, g⟩ : Oper), K)} (h : K (.pointer (some a)) w) (he : ev s x = .pointer (some a) := by rfl) : Aop P ⟨d, .nilCheck x, ty, pos, af, g⟩ K t s w := by
  have e : execOp (ev s) ⟨d, .nilCheck x, ty, pos, af, g⟩ = pure (.value (.pointer (some a))) := by simp [execOp, he]
  unfold Aop aop
  rw [e]
  exact h
end
section
variable {P : Program} {n : Nat} {w0 w : World} {L : List Ck} {K : Value → World → Prop}
theorem x_staD (H : Sep n w0 w L) {g j : Nat} {cs vs : List Value} {t e : TypeId} {sz : Nat} {z : Array Value} {f : Ck → List Ck} {tg : Tg K} (HS : StT P e sz z) (h : ∀ w', Sep n w0 w' (f (Ck.box g (cs.take j ++ vs ++ cs.drop (j + vs.length)) t)) → Chg [g] w w' → K undef w')
    (hm : Hole (Ck.box g cs t) L f := by repeat (first | exact Hole.here | apply Hole.there)) (hl : vs.length = sz := by rfl) (hj : j + vs.length ≤ cs.length := by first | decide | simp) (h1 : ∀ v ∈ vs, v.oneCell' = true) :
    VU P K tg (Instr.storeAt e (.pointer (some ⟨g, j, none⟩)) (.agg vs.toArray)) w := by
  have hb : w.heap[g]? = some (.cells cs.toArray t (0, 0)) := H.ok _ hm.mem
  obtain ⟨fs, hu⟩ := HS.un
  obtain ⟨inf, hi, hs, _⟩ := HS.inf
  have hst := run_storeCells_at P g j t vs 0 cs.toArray w hb (by simpa using hj) h1
  have hchg : Chg [g] w (w.setRow g ((cs.take j ++ vs ++ cs.drop (j + vs.length)).toArray)) := ⟨rfl, rfl, rfl, by simp [World.setRow], fun k _ hk => setRow_other w g k _ (fun e => hk (by simp [e]))⟩
  unfold VU
  refine vU_run (u := ()) (w' := w.setRow g ((cs.take j ++ vs ++ cs.drop (j + vs.length)).toArray)) ?_ (h _ (H.put hm ?_ ?_ (by simp [Ck.box]) (fun b hb => ?_)) hchg)
  · simp only [Nat.add_zero] at hst
    simp [Instr.storeAt, Instr.sureAddr, storeVar, Value.cells, run_sizeOf' hi hs, hl, hst]
  · exact ⟨rfl, rfl, rfl, by simp [World.setRow], fun k _ hk => setRow_other w g k _ (fun e => hk (by simp [Ck.box, e]))⟩
  · exact setRow_heap w g _ _ t _ hb
  · simp only [Ck.box, List.mem_singleton] at hb ⊢
    refine ⟨.inl hb, ?_⟩
    have := H.lt hm.mem
    simp [World.setRow]; omega
theorem Sep.boxne {M M' : List Ck} (H : Sep n w0 w L) {g g' : Nat} {cs cs' : List Value} {t t' : TypeId} (h : Out (Ck.box g cs t) L M := by repeat (first | exact Out.here | apply Out.there)) (h' : Out (Ck.box g' cs' t') M M' := by repeat (first | exact Out.here | apply Out.there)) : g ≠ g' := fun e => by
  have H1 := (H.out h).out (.there h')
  have hnd := H1.nd
  simp only [fps, Ck.box, List.singleton_append] at hnd
  exact (List.nodup_cons.1 hnd).1 (List.mem_cons.2 (.inl e.symm))
end
end Go.Proofs.YtcmckbgiiclomaaGreatDoor.V
