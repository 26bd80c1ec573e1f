/- Draws of one of a list, of a route, of a seed. Items drawn; bytes dented; regions that draw beside the cursor. Laid by a program. Posts drawn. Laid by a program. Posts drawn, right or not; what the laws draw. Laid by a program. -/
import Derived.Test.YtdljbekkckfmnaaGreatWdn2
import Derived.Test.YtdljbekkckfmnaaGreatWqi
import Derived.Test.YtdljbekkckfmnaaGreatWsn
import Derived.Test.YtdljbekkckfmnaaGreatPg
namespace Go.Proofs.YtdljbekkckfmnaaGreat.V
open Go Go.RowKit
set_option maxRecDepth 100000
set_option maxHeartbeats 4000000
set_option linter.unusedSimpArgs false
set_option linter.unusedVariables false
set_option pp.deepTerms false
set_option pp.deepTerms.threshold 3

/-- One of a list of numbers. -/
theorem l1PickInt_ok {n : Nat} {w0 w : World} {L : List Ck} {g : Nat} {v u : Value} {i h : Int} {a : List UInt8} {fp : List Nat} (l : List Int) (H : Sep n w0 w (Ck.own (Kd.slice 3 Kd.i64) fp [u] l :: curB g v i h :: L)) (hv : (bytes 5).rd w0 n [v] a) (hi : 0 ≤ i ∧ i ≤ a.length) (hl : 0 < l.length) :
    ACalls Tryz.prog 81 #[.pointer (some ⟨g, 0, none⟩), u] w fun r w' => ∃ (x : Int) (i' h' : Int), r = .int .i64 x ∧ x ∈ l ∧ (-9223372036854775808 ≤ x ∧ x < 9223372036854775808) ∧ (0 ≤ i' ∧ i' ≤ a.length) ∧ Sep n w0 w' (curB g v i' h' :: L) := by
  obtain ⟨A, c, rfl, hc1, hc2, _⟩ := sl_open (H.own (.head _))
  refine body_of follows Tryz.func81 rfl rfl _ rfl (by kernel_rfl) (vs ?_)
  have H := H.front (c := curB g v i h)
  refine x_call (l1Below_ok (l.length : Int) H hv hi) fun _ w2 ⟨k, i1, h1, e, hk, hi1, H⟩ => ?_
  subst e
  refine vs ?_
  have hk2 : k < l.length := by omega
  obtain ⟨A', c', e', hc1', hc2', ha'⟩ := sl_open (H.own (.tail _ (.head _)))
  simp only [Value.slice.injEq] at e'
  obtain ⟨rfl, _, rfl⟩ := e'
  refine x_elV pl_i64 sl98 (x := l[k]) k ha' (List.getElem?_eq_getElem _) rfl rfl fun ad hb hc hr => vs ?_
  refine x_load sc3 hc (vs ?_)
  exact ⟨_, _, _, rfl, List.getElem_mem _, hr, hi1, H.drops' (L := [_])⟩
/-- One of a list of texts. -/
theorem l1Pick_ok {n : Nat} {w0 w : World} {L : List Ck} {g : Nat} {v u : Value} {i h : Int} {a : List UInt8} {fp : List Nat} (l : List (List UInt8)) (H : Sep n w0 w (Ck.own (Kd.slice 9 Kd.str) fp [u] l :: curB g v i h :: L)) (hv : (bytes 5).rd w0 n [v] a) (hi : 0 ≤ i ∧ i ≤ a.length) (hl : 0 < l.length) :
    ACalls Tryz.prog 134 #[.pointer (some ⟨g, 0, none⟩), u] w fun r w' => ∃ (x : List UInt8) (i' h' : Int), r = .string ⟨x.toArray⟩ ∧ x ∈ l ∧ (0 ≤ i' ∧ i' ≤ a.length) ∧ Sep n w0 w' (curB g v i' h' :: L) := by
  obtain ⟨A, c, rfl, hc1, hc2, _⟩ := sl_open (H.own (.head _))
  refine body_of follows Tryz.func134 rfl rfl _ rfl (by kernel_rfl) (vs ?_)
  have H := H.front (c := curB g v i h)
  refine x_call (l1Below_ok (l.length : Int) H hv hi) fun _ w2 ⟨k, i1, h1, e, hk, hi1, H⟩ => ?_
  subst e
  refine vs ?_
  have hk2 : k < l.length := by omega
  obtain ⟨A', c', e', hc1', hc2', ha'⟩ := sl_open (H.own (.tail _ (.head _)))
  simp only [Value.slice.injEq] at e'
  obtain ⟨rfl, _, rfl⟩ := e'
  refine x_elV pl_str sl129 (x := l[k]) k ha' (List.getElem?_eq_getElem _) rfl rfl fun ad hb hc hr => vs ?_
  refine x_load sc9 hc (vs ?_)
  exact ⟨_, _, _, rfl, List.getElem_mem _, hi1, H.drops' (L := [_])⟩

theorem l1Once_ok {n : Nat} {w0 w : World} {L : List Ck} {g : Nat} {v : Value} {i h : Int} {a : List UInt8} (m : Int) (H : Sep n w0 w (curB g v i h :: L)) (hv : (bytes 5).rd w0 n [v] a) (hi : 0 ≤ i ∧ i ≤ a.length) :
    ACalls Tryz.prog 77 #[.pointer (some ⟨g, 0, none⟩), .int .i64 m] w fun r w' => ∃ (b : Bool) (i' h' : Int), r = .bool b ∧ (0 ≤ i' ∧ i' ≤ a.length) ∧ Sep n w0 w' (curB g v i' h' :: L) := by
  refine body_of follows Tryz.func77 rfl rfl _ rfl (by kernel_rfl) (vs ?_)
  refine x_call (l1Below_ok m H hv hi) fun _ w1 ⟨k, i1, h1, e, hk, hi1, H⟩ => ?_
  subst e
  refine vs ?_
  exact ⟨_, _, _, rfl, hi1, H⟩
def routeS : List (List UInt8) := [[48, 48, 48, 48, 48, 48, 48, 48, 48, 48, 48, 48, 48, 48, 48, 48], [48, 48, 48, 48, 48, 48, 48, 48, 48, 48, 48, 48, 48, 48, 102, 102], [97, 98, 99, 100, 101, 102, 48, 49, 50, 51, 52, 53, 54, 55, 56, 57]]
theorem routeS_len : ∀ x ∈ routeS, x.length = 16 := by
  intro x hx
  simp only [routeS, List.mem_cons, List.not_mem_nil, or_false] at hx
  rcases hx with rfl | rfl | rfl <;> rfl
theorem routeS_lo : ∀ x ∈ routeS, x.length ≤ 9223372036854775807 := fun x hx => by rw [routeS_len x hx]; omega
theorem l13DrawRoute_ok {n : Nat} {w0 w : World} {L : List Ck} {g : Nat} {v : Value} {i h : Int} {a : List UInt8} (H : Sep n w0 w (curB g v i h :: L)) (hv : (bytes 5).rd w0 n [v] a) (hi : 0 ≤ i ∧ i ≤ a.length) :
    ACalls Tryz.prog 78 #[.pointer (some ⟨g, 0, none⟩)] w fun r w' => ∃ (x : List UInt8) (i' h' : Int), r = .string ⟨x.toArray⟩ ∧ x.length = 16 ∧ (0 ≤ i' ∧ i' ≤ a.length) ∧ Sep n w0 w' (curB g v i' h' :: L) := by
  refine body_of follows Tryz.func78 rfl rfl _ rfl (by kernel_rfl) (vs ?_)
  refine x_lst H pl_str sl129 routeS routeS_lo fun g1 w1 H => vs ?_
  refine x_call (l1Pick_ok routeS H hv hi (by decide)) fun _ w2 ⟨x, i1, h1, e, hx, hi1, H⟩ => ?_
  subst e
  refine vs ?_
  exact ⟨x, _, _, rfl, routeS_len x hx, hi1, H⟩

/-! ### a box that stays while other parts change -/
def Gb (n m : Nat) : List (Nat × Nat) := fpG (List.range' n (m - n))
theorem Gb_not (n m : Nat) : ∀ t, (m, t) ∉ Gb n m := fun t h => by
  obtain ⟨b, hb, e⟩ := List.mem_map.1 h
  obtain ⟨rfl, _⟩ := Prod.mk.inj e
  have := List.mem_range'_1.1 hb
  omega
theorem kept_box {n m : Nat} {w0 w w' : World} {L L' : List Ck} {cs : List Value} {t : TypeId} (H : Sep n w0 w L) (H' : Sep n w0 w' L') (hm : Ck.box m cs t ∈ L := by repeat (first | exact List.mem_cons_self | apply List.mem_cons_of_mem)) (hm' : Ck.box m cs t ∈ L' := by repeat (first | exact List.mem_cons_self | apply List.mem_cons_of_mem)) : Kept (m + 1) (Gb n m) w w' := by
  refine ⟨fun _ => H'.lt hm', fun b hb hG => ?_, fun g t hg _ j hj => ?_⟩
  · by_cases h : b < n
    · rw [H'.bel.block b h, H.bel.block b h]
    · have e : b = m := by
        by_cases e : b = m
        · exact e
        · exact absurd (fpG_mem (List.mem_range'_1.2 ⟨by omega, by omega⟩)) (hG 0)
      subst e
      have h1 : w'.heap[b]? = some (.cells cs.toArray t (0, 0)) := H'.ok _ hm'
      have h2 : w.heap[b]? = some (.cells cs.toArray t (0, 0)) := H.ok _ hm
      rw [h1, h2]
  · rw [fpG_zero _ _ hg] at hj; omega
section
variable {P : Program} {l : List Oper} {K : Sl → World → Prop} {s : Sl} {w : World}
theorem draw_zn {tg : Tg (l.toArray, K)} (pl : List (Nat × Bool)) (z : Nat) (late : List Nat) (n : Nat) (G : List (Nat × Nat)) (h : ∀ w1, w1.heap = w.heap → (∀ m, Below m w w1) → Dpl P l.toArray n G w1 (fun s w => DLate P l.toArray K late .mk s w) pl .mk s w1)
    (hs : Region.noSelect l.toArray = true := by kernel_rfl) (hp : planPre l.toArray pl (Array.replicate l.toArray.size false) = true := by kernel_rfl) (hz : planZ l.toArray z pl = true := by kernel_rfl)
    (hq : lateOk l.toArray z late (planTo pl (Array.replicate l.toArray.size false)) = true := by kernel_rfl) (hl : pl.length + late.length = l.toArray.size := by decide) : Adraw P l.toArray K tg s w := by
  have h1 := h w.drew rfl fun m => (Below.refl m w).drew
  have key : adrZ P l.toArray K (Kept n G w.drew) z l.toArray.size (Array.replicate l.toArray.size false) s w.drew := by
    rw [← hl]
    refine preZ_sound hs pl late.length _ s w.drew (closed_none _ _) (by rw [hl]; exact hp) hz (Kept.refl ..) ?_
    have : ∀ (s : Sl) (w' : World), DLate P l.toArray K late .mk s w' → Kept n G w.drew w' → adrZ P l.toArray K (Kept n G w.drew) z late.length (planTo pl (Array.replicate (pl.length + late.length) false)) s w' := fun s w' hd _ => late_sound late _ _ s w' (by rw [hl]; exact hq) (Nat.le_refl _) hd
    exact dpl_mono this pl s w.drew h1
  exact fun m a ha hok => wpAny_of_Z _ _ _ _ (key m a ha hok)
end
/-! ### behind the early operations nothing need be kept: a second plan, of what does not read -/
def lateOnly (z : Nat) (listed : Array Bool) : Bool := (List.range z).all fun i => listed.getD i true
theorem wpAnyZ_weak {P : Program} {ops : Array Oper} {Q : Exit → Act → World → Prop} {S S' : World → Prop} {z z' : Nat} : ∀ (fuel : Nat) (listed : Array Bool) (a : Act) (w : World), (∀ i, i < z → listed.getD i true = true) → wpAnyZ P .any ops Q S' z' fuel listed a w → wpAnyZ P .any ops Q S z fuel listed a w
  | 0, _, _, _, _, h => h
  | fuel + 1, listed, a, w, hl, h => by
    refine ⟨h.1, fun i hi => wpOp_mono (fun a' w' h' => ⟨fun hlt => ?_, wpAnyZ_weak fuel _ a' w' (fun k hk => ?_) h'.2⟩) (h.2 i hi)⟩
    · have hun := (mem_ready.1 hi).1
      rw [hl i hlt] at hun
      exact Bool.noConfusion hun
    · by_cases e : i = k
      · subst e
        rcases Nat.lt_or_ge i listed.size with h' | h'
        · simp [h']
        · simp [h']
      · rw [getD_set_ne true e]; exact hl k hk
theorem closed_plan {ops : Array Oper} : ∀ (pl : List (Nat × Bool)) (listed : Array Bool), Closed ops listed → planPre ops pl listed = true → Closed ops (planTo pl listed)
  | [], _, h, _ => h
  | (i, true) :: r, listed, h, hp => by
    simp only [planPre, Bool.and_eq_true] at hp
    exact closed_plan r _ (closed_set h (by simpa using hp.1.2)) hp.2
  | (i, false) :: r, listed, h, hp => by
    simp only [planPre, Bool.and_eq_true, beq_iff_eq] at hp
    exact closed_plan r _ (closed_set h (by rw [hp.1]; simp)) hp.2
theorem kept_zero (w0 w : World) : Kept 0 [] w0 w := ⟨fun _ => Nat.zero_le _, fun b hb => absurd hb (Nat.not_lt_zero _), fun _ _ h => by cases h⟩
section
variable {P : Program} {l : List Oper} {K : Sl → World → Prop} {s : Sl} {w : World}
theorem draw_zp {tg : Tg (l.toArray, K)} (pl : List (Nat × Bool)) (z : Nat) (pl2 : List (Nat × Bool)) (n : Nat) (G : List (Nat × Nat)) (h : ∀ w1, w1.heap = w.heap → (∀ m, Below m w w1) → Dpl P l.toArray n G w1 (fun s w => Dpl P l.toArray 0 [] w1 K pl2 .mk s w) pl .mk s w1)
    (hs : Region.noSelect l.toArray = true := by kernel_rfl) (hp : planPre l.toArray pl (Array.replicate l.toArray.size false) = true := by kernel_rfl) (hz : planZ l.toArray z pl = true := by kernel_rfl)
    (hq : planPre l.toArray pl2 (planTo pl (Array.replicate l.toArray.size false)) = true := by kernel_rfl) (hz2 : planZ l.toArray l.toArray.size pl2 = true := by kernel_rfl) (hlate : lateOnly z (planTo pl (Array.replicate l.toArray.size false)) = true := by kernel_rfl)
    (hend : (Region.ready .any l.toArray (planTo pl2 (planTo pl (Array.replicate l.toArray.size false)))).isEmpty = true := by kernel_rfl) (hl : pl.length + pl2.length = l.toArray.size := by decide) : Adraw P l.toArray K tg s w := by
  have h1 := h w.drew rfl fun m => (Below.refl m w).drew
  have key : adrZ P l.toArray K (Kept n G w.drew) z l.toArray.size (Array.replicate l.toArray.size false) s w.drew := by
    rw [← hl]
    refine preZ_sound hs pl pl2.length _ s w.drew (closed_none _ _) (by rw [hl]; exact hp) hz (Kept.refl ..) ?_
    have : ∀ (s : Sl) (w' : World), Dpl P l.toArray 0 [] w.drew K pl2 .mk s w' → Kept n G w.drew w' → adrZ P l.toArray K (Kept n G w.drew) z pl2.length (planTo pl (Array.replicate (pl.length + pl2.length) false)) s w' := by
      intro s w' hd _
      rw [hl]
      have h2 := preZ_sound (S := Kept 0 [] w.drew) (z := l.toArray.size) (K := K) hs pl2 0 _ s w' (closed_plan pl _ (closed_none _ _) hp) hq hz2 (kept_zero _ _) (dpl_mono (fun s w' hk _ => adrZ_done (by simpa using hend) hk) pl2 s w' hd)
      exact fun m a ha hok => wpAnyZ_weak _ _ _ _ (fun i hi => List.all_eq_true.1 hlate i (List.mem_range.2 hi)) (h2 m a ha hok)
    exact dpl_mono this pl s w.drew h1
  exact fun m a ha hok => wpAny_of_Z _ _ _ _ (key m a ha hok)
end
section
variable {P : Program} {n : Nat} {w0 w : World} {L : List Ck} {K : Value → Prop}
theorem q_ldX {m : Nat} {tg : Tg (m + 1, Gb n m, w, K)} (H : Sep n w0 w L) {j : Nat} {cs : List Value} {t e : TypeId} {z v : Value} (HS : ScT P e z) (h : K v) (hm : Ck.box m cs t ∈ L := by repeat (first | exact List.mem_cons_self | apply List.mem_cons_of_mem)) (hv : cs[j]? = some v := by rfl) :
    QS P (m + 1) (Gb n m) w K tg (Instr.loadAt e (.pointer (some ⟨m, j, none⟩))) := qx_load HS (by rw [H.cell hm]; exact hv) (Nat.lt_succ_self _) (Gb_not n m) h
theorem q_ldaX {m : Nat} {tg : Tg (m + 1, Gb n m, w, K)} (H : Sep n w0 w L) {cs : List Value} {t e : TypeId} {sz : Nat} {z : Array Value} (HS : StT P e sz z) (h : K (.agg cs.toArray)) (hm : Ck.box m cs t ∈ L := by repeat (first | exact List.mem_cons_self | apply List.mem_cons_of_mem)) (hl : cs.length = sz := by rfl) :
    QS P (m + 1) (Gb n m) w K tg (Instr.loadAt e (.pointer (some ⟨m, 0, none⟩))) := qx_loadAgg HS cs hl (fun j v hj => by rw [Kd.add_plain, H.cell hm]; exact hj) (Nat.lt_succ_self _) (Gb_not n m) h
end
section
variable {P : Program} {m : Nat} {w : World} {KQ : Value → Prop} {G : List (Nat × Nat)} {tq : Tg (m, G, w, KQ)} {α : Type} {d : Kd α}
/-- l[:hi], to be read in whatever world l is read. -/
theorem q_toA {wr : World} {t e sz by_ : Nat} {z : Value} (HS : SlT P t e sz by_ z) (hd : d.sz = sz) {q : Nat} {v : Value} {l : List α} {k : IntKind} {hi : Nat} (hr : (Kd.slice e d).rd wr q [v] l) (h1 : hi ≤ l.length)
    (h : ∀ v', (∀ w' q', (Kd.slice e d).rd w' q' [v] l → (Kd.slice e d).rd w' q' [v'] (l.take hi)) → KQ v') : QS P m G w KQ tq (Instr.sliceAt t v none (some (.int k (hi : Int))) none) := by
  obtain ⟨A, c, rfl, h3, h4, hl⟩ := sl_open hr
  refine QS_of (fun w' _ => (run_sub HS (w := w') (k := .i64) (lo := 0)).2.1 (by omega)) (h _ fun w' q' hr' => ?_)
  obtain ⟨A', c', e', _, _, hl'⟩ := sl_open hr'
  simp only [Value.slice.injEq] at e'
  obtain ⟨rfl, _, rfl⟩ := e'
  have := sub_rd (e := e) hl' (Nat.zero_le hi) h1 h3 h4
  rw [hd] at this
  simpa using this
theorem q_fromA {wr : World} {t e sz by_ : Nat} {z : Value} (HS : SlT P t e sz by_ z) (hd : d.sz = sz) {q : Nat} {v : Value} {l : List α} {k : IntKind} {lo : Nat} (hr : (Kd.slice e d).rd wr q [v] l) (h1 : lo ≤ l.length)
    (h : ∀ v', (∀ w' q', (Kd.slice e d).rd w' q' [v] l → (Kd.slice e d).rd w' q' [v'] (l.drop lo)) → KQ v') : QS P m G w KQ tq (Instr.sliceAt t v (some (.int k (lo : Int))) none none) := by
  obtain ⟨A, c, rfl, h3, h4, hl⟩ := sl_open hr
  refine QS_of (fun w' _ => (run_sub HS (w := w') (k' := .i64) (hi := 0)).2.2 (by omega)) (h _ fun w' q' hr' => ?_)
  obtain ⟨A', c', e', _, _, hl'⟩ := sl_open hr'
  simp only [Value.slice.injEq] at e'
  obtain ⟨rfl, _, rfl⟩ := e'
  have := sub_rd (e := e) hl' h1 (Nat.le_refl _) h3 h4
  rw [hd, List.take_of_length_le (by simp)] at this
  exact this
end
theorem low4 {k : Nat} (h : k = 0 ∨ (k : Int) < 4) : k < 256 := by omega
section
variable {P : Program} {n : Nat} {w0 : World} {G : List (Nat × Nat)} {K : Value → Prop} {tg : Tg (n, G, w0, K)}
theorem q_ext {vs : Array Value} {i : Nat} {v : Value} (h : K v) (hv : vs[i]? = some v := by rfl) : QS P n G w0 K tg (Instr.extract (.tuple vs) i) :=
  QS_of (fun w _ => by simp [Instr.extract, hv]) h
end
/-! ### what a drawn item is like -/
def Di (x : MItem) : Prop := x.f_Route.length ≤ 16 ∧ x.f_Bytes.length ≤ 6
theorem Di.sm {x : MItem} (h : Di x) : smItem x := by obtain ⟨h1, h2⟩ := h; exact ⟨by omega, by omega⟩
theorem Di_of {r b : List UInt8} {t d : Int} (h1 : r.length ≤ 16) (h2 : b.length ≤ 6) : Di ⟨r, t, d, b⟩ := ⟨h1, h2⟩
theorem low_rg {k m : Nat} (h : k = 0 ∨ (k : Int) < (m : Int)) (hm : m ≤ 256) : -9223372036854775808 ≤ (k : Int) ∧ (k : Int) < 9223372036854775808 := by omega
theorem len_lo {r : List UInt8} (h : r.length = 16) : r.length ≤ 16 := by omega
theorem len_lo2 {r : List UInt8} (h : r.length ≤ 16) : r.length ≤ 9223372036854775807 := by omega
theorem one_itemD {a : ByteArray} {x y : Int} {A : Option Addr} {m c : Nat} : ∀ v ∈ [Value.string a, .int .i64 x, .int .i64 y, .slice A m c], v.oneCell' = true := by
  intro v hv
  simp only [List.mem_cons, List.not_mem_nil, or_false] at hv
  rcases hv with rfl | rfl | rfl | rfl <;> rfl
def oddS : List (List UInt8) := [[], [48, 48], [48, 48, 48, 48, 48, 48, 48, 48, 48, 48, 48, 48, 48, 48, 48, 103]]
theorem oddS_len : ∀ x ∈ oddS, x.length ≤ 16 := by
  intro x hx
  simp only [oddS, List.mem_cons, List.not_mem_nil, or_false] at hx
  rcases hx with rfl | rfl | rfl <;> decide
theorem oddS_lo : ∀ x ∈ oddS, x.length ≤ 9223372036854775807 := fun x hx => by have := oddS_len x hx; omega
theorem l13DrawItem_ok {n : Nat} {w0 w : World} {L : List Ck} {g : Nat} {v : Value} {i h : Int} {a : List UInt8} (H : Sep n w0 w (curB g v i h :: L)) (hv : (bytes 5).rd w0 n [v] a) (hi : 0 ≤ i ∧ i ≤ a.length) :
    ACalls Tryz.prog 72 #[.pointer (some ⟨g, 0, none⟩)] w fun r w' => ∃ (cs : List Value) (fp : List Nat) (x : MItem) (i' h' : Int), r = .agg cs.toArray ∧ Di x ∧ (0 ≤ i' ∧ i' ≤ a.length) ∧ Sep n w0 w' (Ck.own kItem fp cs x :: curB g v i' h' :: L) := by
  refine body_of follows Tryz.func72 rfl rfl _ rfl (by kernel_rfl) (vs ?_)
  refine x_al H st32 fun g2 w1 H => vs ?_
  have H := H.front (c := curB g v i h)
  refine x_call (l13DrawRoute_ok H hv hi) fun _ w2 ⟨R, i1, h1, e, hR, hi1, H⟩ => ?_
  subst e
  refine vs ?_
  refine x_call (l1Below_ok 3 H hv hi1) fun _ w3 ⟨k, i2, h2, e, hk, hi2, H⟩ => ?_
  subst e
  refine vs ?_
  refine x_lst H pl_i64 sl98 [0, 5, 20, 100] (by simp) fun g3 w4 H => vs ?_
  refine x_call (l1PickInt_ok _ H hv hi2 (by simp)) fun _ w5 ⟨D, i3, h3, e, _, hD, hi3, H⟩ => ?_
  subst e
  refine vs ?_
  refine x_call (l1DrawBytes_ok 6 H hv hi3 (by omega)) fun r w6 ⟨b, fb, i4, h4, hb, hi4, H⟩ => ?_
  obtain ⟨A, c, rfl, _⟩ := sl_open (H.own (.head _))
  refine vs ?_
  refine x_build bl32 [.string ⟨R.toArray⟩, .int .i64 (k : Int), .int .i64 D, .slice A b.length c] ?_
  refine vs ?_
  refine x_al H st32 fun g6 w7 H => vs ?_
  refine x_sta H st32 (vs := [.string ⟨R.toArray⟩, .int .i64 (k : Int), .int .i64 D, .slice A b.length c]) (h1 := one_itemD) fun w8 H => vs ?_
  have hk' := low_rg (m := 3) hk (by decide)
  have H := H.front (c := curB g v i4 h4)
  refine x_call (l1Below_ok 16 H hv hi4) fun _ w9 ⟨q, i5, h5, e, hq, hi5, H⟩ => ?_
  subst e
  by_cases q0 : (q : Int) = 0
  · refine ve q0 ?_
    refine x_lst H pl_str sl129 oddS oddS_lo fun g7 w10 H => vs ?_
    refine x_call (l1Pick_ok oddS H hv hi5 (by decide)) fun _ w11 ⟨R2, i6, h6, e, hR2, hi6, H⟩ => ?_
    subst e
    refine vs ?_
    refine x_st H sc9 fun w11 H => vs ?_
    refine x_lda H st32 ?_
    refine vs ?_
    refine x_sta H st32 (vs := [.string ⟨R2.toArray⟩, .int .i64 ((k : Int)), .int .i64 D, .slice A b.length c]) (h1 := one_itemD) fun w12 H => vs ?_
    have hres := res_cell H (g := g2) (cs := [.string ⟨R2.toArray⟩, .int .i64 ((k : Int)), .int .i64 D, .slice A b.length c]) st32
    have H := H.front (c := curB g v i6 h6)
    have H := H.front (c := Ck.own (bytes 5) fb [.slice A b.length c] b)
    obtain ⟨fp, H⟩ := ownItem (⟨R2, (k : Int), D, b⟩ : MItem) H (len_lo2 (oddS_len R2 hR2)) hk' hD
    have H := H.drops' (L := [_, _])
    have H := H.drops' (L := [_, _])
    exact ⟨_, _, rfl, hres, _, fp, (⟨R2, (k : Int), D, b⟩ : MItem), i6, h6, rfl, Di_of (oddS_len R2 hR2) hb, hi6, H⟩
  refine ve q0 ?_
  by_cases q1 : (q : Int) = 1
  · refine ve q1 ?_
    refine x_lst H pl_i64 sl98 [-1, 9, 10] (by simp) fun g7 w10 H => vs ?_
    refine x_call (l1PickInt_ok _ H hv hi5 (by simp)) fun _ w11 ⟨T2, i6, h6, e, _, hT2, hi6, H⟩ => ?_
    subst e
    refine vs ?_
    refine x_st H sc3 fun w11 H => vs ?_
    refine x_lda H st32 ?_
    refine vs ?_
    refine x_sta H st32 (vs := [.string ⟨R.toArray⟩, .int .i64 T2, .int .i64 D, .slice A b.length c]) (h1 := one_itemD) fun w12 H => vs ?_
    have hres := res_cell H (g := g2) (cs := [.string ⟨R.toArray⟩, .int .i64 T2, .int .i64 D, .slice A b.length c]) st32
    have H := H.front (c := curB g v i6 h6)
    have H := H.front (c := Ck.own (bytes 5) fb [.slice A b.length c] b)
    obtain ⟨fp, H⟩ := ownItem (⟨R, T2, D, b⟩ : MItem) H (len_lo2 (len_lo hR)) hT2 hD
    have H := H.drops' (L := [_, _])
    have H := H.drops' (L := [_, _])
    exact ⟨_, _, rfl, hres, _, fp, (⟨R, T2, D, b⟩ : MItem), i6, h6, rfl, Di_of (len_lo hR) hb, hi6, H⟩
  refine ve q1 ?_
  by_cases q2 : (q : Int) = 2
  · refine ve q2 ?_
    refine x_lst H pl_i64 sl98 [-1, 100000, 100001] (by simp) fun g7 w10 H => vs ?_
    refine x_call (l1PickInt_ok _ H hv hi5 (by simp)) fun _ w11 ⟨D2, i6, h6, e, _, hD2, hi6, H⟩ => ?_
    subst e
    refine vs ?_
    refine x_st H sc3 fun w11 H => vs ?_
    refine x_lda H st32 ?_
    refine vs ?_
    refine x_sta H st32 (vs := [.string ⟨R.toArray⟩, .int .i64 ((k : Int)), .int .i64 D2, .slice A b.length c]) (h1 := one_itemD) fun w12 H => vs ?_
    have hres := res_cell H (g := g2) (cs := [.string ⟨R.toArray⟩, .int .i64 ((k : Int)), .int .i64 D2, .slice A b.length c]) st32
    have H := H.front (c := curB g v i6 h6)
    have H := H.front (c := Ck.own (bytes 5) fb [.slice A b.length c] b)
    obtain ⟨fp, H⟩ := ownItem (⟨R, (k : Int), D2, b⟩ : MItem) H (len_lo2 (len_lo hR)) hk' hD2
    have H := H.drops' (L := [_, _])
    have H := H.drops' (L := [_, _])
    exact ⟨_, _, rfl, hres, _, fp, (⟨R, (k : Int), D2, b⟩ : MItem), i6, h6, rfl, Di_of (len_lo hR) hb, hi6, H⟩
  refine ve q2 ?_
  refine x_lda H st32 ?_
  refine vs ?_
  refine x_sta H st32 (vs := [.string ⟨R.toArray⟩, .int .i64 ((k : Int)), .int .i64 D, .slice A b.length c]) (h1 := one_itemD) fun w12 H => vs ?_
  have hres := res_cell H (g := g2) (cs := [.string ⟨R.toArray⟩, .int .i64 ((k : Int)), .int .i64 D, .slice A b.length c]) st32
  have H := H.front (c := curB g v i5 h5)
  have H := H.front (c := Ck.own (bytes 5) fb [.slice A b.length c] b)
  obtain ⟨fp, H⟩ := ownItem (⟨R, (k : Int), D, b⟩ : MItem) H (len_lo2 (len_lo hR)) hk' hD
  have H := H.drops' (L := [_, _])
  have H := H.drops' (L := [_, _])
  exact ⟨_, _, rfl, hres, _, fp, (⟨R, (k : Int), D, b⟩ : MItem), i5, h5, rfl, Di_of (len_lo hR) hb, hi5, H⟩
/-! ### bytes dented -/
theorem l14Dent_ok {n : Nat} {w0 w : World} {L : List Ck} {g : Nat} {v u : Value} {i h : Int} {a b : List UInt8} {fb : List Nat} (H : Sep n w0 w (Ck.own (bytes 5) fb [u] b :: curB g v i h :: L)) (hv : (bytes 5).rd w0 n [v] a) (hi : 0 ≤ i ∧ i ≤ a.length) (hb : b.length ≤ 1000000) :
    ACalls Tryz.prog 132 #[.pointer (some ⟨g, 0, none⟩), u] w fun r w' => ∃ (b' : List UInt8) (fp : List Nat) (i' h' : Int), b'.length ≤ b.length + 1 ∧ (0 ≤ i' ∧ i' ≤ a.length) ∧ Sep n w0 w' (Ck.own (bytes 5) fp [r] b' :: curB g v i' h' :: L) := by
  obtain ⟨A, c, rfl, hc1, hc2, _⟩ := sl_open (H.own (.head _))
  refine body_of follows Tryz.func132 rfl rfl _ rfl (by kernel_rfl) (vs ?_)
  refine ve (show w64 ((b.length : Int) + 1) = ((b.length + 1 : Nat) : Int) by unfold w64; omega) ?_
  have H := H.front (c := curB g v i h)
  refine x_call (l1Below_ok ((b.length + 1 : Nat) : Int) H hv hi) fun _ w1 ⟨k, i1, h1, e, hk, hi1, H⟩ => ?_
  subst e
  have hk2 : k ≤ b.length := by omega
  refine vs ?_
  refine x_call (l1Below_ok 5 H hv hi1) fun _ w2 ⟨q, i2, h2, e, hq, hi2, H⟩ => ?_
  subst e
  by_cases q0 : (q : Int) = 0
  · refine ve q0 ?_
    refine x_hiO sl22 (hi := k) (by omega) ?_
    refine vs ?_
    have H := (H.front (c := Ck.own (bytes 5) fb [.slice A b.length c] b)).takeO pl_u8 hk2
    exact ⟨_, _, _, _, by rw [List.length_take]; omega, hi2, H⟩
  refine ve q0 ?_
  by_cases q1 : (q : Int) = 1
  · refine ve q1 ?_
    refine draw_of [(1, true), (2, true), (3, true), (5, true), (9, true), (10, true), (11, true), (0, false), (4, false), (6, false), (7, true), (8, false), (12, false), (13, false), (14, true)] n [] fun w3 hh hb3 => vs ?_
    have H := H.go (hb3 _)
    have H3 := H
    have hr := H.own (d := bytes 5) (fp := fb) (cs := [.slice A b.length c]) (x := b) (by simp)
    refine q_toA sl22 rfl hr hk2 fun v1 hv1 => ?_
    refine vs ?_
    refine q_fromA sl22 rfl hr hk2 fun v2 hv2 => ?_
    refine vs ?_
    refine x_emp H pl_u8 sl22 fun g4 w4 H => vs ?_
    refine ⟨kept_base H3 H, ?_⟩
    have r1 := hv1 _ _ (H.own (d := bytes 5) (fp := fb) (cs := [.slice A b.length c]) (x := b) (by simp))
    refine x_app H pl_u8 sl22 r1 ?_ ?_ fun f5 v5 w5 H => vs ?_
    · simp only [List.length_nil, List.length_take]; omega
    · simp only [List.length_nil, List.length_take]; omega
    refine ⟨kept_base H3 H, ?_⟩
    rw [List.nil_append] at H
    have H := H.front (c := curB g v i2 h2)
    refine x_call (l1Below_ok 4 H hv hi2) fun _ w6 ⟨q2, i3, h3, e, hq2, hi3, H⟩ => ?_
    subst e
    refine vs ?_
    refine ⟨kept_base H3 H, ?_⟩
    refine ve (u8_low (k := q2) (low4 hq2)) ?_
    refine x_lst H pl_u8 sl22 [UInt8.ofNat q2] (by simp) fun g7 w7 H => vs ?_
    refine ⟨kept_base H3 H, ?_⟩
    have r2 := hv2 _ _ (H.own (d := bytes 5) (fp := fb) (cs := [.slice A b.length c]) (x := b) (by simp))
    refine x_app H pl_u8 sl22 r2 ?_ ?_ (fun f8 v8 w8 H => vs ?_) (hm := .here)
    · simp only [List.length_cons, List.length_nil, List.length_drop]; omega
    · simp only [List.length_cons, List.length_nil, List.length_drop]; omega
    refine ⟨kept_base H3 H, ?_⟩
    have r3 := H.own (d := bytes 5) (fp := f8) (cs := [v8]) (x := [UInt8.ofNat q2] ++ b.drop k) (by simp)
    have H := H.front (c := Ck.own (bytes 5) f5 [v5] (b.take k))
    refine x_app H pl_u8 sl22 r3 ?_ ?_ (fun f9 v9 w9 H => vs ?_) (hm := .here)
    · simp only [List.length_append, List.length_cons, List.length_nil, List.length_drop, List.length_take]; omega
    · simp only [List.length_append, List.length_cons, List.length_nil, List.length_drop, List.length_take]; omega
    refine ⟨kept_base H3 H, ?_⟩
    have H := H.front (c := curB g v i3 h3)
    have H := H.front (c := Ck.own (bytes 5) f9 [v9] (b.take k ++ ([UInt8.ofNat q2] ++ b.drop k)))
    have H := H.drops' (L := [_, _])
    have H := H.drops' (L := [_, _])
    exact ⟨_, _, _, _, by simp only [List.length_append, List.length_cons, List.length_nil, List.length_drop, List.length_take]; omega, hi3, H⟩
  · refine ve q1 ?_
    have H := H.front (c := Ck.own (bytes 5) fb [.slice A b.length c] b)
    exact ⟨_, _, _, _, by omega, hi2, H⟩

theorem postNew_okD : postOk zPost = true := by
  rw [postOk_iff]
  refine ⟨⟨rfl, by decide, by decide, by decide⟩, ?_⟩
  show playGo [] [] 0 0 = _
  rw [playGo_none lineAt_nil]; rfl
theorem postOk_smD {p : MPost} (h : postOk p = true) : smPost p := by
  obtain ⟨⟨h1, h2, h3, h4⟩, h5⟩ := postOk_iff.1 h
  have q : QI p.f_Queue := ⟨(queueOk_iff.1 h1).1, queueOk_item h1⟩
  unfold smPost
  exact ⟨q.sm, by omega⟩
/-- An owned post, in its parts. -/
theorem openPost {n : Nat} {w0 w : World} {L : List Ck} {fp : List Nat} {cs : List Value} (x : MPost) (H : Sep n w0 w (Ck.own kPost fp cs x :: L)) :
    ∃ f0 f2 v0 v2, cs = [v0, .int .i64 x.f_Time, v2, .int .i64 x.f_Sure] ∧ Sep n w0 w (Ck.own items f0 [v0] x.f_Queue :: Ck.own (bytes 5) f2 [v2] x.f_Book :: L) := by
  have H0 : Sep n w0 w (Ck.own (Kd.pair items (Kd.pair Kd.i64 (Kd.pair (bytes 5) Kd.i64))) fp cs (x.f_Queue, x.f_Time, x.f_Book, x.f_Sure) :: L) := H
  clear H
  obtain ⟨f0, f1, a0, a1, rfl, rfl, H1⟩ := H0.unpair
  have H2 : Sep n w0 w (Ck.own items f0 a0 x.f_Queue :: Ck.own (Kd.pair Kd.i64 (Kd.pair (bytes 5) Kd.i64)) f1 a1 (x.f_Time, x.f_Book, x.f_Sure) :: L) := H1
  have H3 := H2.front (c := Ck.own (Kd.pair Kd.i64 (Kd.pair (bytes 5) Kd.i64)) f1 a1 (x.f_Time, x.f_Book, x.f_Sure)) (.there .here)
  obtain ⟨fT, f3, aT, a3, rfl, rfl, H4⟩ := H3.unpair
  have H5 : Sep n w0 w (Ck.own Kd.i64 fT aT x.f_Time :: Ck.own (Kd.pair (bytes 5) Kd.i64) f3 a3 (x.f_Book, x.f_Sure) :: Ck.own items f0 a0 x.f_Queue :: L) := H4
  have H6 := H5.front (c := Ck.own (Kd.pair (bytes 5) Kd.i64) f3 a3 (x.f_Book, x.f_Sure)) (.there .here)
  obtain ⟨f2, fS, a2, aS, rfl, rfl, H7⟩ := H6.unpair
  have H : Sep n w0 w (Ck.own (bytes 5) f2 a2 x.f_Book :: Ck.own Kd.i64 fS aS x.f_Sure :: Ck.own Kd.i64 fT aT x.f_Time :: Ck.own items f0 a0 x.f_Queue :: L) := H7
  clear H0 H1 H2 H3 H4 H5 H6 H7
  have eT : Kd.i64.rd w w.heap.size aT x.f_Time := H.own (d := Kd.i64) (fp := fT) (by simp)
  have eS : Kd.i64.rd w w.heap.size aS x.f_Sure := H.own (d := Kd.i64) (fp := fS) (by simp)
  have e0 : items.rd w w.heap.size a0 x.f_Queue := H.own (d := items) (fp := f0) (by simp)
  have e2 : (bytes 5).rd w w.heap.size a2 x.f_Book := H.own (d := bytes 5) (fp := f2) (by simp)
  obtain ⟨v0, rfl⟩ := sl_one e0
  obtain ⟨v2, rfl⟩ := sl_one e2
  have h1 := H.front (c := Ck.own (bytes 5) f2 [v2] x.f_Book) .here
  have h2 := h1.front (c := Ck.own items f0 [v0] x.f_Queue) (.there (.there (.there .here)))
  have h3 := h2.drops' (L := [_, _])
  have h4 := h3.drops' (L := [_, _])
  refine ⟨f0, f2, v0, v2, ?_, h4⟩
  rw [eT.1, eS.1]; rfl
theorem specPostNew_new (w : World) : ACalls Tryz.prog 35 #[] w fun r w' => r = .agg #[.slice none 0 0, .int .i64 0, .slice none 0 0, .int .i64 0] ∧ Below w.heap.size w w' := by
  have H := Sep.start w
  refine body_of follows Tryz.func35 rfl rfl _ rfl (by kernel_rfl) (vs ?_)
  refine x_al H st26 fun g1 w1 H => vs ?_
  refine x_build bl26 [.slice none 0 0, .int .i64 0, .slice none 0 0, .int .i64 0] ?_
  refine vs ?_
  refine x_sta H st26 (vs := [.slice none 0 0, .int .i64 0, .slice none 0 0, .int .i64 0]) (h1 := by simp [Value.oneCell']) fun w2 H => vs ?_
  exact ⟨_, _, rfl, res_cell H st26, rfl, H.bel⟩
theorem implPostNew_new (w : World) : ACalls Tryz.prog 10 #[] w fun r w' => r = .agg #[.slice none 0 0, .int .i64 0, .slice none 0 0, .int .i64 0] ∧ Below w.heap.size w w' := by
  have H := Sep.start w
  refine body_of follows Tryz.func10 rfl rfl _ rfl (by kernel_rfl) (vs ?_)
  refine x_al H st26 fun g1 w1 H => vs ?_
  refine x_build bl26 [.slice none 0 0, .int .i64 0, .slice none 0 0, .int .i64 0] ?_
  refine vs ?_
  refine x_sta H st26 (vs := [.slice none 0 0, .int .i64 0, .slice none 0 0, .int .i64 0]) (h1 := by simp [Value.oneCell']) fun w2 H => vs ?_
  exact ⟨_, _, rfl, res_cell H st26, rfl, H.bel⟩
theorem up_9 {k q : Nat} (h : (k : Int) < (q : Int)) (hq : q = 0 ∨ (q : Int) < 9) : w64 ((k : Int) + 1) = ((k + 1 : Nat) : Int) ∧ 9 - (k + 1) < 9 - k := by unfold w64; omega
theorem tm_8 {t : Int} {q : Nat} (h : 0 ≤ t ∧ t ≤ 100000) (hq : q = 0 ∨ (q : Int) < 8) : w64 (t + (q : Int)) = t + (q : Int) ∧ (-9223372036854775808 ≤ t + (q : Int) ∧ t + (q : Int) < 9223372036854775808) := by unfold w64; omega
theorem rt_lo {r : List UInt8} (h : r.length = 16) : r.length ≤ 1048576 := by omega
theorem l15DrawRight_ok {n : Nat} {w0 w : World} {L : List Ck} {g : Nat} {v : Value} {i h : Int} {a : List UInt8} (H : Sep n w0 w (curB g v i h :: L)) (hv : (bytes 5).rd w0 n [v] a) (hi : 0 ≤ i ∧ i ≤ a.length) :
    ACalls Tryz.prog 130 #[.pointer (some ⟨g, 0, none⟩)] w fun r w' => ∃ (cs : List Value) (fp : List Nat) (p : MPost) (i' h' : Int), r = .agg cs.toArray ∧ postOk p = true ∧ (0 ≤ i' ∧ i' ≤ a.length) ∧ Sep n w0 w' (Ck.own kPost fp cs p :: curB g v i' h' :: L) := by
  refine body_of follows Tryz.func130 rfl rfl _ rfl (by kernel_rfl) (vs ?_)
  refine x_al H st26 fun g2 w1 H => vs ?_
  refine x_call (specPostNew_new w1) fun _ w2 ⟨e, hb⟩ => ?_
  subst e
  have H := H.go hb
  have H := H.nothing (kPost_zero w2)
  refine vs ?_
  refine x_al H st26 fun g3 w3 H => vs ?_
  refine x_sta H st26 (vs := [.slice none 0 0, .int .i64 0, .slice none 0 0, .int .i64 0]) (h1 := Kd.one _ (H.own (d := kPost) (fp := []) (cs := [.slice none 0 0, .int .i64 0, .slice none 0 0, .int .i64 0]) (x := zPost) (by simp))) fun w4 H => vs ?_
  have H := H.front (c := curB g v i h)
  have H := H.front (c := Ck.own kPost [] [.slice none 0 0, .int .i64 0, .slice none 0 0, .int .i64 0] zPost)
  have H := H.front (c := Ck.box g3 [.slice none 0 0, .int .i64 0, .slice none 0 0, .int .i64 0] 26)
  refine loop_at (σ := Nat × MPost × List Value × List Nat × Int × Int) (fun y => [(0, .pointer (some ⟨g, 0, none⟩)), (2, .pointer (some ⟨g2, 0, none⟩)), (3, .pointer (some ⟨g3, 0, none⟩)), (4, .int .i64 (y.1 : Int))])
    (fun y w' => postOk y.2.1 = true ∧ (0 ≤ y.2.2.2.2.1 ∧ y.2.2.2.2.1 ≤ a.length) ∧ Sep n w0 w' (Ck.box g3 y.2.2.1 26 :: Ck.own kPost y.2.2.2.1 y.2.2.1 y.2.1 :: curB g v y.2.2.2.2.1 y.2.2.2.2.2 :: Ck.box g2 [.slice none 0 0, .int .i64 0, .slice none 0 0, .int .i64 0] 26 :: L)) (fun y => 9 - y.1) (0, zPost, [.slice none 0 0, .int .i64 0, .slice none 0 0, .int .i64 0], [], i, h) (vs trivial) ⟨postNew_okD, hi, H⟩ ?_
  rintro ⟨k, p, cs, fp, i1, h1⟩ s w5 ⟨hok, hi1, H⟩
  dsimp only at hok hi1 H
  have hsm := postOk_smD hok
  have hT := (postOk_iff.1 hok).1.2.1
  obtain ⟨v1, v2, rfl, _⟩ := kPost_open (H.own (d := kPost) (fp := fp) (cs := cs) (x := p) (by simp))
  refine vs ?_
  have H := H.front (c := curB g v i1 h1)
  refine x_call (l1Below_ok 9 H hv hi1) fun _ w6 ⟨m, i2, h2, e, hm, hi2, H⟩ => ?_
  subst e
  by_cases hlt : (k : Int) < (m : Int)
  rotate_left
  · refine ve hlt ?_
    refine x_lda H st26 ?_
    refine vs ?_
    refine x_sta H st26 (vs := [v1, .int .i64 p.f_Time, v2, .int .i64 p.f_Sure]) (h1 := Kd.one _ (H.own (d := kPost) (fp := fp) (cs := [v1, .int .i64 p.f_Time, v2, .int .i64 p.f_Sure]) (x := p) (by simp))) fun w7 H => vs ?_
    have hres := res_cell H (g := g2) (cs := [v1, .int .i64 p.f_Time, v2, .int .i64 p.f_Sure]) st26
    have H := H.front (c := curB g v i2 h2)
    have H := H.front (c := Ck.own kPost fp [v1, .int .i64 p.f_Time, v2, .int .i64 p.f_Sure] p)
    have H := H.drops' (L := [_, _])
    have H := H.drops' (L := [_, _])
    exact ⟨_, _, rfl, hres, _, fp, p, i2, h2, rfl, hok, hi2, H⟩
  obtain ⟨ek, hdec⟩ := up_9 hlt hm
  refine ve hlt ?_
  refine x_call (l1Below_ok 6 H hv hi2) fun _ w7 ⟨q, i3, h3, e, hq, hi3, H⟩ => ?_
  subst e
  by_cases q0 : (q : Int) = 0
  · refine ve q0 ?_
    refine draw_zp [(0, true), (1, true), (2, false), (3, false), (4, true)] 5 [(5, true), (6, true), (7, true), (8, false)] (g3 + 1) (Gb n g3) fun w8 hh hb8 => vs ?_
    have H := H.go (hb8 _)
    have H8 := H
    refine q_ldaX H st26 ?_
    refine vs ?_
    refine x_call (l13DrawRoute_ok H hv hi3) fun _ w9 ⟨R, i4, h4, e, hR, hi4, H⟩ => ?_
    subst e
    refine vs ?_
    refine ⟨kept_box H8 H, ?_⟩
    refine x_call (specFetch_ok w9 _ p R (H.own (d := kPost) (fp := fp) (cs := [v1, .int .i64 p.f_Time, v2, .int .i64 p.f_Sure]) (x := p) (by simp)) hsm (rt_lo hR)) fun _ w10 ⟨cs2, fp2, ds2, fi2, e, S⟩ => ?_
    subst e
    have H := H.join S
    simp only [List.cons_append, List.nil_append] at H
    refine vs ?_
    refine ⟨kept_box H8 H, ?_⟩
    have gr := fetch_grew R hok
    obtain ⟨p2, hp2⟩ : ∃ p2, p2 = (fetchP p R).1 := ⟨_, rfl⟩
    rw [← hp2] at H gr
    obtain ⟨z1, z2, rfl, _⟩ := kPost_open (H.own (d := kPost) (fp := fp2) (cs := cs2) (x := p2) (by simp))
    refine q_ext ?_
    refine vs ?_
    refine q_ext ?_
    refine vs ?_
    refine q_ext ?_
    refine vs ?_
    refine x_sta H st26 (vs := [z1, .int .i64 p2.f_Time, z2, .int .i64 p2.f_Sure]) (h1 := Kd.one _ (H.own (d := kPost) (fp := fp2) (cs := [z1, .int .i64 p2.f_Time, z2, .int .i64 p2.f_Sure]) (x := p2) (by simp))) fun w12 H => vs ?_
    refine ⟨kept_zero _ _, ?_⟩
    have H := H.front (c := Ck.box g2 [.slice none 0 0, .int .i64 0, .slice none 0 0, .int .i64 0] 26)
    have H := H.front (c := curB g v i4 h4)
    have H := H.front (c := Ck.own kPost fp2 [z1, .int .i64 p2.f_Time, z2, .int .i64 p2.f_Sure] p2)
    have H := H.front (c := Ck.box g3 [z1, .int .i64 p2.f_Time, z2, .int .i64 p2.f_Sure] 26)
    have H := H.drops' (L := [_, _, _, _])
    have H := H.drops' (L := [_, _, _, _])
    exact ⟨(k + 1, p2, _, fp2, i4, h4), i64_eq ek, ⟨gr.1, hi4, H⟩, hdec⟩
  refine ve q0 ?_
  by_cases q1 : (q : Int) = 1
  · refine ve q1 ?_
    refine draw_zp [(0, true), (1, true), (2, true), (3, true), (4, false), (5, true), (6, false), (7, true)] 8 [(8, true), (9, true), (10, false)] (g3 + 1) (Gb n g3) fun w8 hh hb8 => vs ?_
    have H := H.go (hb8 _)
    have H8 := H
    refine q_ldaX H st26 ?_
    refine vs ?_
    refine q_ldX H sc3 ?_
    refine vs ?_
    refine x_call (l1Below_ok 8 H hv hi3) fun _ w9 ⟨m2, i4, h4, e, hm2, hi4, H⟩ => ?_
    subst e
    refine vs ?_
    refine ⟨kept_box H8 H, ?_⟩
    obtain ⟨e8, r8⟩ := tm_8 hT hm2
    refine ve e8 ?_
    refine x_call (specTick_ok w9 _ p (p.f_Time + (m2 : Int)) (H.own (d := kPost) (fp := fp) (cs := [v1, .int .i64 p.f_Time, v2, .int .i64 p.f_Sure]) (x := p) (by simp)) hsm r8) fun _ w10 ⟨cs2, fp2, e, S⟩ => ?_
    subst e
    have H := H.join S
    simp only [List.cons_append, List.nil_append] at H
    refine vs ?_
    refine ⟨kept_box H8 H, ?_⟩
    have gr := tick_grew (p.f_Time + (m2 : Int)) hok
    obtain ⟨p2, hp2⟩ : ∃ p2, p2 = (tickP p (p.f_Time + (m2 : Int))).1 := ⟨_, rfl⟩
    rw [← hp2] at H gr
    obtain ⟨z1, z2, rfl, _⟩ := kPost_open (H.own (d := kPost) (fp := fp2) (cs := cs2) (x := p2) (by simp))
    refine q_ext ?_
    refine vs ?_
    refine q_ext ?_
    refine vs ?_
    refine x_sta H st26 (vs := [z1, .int .i64 p2.f_Time, z2, .int .i64 p2.f_Sure]) (h1 := Kd.one _ (H.own (d := kPost) (fp := fp2) (cs := [z1, .int .i64 p2.f_Time, z2, .int .i64 p2.f_Sure]) (x := p2) (by simp))) fun w12 H => vs ?_
    refine ⟨kept_zero _ _, ?_⟩
    have H := H.front (c := Ck.box g2 [.slice none 0 0, .int .i64 0, .slice none 0 0, .int .i64 0] 26)
    have H := H.front (c := curB g v i4 h4)
    have H := H.front (c := Ck.own kPost fp2 [z1, .int .i64 p2.f_Time, z2, .int .i64 p2.f_Sure] p2)
    have H := H.front (c := Ck.box g3 [z1, .int .i64 p2.f_Time, z2, .int .i64 p2.f_Sure] 26)
    have H := H.drops' (L := [_, _, _, _])
    exact ⟨(k + 1, p2, _, fp2, i4, h4), i64_eq ek, ⟨gr.1, hi4, H⟩, hdec⟩
  refine ve q1 ?_
  by_cases q2 : (q : Int) = 2
  · refine ve q2 ?_
    refine x_lda H st26 ?_
    refine vs ?_
    refine x_call (specSync_ok w7 _ p (H.own (d := kPost) (fp := fp) (cs := [v1, .int .i64 p.f_Time, v2, .int .i64 p.f_Sure]) (x := p) (by simp)) hsm) fun _ w10 ⟨cs2, fp2, e, S⟩ => ?_
    subst e
    have H := H.join S
    simp only [List.cons_append, List.nil_append] at H
    have gr := And.intro (sync_ok hok) True.intro
    obtain ⟨p2, hp2⟩ : ∃ p2, p2 = syncP p := ⟨_, rfl⟩
    rw [← hp2] at H gr
    obtain ⟨z1, z2, rfl, _⟩ := kPost_open (H.own (d := kPost) (fp := fp2) (cs := cs2) (x := p2) (by simp))
    refine vs ?_
    refine x_sta H st26 (vs := [z1, .int .i64 p2.f_Time, z2, .int .i64 p2.f_Sure]) (h1 := Kd.one _ (H.own (d := kPost) (fp := fp2) (cs := [z1, .int .i64 p2.f_Time, z2, .int .i64 p2.f_Sure]) (x := p2) (by simp))) fun w12 H => vs ?_
    have H := H.front (c := Ck.box g2 [.slice none 0 0, .int .i64 0, .slice none 0 0, .int .i64 0] 26)
    have H := H.front (c := curB g v i3 h3)
    have H := H.front (c := Ck.own kPost fp2 [z1, .int .i64 p2.f_Time, z2, .int .i64 p2.f_Sure] p2)
    have H := H.front (c := Ck.box g3 [z1, .int .i64 p2.f_Time, z2, .int .i64 p2.f_Sure] 26)
    have H := H.drops' (L := [_, _, _, _])
    exact ⟨(k + 1, p2, _, fp2, i3, h3), i64_eq ek, ⟨gr.1, hi3, H⟩, hdec⟩
  refine ve q2 ?_
  refine draw_zp [(0, true), (1, true), (2, false), (3, false), (4, true)] 5 [(5, true), (6, true), (7, false)] (g3 + 1) (Gb n g3) fun w8 hh hb8 => vs ?_
  have H := H.go (hb8 _)
  have H8 := H
  refine q_ldaX H st26 ?_
  refine vs ?_
  refine x_call (l13DrawItem_ok H hv hi3) fun _ w9 ⟨ds, fd, x, i4, h4, e, hx, hi4, H⟩ => ?_
  subst e
  refine vs ?_
  refine ⟨kept_box H8 H, ?_⟩
  refine x_call (specDrop_ok w9 _ p _ x (H.own (d := kPost) (fp := fp) (cs := [v1, .int .i64 p.f_Time, v2, .int .i64 p.f_Sure]) (x := p) (by simp)) (H.own (d := kItem) (fp := fd) (cs := ds) (x := x) (by simp)) hsm hx.sm) fun _ w10 ⟨cs2, fp2, e, S⟩ => ?_
  subst e
  have H := H.join S
  simp only [List.cons_append, List.nil_append] at H
  refine vs ?_
  refine ⟨kept_box H8 H, ?_⟩
  have gr := drop_grew x hok
  obtain ⟨p2, hp2⟩ : ∃ p2, p2 = (dropP p x).1 := ⟨_, rfl⟩
  rw [← hp2] at H gr
  obtain ⟨z1, z2, rfl, _⟩ := kPost_open (H.own (d := kPost) (fp := fp2) (cs := cs2) (x := p2) (by simp))
  refine q_ext ?_
  refine vs ?_
  refine q_ext ?_
  refine vs ?_
  refine x_sta H st26 (vs := [z1, .int .i64 p2.f_Time, z2, .int .i64 p2.f_Sure]) (h1 := Kd.one _ (H.own (d := kPost) (fp := fp2) (cs := [z1, .int .i64 p2.f_Time, z2, .int .i64 p2.f_Sure]) (x := p2) (by simp))) fun w12 H => vs ?_
  refine ⟨kept_zero _ _, ?_⟩
  have H := H.front (c := Ck.box g2 [.slice none 0 0, .int .i64 0, .slice none 0 0, .int .i64 0] 26)
  have H := H.front (c := curB g v i4 h4)
  have H := H.front (c := Ck.own kPost fp2 [z1, .int .i64 p2.f_Time, z2, .int .i64 p2.f_Sure] p2)
  have H := H.front (c := Ck.box g3 [z1, .int .i64 p2.f_Time, z2, .int .i64 p2.f_Sure] 26)
  have H := H.drops' (L := [_, _, _, _])
  have H := H.drops' (L := [_, _, _, _])
  exact ⟨(k + 1, p2, _, fp2, i4, h4), i64_eq ek, ⟨gr.1, hi4, H⟩, hdec⟩

theorem postOk_bk {p : MPost} (h : postOk p = true) : p.f_Book.length ≤ 12000 := (postOk_iff.1 h).1.2.2.1
theorem postOk_tr {p : MPost} (h : postOk p = true) : -9223372036854775808 ≤ p.f_Time ∧ p.f_Time < 9223372036854775808 := by have := (postOk_iff.1 h).1.2.1; omega
theorem postOk_sr {p : MPost} (h : postOk p = true) : -9223372036854775808 ≤ p.f_Sure ∧ p.f_Sure < 9223372036854775808 := by have := (postOk_iff.1 h).1.2.2; omega
theorem postOk_qs {p : MPost} (h : postOk p = true) : smItemS p.f_Queue := (postOk_smD h).1
theorem smQ_app {l : List MItem} {x : MItem} (h : smItemS l) (hl : l.length ≤ 10) (hx : smItem x) : smItemS (l ++ [x]) :=
  ⟨by rw [List.length_append, List.length_singleton]; omega, fun y hy => (List.mem_append.1 hy).elim (h.2 y) fun h => by rw [List.mem_singleton.1 h]; exact hx⟩
theorem l15Draw_ok {n : Nat} {w0 w : World} {L : List Ck} {g : Nat} {v : Value} {i h : Int} {a : List UInt8} (H : Sep n w0 w (curB g v i h :: L)) (hv : (bytes 5).rd w0 n [v] a) (hi : 0 ≤ i ∧ i ≤ a.length) :
    ACalls Tryz.prog 71 #[.pointer (some ⟨g, 0, none⟩)] w fun r w' => ∃ (cs : List Value) (fp : List Nat) (p : MPost) (i' h' : Int), r = .agg cs.toArray ∧ smPost p ∧ (0 ≤ i' ∧ i' ≤ a.length) ∧ Sep n w0 w' (Ck.own kPost fp cs p :: curB g v i' h' :: L) := by
  refine body_of follows Tryz.func71 rfl rfl _ rfl (by kernel_rfl) (vs ?_)
  refine x_al H st26 fun g2 w1 H => vs ?_
  have H := H.front (c := curB g v i h)
  refine x_call (l15DrawRight_ok H hv hi) fun _ w2 ⟨cs, fp, p, i1, h1, e, hok, hi1, H⟩ => ?_
  subst e
  have hsm := postOk_smD hok
  have hbk := postOk_bk hok
  have rT := postOk_tr hok
  have rS := postOk_sr hok
  have HO := openPost p H
  clear H
  obtain ⟨f0, f2, v0, v2, rfl, H⟩ := HO
  have o0 := one1 (fp := f0) (x := p.f_Queue) H (.head _)
  have o2 := one1 (fp := f2) (x := p.f_Book) H (.tail _ (.head _))
  refine vs ?_
  refine x_al H st26 fun g3 w3 H => vs ?_
  refine x_sta H st26 (vs := [v0, .int .i64 p.f_Time, v2, .int .i64 p.f_Sure]) (h1 := one4 o0 o2) fun w4 H => vs ?_
  have H := H.front (c := curB g v i1 h1)
  refine x_call (l1Below_ok 12 H hv hi1) fun _ w5 ⟨q, i2, h2, e, hq, hi2, H⟩ => ?_
  subst e
  by_cases q0 : (q : Int) = 0
  · refine ve q0 ?_
    refine x_lst H pl_i64 sl98 [-1, 0, 3, 100001] (by simp) fun g7 w6 H => vs ?_
    refine x_call (l1PickInt_ok _ H hv hi2 (by simp)) fun _ w7 ⟨X, i3, h3, e, _, hX, hi3, H⟩ => ?_
    subst e
    refine vs ?_
    refine x_st H sc3 fun w8 H => vs ?_
    refine x_lda H st26 ?_
    refine vs ?_
    refine x_sta H st26 (vs := [v0, .int .i64 X, v2, .int .i64 p.f_Sure]) (h1 := one4 o0 o2) fun w12 H => vs ?_
    have hres := res_cell H (g := g2) (cs := [v0, .int .i64 X, v2, .int .i64 p.f_Sure]) st26
    have H := H.front (c := curB g v i3 h3)
    have H := H.front (c := Ck.own (bytes 5) f2 [v2] p.f_Book)
    have H := H.front (c := Ck.own items f0 [v0] p.f_Queue)
    obtain ⟨fp, H⟩ := ownPost (⟨p.f_Queue, X, p.f_Book, p.f_Sure⟩ : MPost) H hX rS
    have H := H.drops' (L := [_, _])
    have H := H.drops' (L := [_, _])
    exact ⟨_, _, rfl, hres, _, fp, (⟨p.f_Queue, X, p.f_Book, p.f_Sure⟩ : MPost), i3, h3, rfl, hsm, hi3, H⟩
  refine ve q0 ?_
  by_cases q1 : (q : Int) = 1
  · refine ve q1 ?_
    refine x_lst H pl_i64 sl98 [-1, 0, 99999] (by simp) fun g7 w6 H => vs ?_
    refine x_call (l1PickInt_ok _ H hv hi2 (by simp)) fun _ w7 ⟨X, i3, h3, e, _, hX, hi3, H⟩ => ?_
    subst e
    refine vs ?_
    refine x_st H sc3 fun w8 H => vs ?_
    refine x_lda H st26 ?_
    refine vs ?_
    refine x_sta H st26 (vs := [v0, .int .i64 p.f_Time, v2, .int .i64 X]) (h1 := one4 o0 o2) fun w12 H => vs ?_
    have hres := res_cell H (g := g2) (cs := [v0, .int .i64 p.f_Time, v2, .int .i64 X]) st26
    have H := H.front (c := curB g v i3 h3)
    have H := H.front (c := Ck.own (bytes 5) f2 [v2] p.f_Book)
    have H := H.front (c := Ck.own items f0 [v0] p.f_Queue)
    obtain ⟨fp, H⟩ := ownPost (⟨p.f_Queue, p.f_Time, p.f_Book, X⟩ : MPost) H rT hX
    have H := H.drops' (L := [_, _])
    have H := H.drops' (L := [_, _])
    exact ⟨_, _, rfl, hres, _, fp, (⟨p.f_Queue, p.f_Time, p.f_Book, X⟩ : MPost), i3, h3, rfl, hsm, hi3, H⟩
  refine ve q1 ?_
  by_cases q2 : (q : Int) = 2
  · refine ve q2 ?_
    refine x_ld H sc22 ?_
    refine vs ?_
    have H := H.front (c := Ck.own (bytes 5) f2 [v2] p.f_Book)
    refine x_call (l14Dent_ok H hv hi2 (by omega)) fun r w6 ⟨b2, f5, i3, h3, hb2, hi3, H⟩ => ?_
    have o5 := one1 (fp := f5) (x := b2) H (.head _)
    refine vs ?_
    refine x_st H sc22 (h1 := o5) fun w8 H => vs ?_
    refine x_lda H st26 ?_
    refine vs ?_
    refine x_sta H st26 (vs := [v0, .int .i64 p.f_Time, r, .int .i64 p.f_Sure]) (h1 := one4 o0 o5) fun w12 H => vs ?_
    have hres := res_cell H (g := g2) (cs := [v0, .int .i64 p.f_Time, r, .int .i64 p.f_Sure]) st26
    have H := H.front (c := curB g v i3 h3)
    have H := H.front (c := Ck.own (bytes 5) f5 [r] b2)
    have H := H.front (c := Ck.own items f0 [v0] p.f_Queue)
    obtain ⟨fp, H⟩ := ownPost (⟨p.f_Queue, p.f_Time, b2, p.f_Sure⟩ : MPost) H rT rS
    have H := H.drops' (L := [_, _])
    have H := H.drops' (L := [_, _])
    exact ⟨_, _, rfl, hres, _, fp, (⟨p.f_Queue, p.f_Time, b2, p.f_Sure⟩ : MPost), i3, h3, rfl, ⟨hsm.1, by show b2.length ≤ 1048576; omega⟩, hi3, H⟩
  refine ve q2 ?_
  by_cases q3 : (q : Int) = 3
  · refine ve q3 ?_
    refine draw_zn [(0, true), (1, true), (2, true), (3, false), (4, false), (5, false), (6, true)] 7 [7] (g3 + 1) (Gb n g3) fun w6 hh hb6 => vs ?_
    have H := H.go (hb6 _)
    have H6 := H
    refine q_ldX H sc24 ?_
    refine vs ?_
    refine x_call (l13DrawItem_ok H hv hi2) fun _ w7 ⟨ds, fd, x, i3, h3, e, hx, hi3, H⟩ => ?_
    subst e
    refine vs ?_
    refine ⟨kept_box H6 H, ?_⟩
    obtain ⟨ux, eds, _⟩ := kItem_open (H.own (d := kItem) (fp := fd) (cs := ds) (x := x) (by simp))
    subst eds
    refine x_lst1 sl24 H rfl rfl fun f8 v8 w8 H => vs ?_
    refine ⟨kept_box H6 H, ?_⟩
    have H := H.front (c := Ck.own items f0 [v0] p.f_Queue)
    have H := H.front (c := Ck.own items f8 [v8] [x])
    have hl10 := postOk_len hok
    refine x_appO sl24 H rfl ?_ ?_ fun f9 v9 w9 H => vs ?_
    · simp only [List.length_cons, List.length_nil]; omega
    · simp only [List.length_cons, List.length_nil]; omega
    refine ⟨kept_box H6 H, ?_⟩
    have o9 := one1 (fp := f9) (x := p.f_Queue ++ [x]) H (.head _)
    refine dl_cons ⟨_, rfl, vs ?_⟩
    refine x_st H sc24 (h1 := o9) fun w10 H => ?_
    refine dl_nil (vs ?_)
    refine x_lda H st26 ?_
    refine vs ?_
    refine x_sta H st26 (vs := [v9, .int .i64 p.f_Time, v2, .int .i64 p.f_Sure]) (h1 := one4 o9 o2) fun w12 H => vs ?_
    have hres := res_cell H (g := g2) (cs := [v9, .int .i64 p.f_Time, v2, .int .i64 p.f_Sure]) st26
    have H := H.front (c := curB g v i3 h3)
    have H := H.front (c := Ck.own (bytes 5) f2 [v2] p.f_Book)
    have H := H.front (c := Ck.own items f9 [v9] (p.f_Queue ++ [x]))
    obtain ⟨fp, H⟩ := ownPost (⟨p.f_Queue ++ [x], p.f_Time, p.f_Book, p.f_Sure⟩ : MPost) H rT rS
    have H := H.drops' (L := [_, _])
    have H := H.drops' (L := [_, _])
    exact ⟨_, _, rfl, hres, _, fp, (⟨p.f_Queue ++ [x], p.f_Time, p.f_Book, p.f_Sure⟩ : MPost), i3, h3, rfl, ⟨smQ_app hsm.1 hl10 hx.sm, hsm.2⟩, hi3, H⟩
  refine ve q3 ?_
  refine x_lda H st26 ?_
  refine vs ?_
  refine x_sta H st26 (vs := [v0, .int .i64 p.f_Time, v2, .int .i64 p.f_Sure]) (h1 := one4 o0 o2) fun w12 H => vs ?_
  have hres := res_cell H (g := g2) (cs := [v0, .int .i64 p.f_Time, v2, .int .i64 p.f_Sure]) st26
  have H := H.front (c := curB g v i2 h2)
  have H := H.front (c := Ck.own (bytes 5) f2 [v2] p.f_Book)
  have H := H.front (c := Ck.own items f0 [v0] p.f_Queue)
  obtain ⟨fp, H⟩ := ownPost (⟨p.f_Queue, p.f_Time, p.f_Book, p.f_Sure⟩ : MPost) H rT rS
  have H := H.drops' (L := [_, _])
  have H := H.drops' (L := [_, _])
  exact ⟨_, _, rfl, hres, _, fp, (⟨p.f_Queue, p.f_Time, p.f_Book, p.f_Sure⟩ : MPost), i2, h2, rfl, hsm, hi2, H⟩
theorem drawPostRoot_ok (w : World) (v : Value) (a : List UInt8) (hv : (bytes 5).rd w w.heap.size [v] a) :
    ACalls Tryz.prog 36 #[v] w fun r w' => ∃ (cs : List Value) (fp : List Nat) (p : MPost), r = .agg cs.toArray ∧ smPost p ∧ Sep w.heap.size w w' [Ck.own kPost fp cs p] := by
  have H := Sep.start w
  refine body_of follows Tryz.func36 rfl rfl _ rfl (by kernel_rfl) (vs ?_)
  refine x_al H st26 fun g2 w1 H => vs ?_
  refine x_call (l1New_ok w1 v a (H.rd hv)) fun _ w2 ⟨g, i, h, e, hi, S⟩ => ?_
  subst e
  have H := H.join S
  simp only [List.cons_append, List.nil_append] at H
  refine vs ?_
  refine x_call (l15Draw_ok H hv hi) fun _ w3 ⟨cs, fp, p, i1, h1, e, hsm, hi1, H⟩ => ?_
  subst e
  have o1 := Kd.one _ (H.own (d := kPost) (fp := fp) (cs := cs) (x := p) (by simp))
  obtain ⟨v0, v2, rfl, _⟩ := kPost_open (H.own (d := kPost) (fp := fp) (cs := cs) (x := p) (by simp))
  refine vs ?_
  refine x_sta H st26 (vs := [v0, .int .i64 p.f_Time, v2, .int .i64 p.f_Sure]) (h1 := o1) fun w4 H => vs ?_
  exact ⟨_, _, rfl, res_cell H st26, _, fp, p, rfl, hsm, H.only (c := Ck.own kPost fp [v0, .int .i64 p.f_Time, v2, .int .i64 p.f_Sure] p)⟩
theorem drawSync_ok (w : World) (v : Value) (a : List UInt8) (hv : (bytes 5).rd w w.heap.size [v] a) :
    ACalls Tryz.prog 28 #[v] w fun r w' => ∃ (cs : List Value) (fp : List Nat) (p : MPost), r = .agg cs.toArray ∧ smPost p ∧ Sep w.heap.size w w' [Ck.own kPost fp cs p] := by
  have H := Sep.start w
  refine body_of follows Tryz.func28 rfl rfl _ rfl (by kernel_rfl) (vs ?_)
  refine x_al H st26 fun g2 w1 H => vs ?_
  refine x_call (l1New_ok w1 v a (H.rd hv)) fun _ w2 ⟨g, i, h, e, hi, S⟩ => ?_
  subst e
  have H := H.join S
  simp only [List.cons_append, List.nil_append] at H
  refine vs ?_
  refine x_call (l15Draw_ok H hv hi) fun _ w3 ⟨cs, fp, p, i1, h1, e, hsm, hi1, H⟩ => ?_
  subst e
  have o1 := Kd.one _ (H.own (d := kPost) (fp := fp) (cs := cs) (x := p) (by simp))
  obtain ⟨v0, v2, rfl, _⟩ := kPost_open (H.own (d := kPost) (fp := fp) (cs := cs) (x := p) (by simp))
  refine vs ?_
  refine x_sta H st26 (vs := [v0, .int .i64 p.f_Time, v2, .int .i64 p.f_Sure]) (h1 := o1) fun w4 H => vs ?_
  exact ⟨_, _, rfl, res_cell H st26, _, fp, p, rfl, hsm, H.only (c := Ck.own kPost fp [v0, .int .i64 p.f_Time, v2, .int .i64 p.f_Sure] p)⟩
theorem drawPostOk_ok (w : World) (v : Value) (a : List UInt8) (hv : (bytes 5).rd w w.heap.size [v] a) :
    ACalls Tryz.prog 29 #[v] w fun r w' => ∃ (cs : List Value) (fp : List Nat) (p : MPost), r = .agg cs.toArray ∧ smPost p ∧ Sep w.heap.size w w' [Ck.own kPost fp cs p] := by
  have H := Sep.start w
  refine body_of follows Tryz.func29 rfl rfl _ rfl (by kernel_rfl) (vs ?_)
  refine x_al H st26 fun g2 w1 H => vs ?_
  refine x_call (l1New_ok w1 v a (H.rd hv)) fun _ w2 ⟨g, i, h, e, hi, S⟩ => ?_
  subst e
  have H := H.join S
  simp only [List.cons_append, List.nil_append] at H
  refine vs ?_
  refine x_call (l15Draw_ok H hv hi) fun _ w3 ⟨cs, fp, p, i1, h1, e, hsm, hi1, H⟩ => ?_
  subst e
  have o1 := Kd.one _ (H.own (d := kPost) (fp := fp) (cs := cs) (x := p) (by simp))
  obtain ⟨v0, v2, rfl, _⟩ := kPost_open (H.own (d := kPost) (fp := fp) (cs := cs) (x := p) (by simp))
  refine vs ?_
  refine x_sta H st26 (vs := [v0, .int .i64 p.f_Time, v2, .int .i64 p.f_Sure]) (h1 := o1) fun w4 H => vs ?_
  exact ⟨_, _, rfl, res_cell H st26, _, fp, p, rfl, hsm, H.only (c := Ck.own kPost fp [v0, .int .i64 p.f_Time, v2, .int .i64 p.f_Sure] p)⟩
theorem drawDrop_ok (w : World) (v : Value) (a : List UInt8) (hv : (bytes 5).rd w w.heap.size [v] a) :
    ACalls Tryz.prog 22 #[v] w fun r w' => ∃ (cs : List Value) (fp : List Nat) (p : MPost) (ds : List Value) (fi : List Nat) (x : MItem), r = .tuple #[.agg cs.toArray, .agg ds.toArray] ∧ smPost p ∧ Di x ∧ Sep w.heap.size w w' [Ck.own kPost fp cs p, Ck.own kItem fi ds x] := by
  have H := Sep.start w
  refine body_of follows Tryz.func22 rfl rfl _ rfl (by kernel_rfl) (vs ?_)
  refine x_al H st26 fun g2 w1 H => vs ?_
  refine x_al H st32 fun g1 w1 H => vs ?_
  refine x_call (l1New_ok w1 v a (H.rd hv)) fun _ w2 ⟨g, i, h, e, hi, S⟩ => ?_
  subst e
  have H := H.join S
  simp only [List.cons_append, List.nil_append] at H
  refine vs ?_
  refine x_call (l15Draw_ok H hv hi) fun _ w3 ⟨cs, fp, p, i1, h1, e, hsm, hi1, H⟩ => ?_
  subst e
  have o1 := Kd.one _ (H.own (d := kPost) (fp := fp) (cs := cs) (x := p) (by simp))
  obtain ⟨v0, v2, rfl, _⟩ := kPost_open (H.own (d := kPost) (fp := fp) (cs := cs) (x := p) (by simp))
  refine vs ?_
  refine x_al H st26 fun g5 w4 H => vs ?_
  refine x_sta H st26 (vs := [v0, .int .i64 p.f_Time, v2, .int .i64 p.f_Sure]) (h1 := o1) fun w5 H => vs ?_
  have H := H.front (c := curB g v i1 h1)
  refine draw_zn [(0, true), (1, true), (2, false)] 3 [3, 4] (g5 + 1) (Gb w.heap.size g5) fun w6 hh hb6 => vs ?_
  have H := H.go (hb6 _)
  have H6 := H
  refine q_ldaX H st26 ?_
  refine vs ?_
  refine x_call (l13DrawItem_ok H hv hi1) fun _ w7 ⟨ds, fd, x, i3, h3, e, hx, hi3, H⟩ => ?_
  subst e
  have od := Kd.one _ (H.own (d := kItem) (fp := fd) (cs := ds) (x := x) (by simp))
  obtain ⟨ux, eds, _⟩ := kItem_open (H.own (d := kItem) (fp := fd) (cs := ds) (x := x) (by simp))
  subst eds
  refine vs ?_
  refine ⟨kept_box H6 H, ?_⟩
  refine dl_cons ⟨_, rfl, vs ?_⟩
  refine x_sta H st26 (vs := [v0, .int .i64 p.f_Time, v2, .int .i64 p.f_Sure]) (h1 := o1) fun w8 H => ?_
  refine vs ?_
  refine dl_cons ⟨_, rfl, vs ?_⟩
  refine x_sta H st32 (vs := [.string ⟨x.f_Route.toArray⟩, .int .i64 x.f_Topic, .int .i64 x.f_Due, ux]) (h1 := od) fun w9 H => ?_
  refine dl_nil (vs ?_)
  have hr1 := res_cell H (g := g2) (cs := [v0, .int .i64 p.f_Time, v2, .int .i64 p.f_Sure]) st26
  have hr2 := res_cell H (g := g1) (cs := [.string ⟨x.f_Route.toArray⟩, .int .i64 x.f_Topic, .int .i64 x.f_Due, ux]) st32
  exact ⟨_, _, rfl, hr1, _, _, rfl, hr2, _, fp, p, _, fd, x, rfl, hsm, hx, H.two (c := Ck.own kPost fp [v0, .int .i64 p.f_Time, v2, .int .i64 p.f_Sure] p) (c' := Ck.own kItem fd [.string ⟨x.f_Route.toArray⟩, .int .i64 x.f_Topic, .int .i64 x.f_Due, ux] x)⟩
theorem drawFetch_ok (w : World) (v : Value) (a : List UInt8) (hv : (bytes 5).rd w w.heap.size [v] a) :
    ACalls Tryz.prog 24 #[v] w fun r w' => ∃ (cs : List Value) (fp : List Nat) (p : MPost) (R : List UInt8), r = .tuple #[.agg cs.toArray, .string ⟨R.toArray⟩] ∧ smPost p ∧ R.length ≤ 16 ∧ Sep w.heap.size w w' [Ck.own kPost fp cs p] := by
  have H := Sep.start w
  refine body_of follows Tryz.func24 rfl rfl _ rfl (by kernel_rfl) (vs ?_)
  refine x_al H st26 fun g2 w1 H => vs ?_
  refine x_call (l1New_ok w1 v a (H.rd hv)) fun _ w2 ⟨g, i, h, e, hi, S⟩ => ?_
  subst e
  have H := H.join S
  simp only [List.cons_append, List.nil_append] at H
  refine vs ?_
  refine x_call (l15Draw_ok H hv hi) fun _ w3 ⟨cs, fp, p, i1, h1, e, hsm, hi1, H⟩ => ?_
  subst e
  have o1 := Kd.one _ (H.own (d := kPost) (fp := fp) (cs := cs) (x := p) (by simp))
  obtain ⟨v0, v2, rfl, _⟩ := kPost_open (H.own (d := kPost) (fp := fp) (cs := cs) (x := p) (by simp))
  refine vs ?_
  refine x_al H st26 fun g5 w4 H => vs ?_
  refine x_sta H st26 (vs := [v0, .int .i64 p.f_Time, v2, .int .i64 p.f_Sure]) (h1 := o1) fun w5 H => vs ?_
  have H := H.front (c := curB g v i1 h1)
  refine x_call (l1Once_ok 10 H hv hi1) fun _ w6 ⟨b, i2, h2, e, hi2, H⟩ => ?_
  subst e
  cases b with
  | true =>
    refine vs ?_
    refine x_lda H st26 ?_
    refine vs ?_
    refine x_sta H st26 (vs := [v0, .int .i64 p.f_Time, v2, .int .i64 p.f_Sure]) (h1 := o1) fun w8 H => vs ?_
    have hr1 := res_cell H (g := g2) (cs := [v0, .int .i64 p.f_Time, v2, .int .i64 p.f_Sure]) st26
    exact ⟨_, _, rfl, hr1, _, fp, p, [120], rfl, hsm, by decide, H.only (c := Ck.own kPost fp [v0, .int .i64 p.f_Time, v2, .int .i64 p.f_Sure] p)⟩
  | false =>
    refine vs ?_
    refine draw_zn [(0, true), (1, true), (2, false)] 3 [3, 4] (g5 + 1) (Gb w.heap.size g5) fun w7 hh hb7 => vs ?_
    have H := H.go (hb7 _)
    have H6 := H
    refine q_ldaX H st26 ?_
    refine vs ?_
    refine x_call (l13DrawRoute_ok H hv hi2) fun _ w8 ⟨R, i3, h3, e, hR, hi3, H⟩ => ?_
    subst e
    refine vs ?_
    refine ⟨kept_box H6 H, ?_⟩
    refine dl_cons ⟨_, rfl, vs ?_⟩
    refine x_sta H st26 (vs := [v0, .int .i64 p.f_Time, v2, .int .i64 p.f_Sure]) (h1 := o1) fun w9 H => ?_
    refine vs ?_
    refine dl_cons ⟨_, rfl, vs ?_⟩
    refine dl_nil (vs ?_)
    have hr1 := res_cell H (g := g2) (cs := [v0, .int .i64 p.f_Time, v2, .int .i64 p.f_Sure]) st26
    exact ⟨_, _, rfl, hr1, _, fp, p, R, rfl, hsm, by omega, H.only (c := Ck.own kPost fp [v0, .int .i64 p.f_Time, v2, .int .i64 p.f_Sure] p)⟩
theorem drawTick_ok (w : World) (v : Value) (a : List UInt8) (hv : (bytes 5).rd w w.heap.size [v] a) :
    ACalls Tryz.prog 26 #[v] w fun r w' => ∃ (cs : List Value) (fp : List Nat) (p : MPost) (t : Int), r = .tuple #[.agg cs.toArray, .int .i64 t] ∧ smPost p ∧ (-9223372036854775808 ≤ t ∧ t < 9223372036854775808) ∧ Sep w.heap.size w w' [Ck.own kPost fp cs p] := by
  have H := Sep.start w
  refine body_of follows Tryz.func26 rfl rfl _ rfl (by kernel_rfl) (vs ?_)
  refine x_al H st26 fun g2 w1 H => vs ?_
  refine x_call (l1New_ok w1 v a (H.rd hv)) fun _ w2 ⟨g, i, h, e, hi, S⟩ => ?_
  subst e
  have H := H.join S
  simp only [List.cons_append, List.nil_append] at H
  refine vs ?_
  refine x_call (l15Draw_ok H hv hi) fun _ w3 ⟨cs, fp, p, i1, h1, e, hsm, hi1, H⟩ => ?_
  subst e
  have o1 := Kd.one _ (H.own (d := kPost) (fp := fp) (cs := cs) (x := p) (by simp))
  obtain ⟨v0, v2, rfl, _⟩ := kPost_open (H.own (d := kPost) (fp := fp) (cs := cs) (x := p) (by simp))
  refine vs ?_
  refine x_al H st26 fun g5 w4 H => vs ?_
  refine x_sta H st26 (vs := [v0, .int .i64 p.f_Time, v2, .int .i64 p.f_Sure]) (h1 := o1) fun w5 H => vs ?_
  have H := H.front (c := curB g v i1 h1)
  refine draw_zn [(0, true), (1, true), (2, false), (3, false)] 4 [4, 5] (g5 + 1) (Gb w.heap.size g5) fun w7 hh hb7 => vs ?_
  have H := H.go (hb7 _)
  have H6 := H
  refine q_ldaX H st26 ?_
  refine vs ?_
  refine x_lst H pl_i64 sl98 [0, 5, 21, 100, 100001, -1] (by simp) fun g7 w8 H => vs ?_
  refine ⟨kept_box H6 H, ?_⟩
  refine x_call (l1PickInt_ok _ H hv hi1 (by simp)) fun _ w8 ⟨X, i3, h3, e, _, hX, hi3, H⟩ => ?_
  subst e
  refine vs ?_
  refine ⟨kept_box H6 H, ?_⟩
  refine dl_cons ⟨_, rfl, vs ?_⟩
  refine x_sta H st26 (vs := [v0, .int .i64 p.f_Time, v2, .int .i64 p.f_Sure]) (h1 := o1) fun w9 H => ?_
  refine vs ?_
  refine dl_cons ⟨_, rfl, vs ?_⟩
  refine dl_nil (vs ?_)
  have hr1 := res_cell H (g := g2) (cs := [v0, .int .i64 p.f_Time, v2, .int .i64 p.f_Sure]) st26
  exact ⟨_, _, rfl, hr1, _, fp, p, X, rfl, hsm, hX, H.only (c := Ck.own kPost fp [v0, .int .i64 p.f_Time, v2, .int .i64 p.f_Sure] p)⟩
end Go.Proofs.YtdljbekkckfmnaaGreat.V
