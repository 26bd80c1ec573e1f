/- Texts laid by programs, part 8. -/
import Derived.Test.YtcmckbgiiclomacGreatU05
import Derived.Test.YtcmckbgiiclomacGreatU07
import Derived.Test.YtcmckbgiiclomacGreatU03
namespace Go.Proofs.YtcmckbgiiclomacGreat.V
open Go Go.RowKit
set_option maxRecDepth 100000
set_option maxHeartbeats 4000000
set_option linter.unusedSimpArgs false
set_option linter.unusedVariables false
set_option pp.deepTerms false
set_option pp.deepTerms.threshold 3
def Gb (n m : Nat) : List (Nat × Nat) := fpG (List.range' n (m - n))
theorem Gb_not (n m : Nat) : ∀ t, (m, t) ∉ Gb n m := fun t h => by
  obtain ⟨b, hb, e⟩ := List.mem_map.1 h; obtain ⟨rfl, _⟩ := Prod.mk.inj e; have := List.mem_range'_1.1 hb
  omega
theorem kept_box {n m : Nat} {w0 w w' : World} {L L' : List Ck} {cs : List Value} {t : TypeId} (H : Sep n w0 w L) (H' : Sep n w0 w' L') (hm : Ck.box m cs t ∈ L := by repeat (first | exact List.mem_cons_self | apply List.mem_cons_of_mem)) (hm' : Ck.box m cs t ∈ L' := by repeat (first | exact List.mem_cons_self | apply List.mem_cons_of_mem)) : Kept (m + 1) (Gb n m) w w' := by
  refine ⟨fun _ => H'.lt hm', fun b hb hG => ?_, fun g t hg _ j hj => ?_⟩
  · by_cases h : b < n
    · rw [H'.bel.block b h, H.bel.block b h]
    · have e : b = m := by
        by_cases e : b = m
        · exact e
        · exact absurd (fpG_mem (List.mem_range'_1.2 ⟨by omega, by omega⟩)) (hG 0)
      subst e; have h1 : w'.heap[b]? = some (.cells cs.toArray t (0, 0)) := H'.ok _ hm'; have h2 : w.heap[b]? = some (.cells cs.toArray t (0, 0)) := H.ok _ hm; rw [h1, h2]
  · rw [fpG_zero _ _ hg] at hj; omega
section
variable {P : Program} {l : List Oper} {K : Sl → World → Prop} {s : Sl} {w : World}
theorem draw_zn {tg : Tg (l.toArray, K)} (pl : List (Nat × Bool)) (z : Nat) (late : List Nat) (n : Nat) (G : List (Nat × Nat)) (h : ∀ w1, w1.heap = w.heap → (∀ m, Below m w w1) → Dpl P l.toArray n G w1 (fun s w => DLate P l.toArray K late .mk s w) pl .mk s w1)
    (hs : Region.noSelect l.toArray = true := by kernel_rfl) (hp : planPre l.toArray pl (Array.replicate l.toArray.size false) = true := by kernel_rfl) (hz : planZ l.toArray z pl = true := by kernel_rfl)
    (hq : lateOk l.toArray z late (planTo pl (Array.replicate l.toArray.size false)) = true := by kernel_rfl) (hl : pl.length + late.length = l.toArray.size := by decide) : Adraw P l.toArray K tg s w := by
  have h1 := h w.drew rfl fun m => (Below.refl m w).drew
  have key : adrZ P l.toArray K (Kept n G w.drew) z l.toArray.size (Array.replicate l.toArray.size false) s w.drew := by
    rw [← hl]; refine preZ_sound hs pl late.length _ s w.drew (closed_none _ _) (by rw [hl]; exact hp) hz (Kept.refl ..) ?_; have : ∀ (s : Sl) (w' : World), DLate P l.toArray K late .mk s w' → Kept n G w.drew w' → adrZ P l.toArray K (Kept n G w.drew) z late.length (planTo pl (Array.replicate (pl.length + late.length) false)) s w' := fun s w' hd _ => late_sound late _ _ s w' (by rw [hl]; exact hq) (Nat.le_refl _) hd; exact dpl_mono this pl s w.drew h1
  exact fun m a ha hok => wpAny_of_Z _ _ _ _ (key m a ha hok)
end
def lateOnly (z : Nat) (listed : Array Bool) : Bool := (List.range z).all fun i => listed.getD i true
theorem wpAnyZ_weak {P : Program} {ops : Array Oper} {Q : Exit → Act → World → Prop} {S S' : World → Prop} {z z' : Nat} : ∀ (fuel : Nat) (listed : Array Bool) (a : Act) (w : World), (∀ i, i < z → listed.getD i true = true) → wpAnyZ P .any ops Q S' z' fuel listed a w → wpAnyZ P .any ops Q S z fuel listed a w
  | 0, _, _, _, _, h => h
  | fuel + 1, listed, a, w, hl, h => by
    refine ⟨h.1, fun i hi => wpOp_mono (fun a' w' h' => ⟨fun hlt => ?_, wpAnyZ_weak fuel _ a' w' (fun k hk => ?_) h'.2⟩) (h.2 i hi)⟩
    · have hun := (mem_ready.1 hi).1
      rw [hl i hlt] at hun; exact Bool.noConfusion hun
    · by_cases e : i = k
      · subst e
        rcases Nat.lt_or_ge i listed.size with h' | h'
        · simp [h']
        · simp [h']
      · rw [getD_set_ne true e]; exact hl k hk
theorem closed_plan {ops : Array Oper} : ∀ (pl : List (Nat × Bool)) (listed : Array Bool), Closed ops listed → planPre ops pl listed = true → Closed ops (planTo pl listed)
  | [], _, h, _ => h
  | (i, true) :: r, listed, h, hp => by
    simp only [planPre, Bool.and_eq_true] at hp; exact closed_plan r _ (closed_set h (by simpa using hp.1.2)) hp.2
  | (i, false) :: r, listed, h, hp => by
    simp only [planPre, Bool.and_eq_true, beq_iff_eq] at hp; exact closed_plan r _ (closed_set h (by rw [hp.1]; simp)) hp.2
theorem kept_zero (w0 w : World) : Kept 0 [] w0 w := ⟨fun _ => Nat.zero_le _, fun b hb => absurd hb (Nat.not_lt_zero _), fun _ _ h => by cases h⟩
section
variable {P : Program} {l : List Oper} {K : Sl → World → Prop} {s : Sl} {w : World}
theorem draw_zp {tg : Tg (l.toArray, K)} (pl : List (Nat × Bool)) (z : Nat) (pl2 : List (Nat × Bool)) (n : Nat) (G : List (Nat × Nat)) (h : ∀ w1, w1.heap = w.heap → (∀ m, Below m w w1) → Dpl P l.toArray n G w1 (fun s w => Dpl P l.toArray 0 [] w1 K pl2 .mk s w) pl .mk s w1)
    (hs : Region.noSelect l.toArray = true := by kernel_rfl) (hp : planPre l.toArray pl (Array.replicate l.toArray.size false) = true := by kernel_rfl) (hz : planZ l.toArray z pl = true := by kernel_rfl)
    (hq : planPre l.toArray pl2 (planTo pl (Array.replicate l.toArray.size false)) = true := by kernel_rfl) (hz2 : planZ l.toArray l.toArray.size pl2 = true := by kernel_rfl) (hlate : lateOnly z (planTo pl (Array.replicate l.toArray.size false)) = true := by kernel_rfl)
    (hend : (Region.ready .any l.toArray (planTo pl2 (planTo pl (Array.replicate l.toArray.size false)))).isEmpty = true := by kernel_rfl) (hl : pl.length + pl2.length = l.toArray.size := by decide) : Adraw P l.toArray K tg s w := by
  have h1 := h w.drew rfl fun m => (Below.refl m w).drew
  have key : adrZ P l.toArray K (Kept n G w.drew) z l.toArray.size (Array.replicate l.toArray.size false) s w.drew := by
    rw [← hl]; refine preZ_sound hs pl pl2.length _ s w.drew (closed_none _ _) (by rw [hl]; exact hp) hz (Kept.refl ..) ?_
    have : ∀ (s : Sl) (w' : World), Dpl P l.toArray 0 [] w.drew K pl2 .mk s w' → Kept n G w.drew w' → adrZ P l.toArray K (Kept n G w.drew) z pl2.length (planTo pl (Array.replicate (pl.length + pl2.length) false)) s w' := by
      intro s w' hd _; rw [hl]; have h2 := preZ_sound (S := Kept 0 [] w.drew) (z := l.toArray.size) (K := K) hs pl2 0 _ s w' (closed_plan pl _ (closed_none _ _) hp) hq hz2 (kept_zero _ _) (dpl_mono (fun s w' hk _ => adrZ_done (by simpa using hend) hk) pl2 s w' hd); exact fun m a ha hok => wpAnyZ_weak _ _ _ _ (fun i hi => List.all_eq_true.1 hlate i (List.mem_range.2 hi)) (h2 m a ha hok)
    exact dpl_mono this pl s w.drew h1
  exact fun m a ha hok => wpAny_of_Z _ _ _ _ (key m a ha hok)
end
section
variable {P : Program} {n : Nat} {w0 w : World} {L : List Ck} {K : Value → Prop}
theorem q_ldX {m : Nat} {tg : Tg (m + 1, Gb n m, w, K)} (H : Sep n w0 w L) {j : Nat} {cs : List Value} {t e : TypeId} {z v : Value} (HS : ScT P e z) (h : K v) (hm : Ck.box m cs t ∈ L := by repeat (first | exact List.mem_cons_self | apply List.mem_cons_of_mem)) (hv : cs[j]? = some v := by rfl) :
    QS P (m + 1) (Gb n m) w K tg (Instr.loadAt e (.pointer (some ⟨m, j, none⟩))) := qx_load HS (by rw [H.cell hm]; exact hv) (Nat.lt_succ_self _) (Gb_not n m) h
theorem q_ldaX {m : Nat} {tg : Tg (m + 1, Gb n m, w, K)} (H : Sep n w0 w L) {cs : List Value} {t e : TypeId} {sz : Nat} {z : Array Value} (HS : StT P e sz z) (h : K (.agg cs.toArray)) (hm : Ck.box m cs t ∈ L := by repeat (first | exact List.mem_cons_self | apply List.mem_cons_of_mem)) (hl : cs.length = sz := by rfl) :
    QS P (m + 1) (Gb n m) w K tg (Instr.loadAt e (.pointer (some ⟨m, 0, none⟩))) := qx_loadAgg HS cs hl (fun j v hj => by rw [Kd.add_plain, H.cell hm]; exact hj) (Nat.lt_succ_self _) (Gb_not n m) h
end
section
variable {P : Program} {m : Nat} {w : World} {KQ : Value → Prop} {G : List (Nat × Nat)} {tq : Tg (m, G, w, KQ)} {α : Type} {d : Kd α}
theorem q_toA {wr : World} {t e sz by_ : Nat} {z : Value} (HS : SlT P t e sz by_ z) (hd : d.sz = sz) {q : Nat} {v : Value} {l : List α} {k : IntKind} {hi : Nat} (hr : (Kd.slice e d).rd wr q [v] l) (h1 : hi ≤ l.length)
    (h : ∀ v', (∀ w' q', (Kd.slice e d).rd w' q' [v] l → (Kd.slice e d).rd w' q' [v'] (l.take hi)) → KQ v') : QS P m G w KQ tq (Instr.sliceAt t v none (some (.int k (hi : Int))) none) := by
  obtain ⟨A, c, rfl, h3, h4, hl⟩ := sl_open hr; refine QS_of (fun w' _ => (run_sub HS (w := w') (k := .i64) (lo := 0)).2.1 (by omega)) (h _ fun w' q' hr' => ?_); obtain ⟨A', c', e', _, _, hl'⟩ := sl_open hr'; simp only [Value.slice.injEq] at e'; obtain ⟨rfl, _, rfl⟩ := e'; have := sub_rd (e := e) hl' (Nat.zero_le hi) h1 h3 h4; rw [hd] at this
  simpa using this
theorem q_fromA {wr : World} {t e sz by_ : Nat} {z : Value} (HS : SlT P t e sz by_ z) (hd : d.sz = sz) {q : Nat} {v : Value} {l : List α} {k : IntKind} {lo : Nat} (hr : (Kd.slice e d).rd wr q [v] l) (h1 : lo ≤ l.length)
    (h : ∀ v', (∀ w' q', (Kd.slice e d).rd w' q' [v] l → (Kd.slice e d).rd w' q' [v'] (l.drop lo)) → KQ v') : QS P m G w KQ tq (Instr.sliceAt t v (some (.int k (lo : Int))) none none) := by
  obtain ⟨A, c, rfl, h3, h4, hl⟩ := sl_open hr; refine QS_of (fun w' _ => (run_sub HS (w := w') (k' := .i64) (hi := 0)).2.2 (by omega)) (h _ fun w' q' hr' => ?_); obtain ⟨A', c', e', _, _, hl'⟩ := sl_open hr'; simp only [Value.slice.injEq] at e'; obtain ⟨rfl, _, rfl⟩ := e'; have := sub_rd (e := e) hl' h1 (Nat.le_refl _) h3 h4; rw [hd, List.take_of_length_le (by simp)] at this; exact this
end
theorem low4 {k : Nat} (h : k = 0 ∨ (k : Int) < 4) : k < 256 := by omega
section
variable {P : Program} {n : Nat} {w0 : World} {G : List (Nat × Nat)} {K : Value → Prop} {tg : Tg (n, G, w0, K)}
theorem q_ext {vs : Array Value} {i : Nat} {v : Value} (h : K v) (hv : vs[i]? = some v := by rfl) : QS P n G w0 K tg (Instr.extract (.tuple vs) i) :=
  QS_of (fun w _ => by simp [Instr.extract, hv]) h
end
def Di (x : MItem) : Prop := x.f_Route.length ≤ 16 ∧ x.f_Bytes.length ≤ 6
theorem Di.sm {x : MItem} (h : Di x) : smItem x := by obtain ⟨h1, h2⟩ := h; exact ⟨by omega, by omega⟩
theorem Di_of {r b : List UInt8} {t d : Int} (h1 : r.length ≤ 16) (h2 : b.length ≤ 6) : Di ⟨r, t, d, b⟩ := ⟨h1, h2⟩
theorem low_rg {k m : Nat} (h : k = 0 ∨ (k : Int) < (m : Int)) (hm : m ≤ 256) : -9223372036854775808 ≤ (k : Int) ∧ (k : Int) < 9223372036854775808 := by omega
theorem len_lo {r : List UInt8} (h : r.length = 16) : r.length ≤ 16 := by omega
theorem len_lo2 {r : List UInt8} (h : r.length ≤ 16) : r.length ≤ 9223372036854775807 := by omega
theorem one_itemD {a : ByteArray} {x y : Int} {A : Option Addr} {m c : Nat} : ∀ v ∈ [Value.string a, .int .i64 x, .int .i64 y, .slice A m c], v.oneCell' = true := by
  intro v hv; simp only [List.mem_cons, List.not_mem_nil, or_false] at hv
  rcases hv with rfl | rfl | rfl | rfl <;> rfl
def oddS : List (List UInt8) := [[], [48, 48], [48, 48, 48, 48, 48, 48, 48, 48, 48, 48, 48, 48, 48, 48, 48, 103]]
theorem oddS_len : ∀ x ∈ oddS, x.length ≤ 16 := by
  intro x hx; simp only [oddS, List.mem_cons, List.not_mem_nil, or_false] at hx
  rcases hx with rfl | rfl | rfl <;> decide
theorem oddS_lo : ∀ x ∈ oddS, x.length ≤ 9223372036854775807 := fun x hx => by have := oddS_len x hx; omega
theorem l13DrawItem_ok {n : Nat} {w0 w : World} {L : List Ck} {g : Nat} {v : Value} {i h : Int} {a : List UInt8} (H : Sep n w0 w (curB g v i h :: L)) (hv : (bytes 5).rd w0 n [v] a) (hi : 0 ≤ i ∧ i ≤ a.length) :
    ACalls Tryz.prog 40 #[.pointer (some ⟨g, 0, none⟩)] w fun r w' => ∃ (cs : List Value) (fp : List Nat) (x : MItem) (i' h' : Int), r = .agg cs.toArray ∧ Di x ∧ (0 ≤ i' ∧ i' ≤ a.length) ∧ Sep n w0 w' (Ck.own kItem fp cs x :: curB g v i' h' :: L) := by
  refine body_of follows Tryz.func40 rfl rfl _ rfl (by kernel_rfl) (vs ?_); refine x_al H st45 fun g2 w1 H => vs ?_; have H := H.front (c := curB g v i h); refine x_call (l13DrawRoute_ok H hv hi) fun _ w2 ⟨R, i1, h1, e, hR, hi1, H⟩ => ?_; subst e; refine vs ?_; refine x_call (l1Below_ok 3 H hv hi1) fun _ w3 ⟨k, i2, h2, e, hk, hi2, H⟩ => ?_; subst e; refine vs ?_; refine x_lst H pl_i64 sl60 [0, 5, 20, 100] (by simp) fun g3 w4 H => vs ?_; refine x_call (l1PickInt_ok _ H hv hi2 (by simp)) fun _ w5 ⟨D, i3, h3, e, _, hD, hi3, H⟩ => ?_; subst e; refine vs ?_; refine x_call (l1DrawBytes_ok 6 H hv hi3 (by omega)) fun r w6 ⟨b, fb, i4, h4, hb, hi4, H⟩ => ?_; obtain ⟨A, c, rfl, _⟩ := sl_open (H.own (.head _)); refine vs ?_; refine x_build bl45 [.string ⟨R.toArray⟩, .int .i64 (k : Int), .int .i64 D, .slice A b.length c] ?_; refine vs ?_; refine x_al H st45 fun g6 w7 H => vs ?_; refine x_sta H st45 (vs := [.string ⟨R.toArray⟩, .int .i64 (k : Int), .int .i64 D, .slice A b.length c]) (h1 := one_itemD) fun w8 H => vs ?_; have hk' := low_rg (m := 3) hk (by decide); have H := H.front (c := curB g v i4 h4); refine x_call (l1Below_ok 16 H hv hi4) fun _ w9 ⟨q, i5, h5, e, hq, hi5, H⟩ => ?_; subst e
  by_cases q0 : (q : Int) = 0
  · refine ve q0 ?_
    refine x_lst H pl_str sl85 oddS oddS_lo fun g7 w10 H => vs ?_; refine x_call (l1Pick_ok oddS H hv hi5 (by decide)) fun _ w11 ⟨R2, i6, h6, e, hR2, hi6, H⟩ => ?_; subst e; refine vs ?_; refine x_st H sc9 fun w11 H => vs ?_; refine x_lda H st45 ?_; refine vs ?_; refine x_sta H st45 (vs := [.string ⟨R2.toArray⟩, .int .i64 ((k : Int)), .int .i64 D, .slice A b.length c]) (h1 := one_itemD) fun w12 H => vs ?_; have hres := res_cell H (g := g2) (cs := [.string ⟨R2.toArray⟩, .int .i64 ((k : Int)), .int .i64 D, .slice A b.length c]) st45; have H := H.front (c := curB g v i6 h6); have H := H.front (c := Ck.own (bytes 5) fb [.slice A b.length c] b); obtain ⟨fp, H⟩ := ownItem (⟨R2, (k : Int), D, b⟩ : MItem) H (len_lo2 (oddS_len R2 hR2)) hk' hD; have H := H.drops' (L := [_, _]); have H := H.drops' (L := [_, _]); exact ⟨_, _, rfl, hres, _, fp, (⟨R2, (k : Int), D, b⟩ : MItem), i6, h6, rfl, Di_of (oddS_len R2 hR2) hb, hi6, H⟩
  refine ve q0 ?_
  by_cases q1 : (q : Int) = 1
  · refine ve q1 ?_
    refine x_lst H pl_i64 sl60 [-1, 9, 10] (by simp) fun g7 w10 H => vs ?_; refine x_call (l1PickInt_ok _ H hv hi5 (by simp)) fun _ w11 ⟨T2, i6, h6, e, _, hT2, hi6, H⟩ => ?_; subst e; refine vs ?_; refine x_st H sc3 fun w11 H => vs ?_; refine x_lda H st45 ?_; refine vs ?_; refine x_sta H st45 (vs := [.string ⟨R.toArray⟩, .int .i64 T2, .int .i64 D, .slice A b.length c]) (h1 := one_itemD) fun w12 H => vs ?_; have hres := res_cell H (g := g2) (cs := [.string ⟨R.toArray⟩, .int .i64 T2, .int .i64 D, .slice A b.length c]) st45; have H := H.front (c := curB g v i6 h6); have H := H.front (c := Ck.own (bytes 5) fb [.slice A b.length c] b); obtain ⟨fp, H⟩ := ownItem (⟨R, T2, D, b⟩ : MItem) H (len_lo2 (len_lo hR)) hT2 hD; have H := H.drops' (L := [_, _]); have H := H.drops' (L := [_, _]); exact ⟨_, _, rfl, hres, _, fp, (⟨R, T2, D, b⟩ : MItem), i6, h6, rfl, Di_of (len_lo hR) hb, hi6, H⟩
  refine ve q1 ?_
  by_cases q2 : (q : Int) = 2
  · refine ve q2 ?_
    refine x_lst H pl_i64 sl60 [-1, 100000, 100001] (by simp) fun g7 w10 H => vs ?_; refine x_call (l1PickInt_ok _ H hv hi5 (by simp)) fun _ w11 ⟨D2, i6, h6, e, _, hD2, hi6, H⟩ => ?_; subst e; refine vs ?_; refine x_st H sc3 fun w11 H => vs ?_; refine x_lda H st45 ?_; refine vs ?_; refine x_sta H st45 (vs := [.string ⟨R.toArray⟩, .int .i64 ((k : Int)), .int .i64 D2, .slice A b.length c]) (h1 := one_itemD) fun w12 H => vs ?_; have hres := res_cell H (g := g2) (cs := [.string ⟨R.toArray⟩, .int .i64 ((k : Int)), .int .i64 D2, .slice A b.length c]) st45; have H := H.front (c := curB g v i6 h6); have H := H.front (c := Ck.own (bytes 5) fb [.slice A b.length c] b); obtain ⟨fp, H⟩ := ownItem (⟨R, (k : Int), D2, b⟩ : MItem) H (len_lo2 (len_lo hR)) hk' hD2; have H := H.drops' (L := [_, _]); have H := H.drops' (L := [_, _]); exact ⟨_, _, rfl, hres, _, fp, (⟨R, (k : Int), D2, b⟩ : MItem), i6, h6, rfl, Di_of (len_lo hR) hb, hi6, H⟩
  refine ve q2 ?_; refine x_lda H st45 ?_; refine vs ?_; refine x_sta H st45 (vs := [.string ⟨R.toArray⟩, .int .i64 ((k : Int)), .int .i64 D, .slice A b.length c]) (h1 := one_itemD) fun w12 H => vs ?_; have hres := res_cell H (g := g2) (cs := [.string ⟨R.toArray⟩, .int .i64 ((k : Int)), .int .i64 D, .slice A b.length c]) st45; have H := H.front (c := curB g v i5 h5); have H := H.front (c := Ck.own (bytes 5) fb [.slice A b.length c] b); obtain ⟨fp, H⟩ := ownItem (⟨R, (k : Int), D, b⟩ : MItem) H (len_lo2 (len_lo hR)) hk' hD; have H := H.drops' (L := [_, _]); have H := H.drops' (L := [_, _]); exact ⟨_, _, rfl, hres, _, fp, (⟨R, (k : Int), D, b⟩ : MItem), i5, h5, rfl, Di_of (len_lo hR) hb, hi5, H⟩
theorem l14Dent_ok {n : Nat} {w0 w : World} {L : List Ck} {g : Nat} {v u : Value} {i h : Int} {a b : List UInt8} {fb : List Nat} (H : Sep n w0 w (Ck.own (bytes 5) fb [u] b :: curB g v i h :: L)) (hv : (bytes 5).rd w0 n [v] a) (hi : 0 ≤ i ∧ i ≤ a.length) (hb : b.length ≤ 1000000) :
    ACalls Tryz.prog 65 #[.pointer (some ⟨g, 0, none⟩), u] w fun r w' => ∃ (b' : List UInt8) (fp : List Nat) (i' h' : Int), b'.length ≤ b.length + 1 ∧ (0 ≤ i' ∧ i' ≤ a.length) ∧ Sep n w0 w' (Ck.own (bytes 5) fp [r] b' :: curB g v i' h' :: L) := by
  obtain ⟨A, c, rfl, hc1, hc2, _⟩ := sl_open (H.own (.head _)); refine body_of follows Tryz.func65 rfl rfl _ rfl (by kernel_rfl) (vs ?_); refine ve (show w64 ((b.length : Int) + 1) = ((b.length + 1 : Nat) : Int) by unfold w64; omega) ?_; have H := H.front (c := curB g v i h); refine x_call (l1Below_ok ((b.length + 1 : Nat) : Int) H hv hi) fun _ w1 ⟨k, i1, h1, e, hk, hi1, H⟩ => ?_; subst e; have hk2 : k ≤ b.length := by omega
  refine vs ?_; refine x_call (l1Below_ok 5 H hv hi1) fun _ w2 ⟨q, i2, h2, e, hq, hi2, H⟩ => ?_; subst e
  by_cases q0 : (q : Int) = 0
  · refine ve q0 ?_
    refine x_hiO sl22 (hi := k) (by omega) ?_; refine vs ?_; have H := (H.front (c := Ck.own (bytes 5) fb [.slice A b.length c] b)).takeO pl_u8 hk2; exact ⟨_, _, _, _, by rw [List.length_take]; omega, hi2, H⟩
  refine ve q0 ?_
  by_cases q1 : (q : Int) = 1
  · refine ve q1 ?_
    refine draw_of [(1, true), (2, true), (3, true), (5, true), (9, true), (10, true), (11, true), (0, false), (4, false), (6, false), (7, true), (8, false), (12, false), (13, false), (14, true)] n [] fun w3 hh hb3 => vs ?_; have H := H.go (hb3 _); have H3 := H; have hr := H.ow (bytes 5) fb [.slice A b.length c] b; refine q_toA sl22 rfl hr hk2 fun v1 hv1 => ?_; refine vs ?_; refine q_fromA sl22 rfl hr hk2 fun v2 hv2 => ?_; refine vs ?_; refine x_emp H pl_u8 sl22 fun g4 w4 H => vs ?_; refine ⟨kept_base H3 H, ?_⟩; have r1 := hv1 _ _ (H.ow (bytes 5) fb [.slice A b.length c] b); refine x_app H pl_u8 sl22 r1 ?_ ?_ fun f5 v5 w5 H => vs ?_
    · simp only [List.length_nil, List.length_take]; omega
    · simp only [List.length_nil, List.length_take]; omega
    refine ⟨kept_base H3 H, ?_⟩; rw [List.nil_append] at H; have H := H.front (c := curB g v i2 h2); refine x_call (l1Below_ok 4 H hv hi2) fun _ w6 ⟨q2, i3, h3, e, hq2, hi3, H⟩ => ?_; subst e; refine vs ?_; refine ⟨kept_base H3 H, ?_⟩; refine ve (u8_low (k := q2) (low4 hq2)) ?_; refine x_lst H pl_u8 sl22 [UInt8.ofNat q2] (by simp) fun g7 w7 H => vs ?_; refine ⟨kept_base H3 H, ?_⟩; have r2 := hv2 _ _ (H.ow (bytes 5) fb [.slice A b.length c] b); refine x_app H pl_u8 sl22 r2 ?_ ?_ (fun f8 v8 w8 H => vs ?_) (hm := .here)
    · simp only [List.length_cons, List.length_nil, List.length_drop]; omega
    · simp only [List.length_cons, List.length_nil, List.length_drop]; omega
    refine ⟨kept_base H3 H, ?_⟩; have r3 := H.ow (bytes 5) f8 [v8] ([UInt8.ofNat q2] ++ b.drop k); have H := H.front (c := Ck.own (bytes 5) f5 [v5] (b.take k)); refine x_app H pl_u8 sl22 r3 ?_ ?_ (fun f9 v9 w9 H => vs ?_) (hm := .here)
    · simp only [List.length_append, List.length_cons, List.length_nil, List.length_drop, List.length_take]; omega
    · simp only [List.length_append, List.length_cons, List.length_nil, List.length_drop, List.length_take]; omega
    refine ⟨kept_base H3 H, ?_⟩; have H := H.front (c := curB g v i3 h3); have H := H.front (c := Ck.own (bytes 5) f9 [v9] (b.take k ++ ([UInt8.ofNat q2] ++ b.drop k))); have H := H.drops' (L := [_, _]); have H := H.drops' (L := [_, _]); exact ⟨_, _, _, _, by simp only [List.length_append, List.length_cons, List.length_nil, List.length_drop, List.length_take]; omega, hi3, H⟩
  · refine ve q1 ?_
    have H := H.front (c := Ck.own (bytes 5) fb [.slice A b.length c] b); exact ⟨_, _, _, _, by omega, hi2, H⟩
section
variable {P : Program} {l : List Oper} {K : Sl → World → Prop} {s : Sl} {w : World}
theorem cut_to {tg : Tg (l.toArray, K)} {σ : Type} (sl : σ → List (Nat × Value)) (I : σ → World → Prop) (hd : Adraw P l.toArray (fun s w => ∃ x, Slots s (sl x) ∧ I x w) .mk s w) (hk : ∀ x s w, I x w → K (putAll s (sl x)) w) : Adraw P l.toArray K tg s w := by
  refine fun n a ha hok => wpAny_mono (fun e a w he => ?_) _ _ _ _ (hd n a ha hok)
  cases e with
  | normal =>
    obtain ⟨s, ha, x, hs, hI⟩ := he; refine ⟨s, ha, ?_⟩; have := hk x s w hI
    rwa [hs.put] at this
  | _ => exact he.elim
end
section
variable {P : Program} {m : Nat} {w : World} {KQ : Value → Prop} {G : List (Nat × Nat)} {tq : Tg (m, G, w, KQ)} {α : Type} {d : Kd α}
theorem q_subN {wr : World} {t e sz by_ : Nat} {z : Value} (HS : SlT P t e sz by_ z) (hd : d.sz = sz) {q : Nat} {v : Value} {l : List α} {k k' : IntKind} {li hi' : Int} (lo hi : Nat) (hr : (Kd.slice e d).rd wr q [v] l) (e1 : li = (lo : Int)) (e2 : hi' = (hi : Int)) (h0 : lo ≤ hi) (h1 : hi ≤ l.length)
    (h : ∀ v', (Kd.slice e d).rd wr q [v'] ((l.drop lo).take (hi - lo)) → KQ v') : QS P m G w KQ tq (Instr.sliceAt t v (some (.int k li)) (some (.int k' hi')) none) := by
  subst e1 e2; exact q_sub HS hd hr h0 h1 h
theorem q_fromN {wr : World} {t e sz by_ : Nat} {z : Value} (HS : SlT P t e sz by_ z) (hd : d.sz = sz) {q : Nat} {v : Value} {l : List α} {k : IntKind} {li : Int} (lo : Nat) (hr : (Kd.slice e d).rd wr q [v] l) (e1 : li = (lo : Int)) (h1 : lo ≤ l.length)
    (h : ∀ v', (Kd.slice e d).rd wr q [v'] (l.drop lo) → KQ v') : QS P m G w KQ tq (Instr.sliceAt t v (some (.int k li)) none none) := by
  subst e1; exact q_from HS hd hr h1 h
theorem q_toN {wr : World} {t e sz by_ : Nat} {z : Value} (HS : SlT P t e sz by_ z) (hd : d.sz = sz) {q : Nat} {v : Value} {l : List α} {k : IntKind} {hi' : Int} (hi : Nat) (hr : (Kd.slice e d).rd wr q [v] l) (e2 : hi' = (hi : Int)) (h1 : hi ≤ l.length)
    (h : ∀ v', (Kd.slice e d).rd wr q [v'] (l.take hi) → KQ v') : QS P m G w KQ tq (Instr.sliceAt t v none (some (.int k hi')) none) := by
  subst e2; exact q_to HS hd hr h1 h
end
section
variable {P : Program} {w : World} {K : Value → World → Prop} {tg : Tg K} {α : Type} {d : Kd α}
theorem x_subN {wr : World} {t e sz by_ : Nat} {z : Value} (HS : SlT P t e sz by_ z) (hd : d.sz = sz) {q : Nat} {v : Value} {l : List α} {k k' : IntKind} {li hi' : Int} (lo hi : Nat) (hr : (Kd.slice e d).rd wr q [v] l) (e1 : li = (lo : Int)) (e2 : hi' = (hi : Int)) (h0 : lo ≤ hi) (h1 : hi ≤ l.length)
    (h : ∀ v', (Kd.slice e d).rd wr q [v'] ((l.drop lo).take (hi - lo)) → K v' w) : VS P K tg (Instr.sliceAt t v (some (.int k li)) (some (.int k' hi')) none) w := by
  subst e1 e2; exact x_sub HS hd hr h0 h1 h
theorem x_fromN {wr : World} {t e sz by_ : Nat} {z : Value} (HS : SlT P t e sz by_ z) (hd : d.sz = sz) {q : Nat} {v : Value} {l : List α} {k : IntKind} {li : Int} (lo : Nat) (hr : (Kd.slice e d).rd wr q [v] l) (e1 : li = (lo : Int)) (h1 : lo ≤ l.length)
    (h : ∀ v', (Kd.slice e d).rd wr q [v'] (l.drop lo) → K v' w) : VS P K tg (Instr.sliceAt t v (some (.int k li)) none none) w := by
  subst e1; exact x_from HS hd hr h1 h
theorem x_toN {wr : World} {t e sz by_ : Nat} {z : Value} (HS : SlT P t e sz by_ z) (hd : d.sz = sz) {q : Nat} {v : Value} {l : List α} {k : IntKind} {hi' : Int} (hi : Nat) (hr : (Kd.slice e d).rd wr q [v] l) (e2 : hi' = (hi : Int)) (h1 : hi ≤ l.length)
    (h : ∀ v', (Kd.slice e d).rd wr q [v'] (l.take hi) → K v' w) : VS P K tg (Instr.sliceAt t v none (some (.int k hi')) none) w := by
  subst e2; exact x_to HS hd hr h1 h
end
section
variable {P : Program} {w : World} {K : Value → World → Prop} {tg : Tg K} {t : TypeId} {x y : Operand}
end
section
variable {P : Program} {s : Sl} {w : World} {K : Value → World → Prop} {d : Option Tmp} {ty : TypeId} {pos : String} {af : Array Edge} {g : Option (Nat × Bool)}
end
section
variable {P : Program} {n : Nat} {w0 w : World} {L : List Ck} {K : Value → World → Prop}
theorem x_staD (H : Sep n w0 w L) {g j : Nat} {cs vs : List Value} {t e : TypeId} {sz : Nat} {z : Array Value} {f : Ck → List Ck} {tg : Tg K} (HS : StT P e sz z) (h : ∀ w', Sep n w0 w' (f (Ck.box g (cs.take j ++ vs ++ cs.drop (j + vs.length)) t)) → Chg [g] w w' → K undef w')
    (hm : Hole (Ck.box g cs t) L f := by repeat (first | exact Hole.here | apply Hole.there)) (hl : vs.length = sz := by rfl) (hj : j + vs.length ≤ cs.length := by first | decide | simp) (h1 : ∀ v ∈ vs, v.oneCell' = true) :
    VU P K tg (Instr.storeAt e (.pointer (some ⟨g, j, none⟩)) (.agg vs.toArray)) w := by
  have hb : w.heap[g]? = some (.cells cs.toArray t (0, 0)) := H.ok _ hm.mem; obtain ⟨fs, hu⟩ := HS.un; obtain ⟨inf, hi, hs, _⟩ := HS.inf; have hst := run_storeCells_at P g j t vs 0 cs.toArray w hb (by simpa using hj) h1; have hchg : Chg [g] w (w.setRow g ((cs.take j ++ vs ++ cs.drop (j + vs.length)).toArray)) := ⟨rfl, rfl, rfl, by simp [World.setRow], fun k _ hk => setRow_other w g k _ (fun e => hk (by simp [e]))⟩; unfold VU; refine vU_run (u := ()) (w' := w.setRow g ((cs.take j ++ vs ++ cs.drop (j + vs.length)).toArray)) ?_ (h _ (H.put hm ?_ ?_ (by simp [Ck.box]) (fun b hb => ?_)) hchg)
  · simp only [Nat.add_zero] at hst
    simp [Instr.storeAt, Instr.sureAddr, storeVar, Value.cells, run_sizeOf' hi hs, hl, hst]
  · exact ⟨rfl, rfl, rfl, by simp [World.setRow], fun k _ hk => setRow_other w g k _ (fun e => hk (by simp [Ck.box, e]))⟩
  · exact setRow_heap w g _ _ t _ hb
  · simp only [Ck.box, List.mem_singleton] at hb ⊢
    refine ⟨.inl hb, ?_⟩; have := H.lt hm.mem
    simp [World.setRow]; omega
theorem Sep.boxne {M M' : List Ck} (H : Sep n w0 w L) {g g' : Nat} {cs cs' : List Value} {t t' : TypeId} (h : Out (Ck.box g cs t) L M := by repeat (first | exact Out.here | apply Out.there)) (h' : Out (Ck.box g' cs' t') M M' := by repeat (first | exact Out.here | apply Out.there)) : g ≠ g' := fun e => by
  have H1 := (H.out h).out (.there h'); have hnd := H1.nd; simp only [fps, Ck.box, List.singleton_append] at hnd; exact (List.nodup_cons.1 hnd).1 (List.mem_cons.2 (.inl e.symm))
end
end Go.Proofs.YtcmckbgiiclomacGreat.V
