/- A key that was caught, or is caught by going on: the implementation's side. A key that was caught, or is caught by going on: the reference's side. -/
import Derived.Test.YtagljofpmjaciaaWmf
namespace Go.Proofs.Ytagljofpmjaciaa.V
open Go Go.RowKit
set_option maxRecDepth 100000
set_option maxHeartbeats 4000000
set_option linter.unusedSimpArgs false
set_option linter.unusedVariables false
set_option pp.deepTerms false
set_option pp.deepTerms.threshold 3

/-! ### what is answered -/
def ckGo : Nat → MCatch → MCatch × List UInt8 × Bool
  | 0, x => (⟨chainNextC x.f_Chain, x.f_List⟩, chainNextK x.f_Chain, true)
  | k + 1, x => ckGo k ⟨chainNextC x.f_Chain, x.f_List ++ [⟨x.f_Chain.f_N, chainNextK x.f_Chain⟩]⟩
noncomputable def ckAt (l : List MKept) (n : Int) : Option Nat := l.findIdx? fun y => decide (y.f_N = n)
noncomputable def ck (x : MCatch) (n : Int) : MCatch × List UInt8 × Bool :=
  if catchOk x = true then
    match ckAt x.f_List n with
    | some i => (⟨x.f_Chain, x.f_List.eraseIdx i⟩, (x.f_List.getD i ⟨0, []⟩).f_Key, true)
    | none => if n < x.f_Chain.f_N ∨ 1000 ≤ n ∨ 5 < x.f_List.length + n - x.f_Chain.f_N then (x, [], false) else ckGo (n - x.f_Chain.f_N).toNat x
  else (x, [], false)
theorem ck_bad {x : MCatch} {n : Int} (h : catchOk x = false) : ck x n = (x, [], false) := by
  unfold ck; rw [if_neg (by rw [h]; decide)]
theorem ckAt_some {l : List MKept} {n : Int} {i : Nat} (hi : i < l.length) (h : l[i].f_N = n) (hn : ∀ j (hj : j < l.length), j < i → ¬ l[j].f_N = n) : ckAt l n = some i := by
  unfold ckAt
  rw [List.findIdx?_eq_some_iff_getElem]
  refine ⟨hi, by simpa using h, fun j hj => by simpa using hn j (by omega) hj⟩
theorem ckAt_none {l : List MKept} {n : Int} (hn : ∀ j (hj : j < l.length), ¬ l[j].f_N = n) : ckAt l n = none := by
  unfold ckAt
  rw [List.findIdx?_eq_none_iff]
  intro y hy
  obtain ⟨j, hj, rfl⟩ := List.getElem_of_mem hy
  simpa using hn j hj
theorem ck_found {x : MCatch} {n : Int} {i : Nat} (h : catchOk x = true) (hi : i < x.f_List.length) (ha : ckAt x.f_List n = some i) : ck x n = (⟨x.f_Chain, x.f_List.eraseIdx i⟩, x.f_List[i].f_Key, true) := by
  unfold ck
  rw [if_pos h, ha]
  simp only [List.getD_eq_getElem?_getD, List.getElem?_eq_getElem hi, Option.getD_some]
theorem ck_not {x : MCatch} {n : Int} (h : catchOk x = true) (ha : ckAt x.f_List n = none) (hn : n < x.f_Chain.f_N ∨ 1000 ≤ n ∨ 5 < x.f_List.length + n - x.f_Chain.f_N) : ck x n = (x, [], false) := by
  unfold ck
  rw [if_pos h, ha]
  simp only [if_pos hn]
theorem ck_go {x : MCatch} {n : Int} (h : catchOk x = true) (ha : ckAt x.f_List n = none) (hn : ¬ (n < x.f_Chain.f_N ∨ 1000 ≤ n ∨ 5 < x.f_List.length + n - x.f_Chain.f_N)) : ck x n = ckGo (n - x.f_Chain.f_N).toNat x := by
  unfold ck
  rw [if_pos h, ha]
  simp only [if_neg hn]
theorem catchOk_p {x : MCatch} (h : catchOk x = true) : catchP x := by
  unfold catchOk at h
  exact @of_decide_eq_true _ (Classical.propDecidable _) h
theorem chainGo_of {x : MChain} (h : chainOk x = true) (h2 : x.f_N < 1000) : chainGo x = true := by unfold chainGo; rw [h, decide_eq_true h2]; rfl
theorem chainOk_next {x : MChain} (h : chainGo x = true) : chainOk (chainNextC x) = true ∧ (chainNextC x).f_N = x.f_N + 1 ∧ (chainNextC x).f_Key.length = 32 := by
  have e1 : chainNextC x = ⟨mac x.f_Key [2], x.f_N + 1⟩ := by unfold chainNextC; rw [if_pos h]
  unfold chainGo at h
  simp only [Bool.and_eq_true, decide_eq_true_eq] at h
  have h2 := chainOk_iff.1 h.1
  rw [e1]
  have hl : (mac x.f_Key [2]).length = 32 := mac_len32 (by simp) (by omega)
  exact ⟨chainOk_iff.2 ⟨hl, by constructor <;> dsimp only <;> omega⟩, rfl, hl⟩

/-! ### an element taken out; the first of a list with a property -/
theorem own_at {n : Nat} {w0 w : World} {L : List Ck} {α : Type} {d : Kd α} {e : TypeId} {fp : List Nat} {A : Option Addr} {m c : Nat} {l : List α} (H : Sep n w0 w (Ck.own (Kd.slice e d) fp [.slice A m c] l :: L)) (hl : 0 < l.length) : ∃ g, A = some ⟨g, 0, none⟩ := by
  obtain ⟨v', rows, fs, hv, hr⟩ := (show (Kd.slice e d).ow w fp [.slice A m c] l from H.ok _ (.head _))
  simp only [List.cons.injEq, and_true] at hv
  subst hv
  rcases hr.row.2 with ⟨h1, h2⟩ | ⟨g', cap, cur, h1, _⟩
  · omega
  · cases h1; exact ⟨g', rfl⟩

section
variable {P : Program} {w : World} {K : Value → World → Prop} {KQ : Value → Prop} {tg : Tg K} {t e sz by_ : Nat} {z : Value}
theorem sliced_hi {A : Option Addr} {hi c sz : Nat} : sliced A 0 hi c sz = .slice A hi c := by
  unfold sliced
  rw [Nat.zero_mul]
  cases A with
  | none => simp
  | some a => simp [Addr.add]
theorem q_hiR {mm : Nat} {G : List (Nat × Nat)} {tq : Tg (mm, G, w, KQ)} (HS : SlT P t e sz by_ z) {A : Option Addr} {m c hi : Nat} {k : IntKind} (hm : hi ≤ c) (h : KQ (.slice A hi c)) : QS P mm G w KQ tq (Instr.sliceAt t (.slice A m c) none (some (.int k (hi : Int))) none) :=
  QS_of (v := .slice A hi c) (fun w _ => by have := (run_sub (w := w) HS (A := A) (n := m) (k := .i64) (k' := k) (lo := 0)).2.1 hm; rw [sliced_hi] at this; exact this) h
theorem q_loR {mm : Nat} {G : List (Nat × Nat)} {tq : Tg (mm, G, w, KQ)} (HS : SlT P t e sz by_ z) {A : Option Addr} {m c lo : Nat} {k : IntKind} (hm : lo ≤ m) (h : KQ (sliced A lo m c sz)) : QS P mm G w KQ tq (Instr.sliceAt t (.slice A m c) (some (.int k (lo : Int))) none none) :=
  QS_of (fun w _ => (run_sub HS (k' := .i64) (hi := 0)).2.2 hm) h
theorem x_midR (HS : SlT P t e sz by_ z) {g m c lo hi : Nat} {k k' : IntKind} (h1 : lo ≤ hi) (h2 : hi ≤ c) (h3 : lo < c) (h : K (.slice (some ⟨g, lo * sz, none⟩) (hi - lo) (c - lo)) w) : VS P K tg (Instr.sliceAt t (.slice (some ⟨g, 0, none⟩) m c) (some (.int k (lo : Int))) (some (.int k' (hi : Int))) none) w := by
  refine vS_run ((run_sub HS).1 h1 h2) ?_
  have e : sliced (some ⟨g, 0, none⟩) lo hi c sz = .slice (some ⟨g, lo * sz, none⟩) (hi - lo) (c - lo) := by
    unfold sliced
    rw [if_neg (by omega), Option.map_some, Kd.add_plain]
  rw [e]; exact h
end
theorem Sep.drops {n : Nat} {w0 w : World} {L M : List Ck} {c : Ck} (H : Sep n w0 w (L ++ c :: M)) : Sep n w0 w (L ++ M) := by
  have h : ∀ L : List Ck, Out c (L ++ c :: M) (L ++ M) := fun L => by
    induction L with
    | nil => exact .here
    | cons a L ih => exact .there ih
  exact (H.out (h L)).tail
theorem deleteK_ok {n : Nat} {w0 w : World} {L : List Ck} {fp : List Nat} {v : Value} {l : List MKept} (i : Nat) (H : Sep n w0 w (Ck.own kepts fp [v] l :: L)) (hi : i < l.length) (hl : l.length ≤ 1048576) :
    ACalls Try.prog 93 #[v, .int .i64 (i : Int), .int .i64 ((i + 1 : Nat) : Int)] w fun r w' => ∃ fp', Sep n w0 w' (Ck.own kepts fp' [r] (l.eraseIdx i) :: L) := by
  obtain ⟨A, c, rfl, hc1, hc2, ha⟩ := sl_open (H.own (.head _))
  obtain ⟨g, rfl⟩ := own_at H (by omega)
  refine body_of follows Try.func93 rfl rfl _ rfl (by kernel_rfl) (vs ?_)
  refine x_lhm sl48 (lo := i) (hi := i + 1) (mx := l.length) (by omega) (by omega) (by omega) fun v => vs ?_
  refine ve (show ¬ ((i : Int) = ((i + 1 : Nat) : Int)) by omega) ?_
  refine draw_of [(0, true), (1, true), (2, true), (3, true), (4, true), (5, true), (6, false), (7, true)] n [] fun w5 hh hb5 => vs ?_
  have H := H.go (hb5 _)
  have H5 := H
  refine q_hiR sl48 (by omega) ?_
  refine vs ?_
  refine q_loR sl48 (lo := i + 1) (by omega) ?_
  refine vs ?_
  refine x_delA sl48 rfl i H hi fun fp6 w6 H => vs ?_
  refine ⟨kept_base H5 H, ?_⟩
  have hel : (l.eraseIdx i).length = l.length - 1 := by rw [List.length_eraseIdx, if_pos hi]
  refine x_midR sl48 (lo := l.length - 1) (hi := l.length) (by omega) (by omega) (by omega) ?_
  refine vs ?_
  refine x_clrB sl48 rfl (by decide) H (by omega) (by omega) fun fp7 w7 H => vs ?_
  exact ⟨_, H⟩

/-- The first of a list with a property, told by a closure. -/
theorem indexFuncK_ok (w : World) (v : Value) (l : List MKept) (p : MKept → Bool) (f : FuncId) (fs cs : Array Value) (h : kepts.rd w w.heap.size [v] l) (hf : entersB Try.prog f = true)
    (hc : ∀ w' es x, Below w.heap.size w w' → kKept.rd w' w'.heap.size es x → ACalls Try.prog f (fs ++ #[.agg es.toArray] ++ cs) w' fun r w'' => r = .bool (p x) ∧ Below w'.heap.size w' w'') :
    ACalls Try.prog 91 #[v, .func (.func f) fs cs] w fun r w' => ((∃ k : Nat, ∃ hk : k < l.length, r = .int .i64 k ∧ p l[k] = true ∧ ∀ i (hi : i < l.length), i < k → p l[i] = false) ∨ (r = .int .i64 (-1) ∧ ∀ i (hi : i < l.length), p l[i] = false)) ∧ Below w.heap.size w w' := by
  have hlm := sl_len h
  obtain ⟨A, c, rfl, hc1, hc2, ha⟩ := sl_open h
  refine body_of follows Try.func91 rfl rfl _ rfl (by kernel_rfl) (vs ?_)
  refine loop_at (σ := Nat) (fun k => [(0, .slice A l.length c), (1, .func (.func f) fs cs), (7, .int .i64 (l.length : Int)), (8, .int .i64 (k : Int))])
    (fun k w' => k ≤ l.length ∧ (∀ i (hi : i < l.length), i < k → p l[i] = false) ∧ Sep w.heap.size w w' []) (fun k => l.length - k) 0 (vs trivial) ⟨Nat.zero_le _, fun i hi h => absurd h (Nat.not_lt_zero i), Sep.start w⟩ ?_
  rintro k s w2 ⟨hk, hall, H⟩
  refine vs (ways ?_ ?_)
  · refine vh fun hlt => ?_
    have hk2 : k < l.length := by omega
    refine x_elg sl48 rfl (ha.mono H.bel) (by omega) hlt fun ad es hb hr hc' => vs ?_
    have hr : kKept.rd w2 w.heap.size es l[k] := hr
    refine x_lds st105 hc' (Kd.len _ hr) (vs ?_)
    refine x_callv hf (hc w2 es _ H.bel (Kd.le _ hr H.ns)) fun _ w3 ⟨e3, hb3⟩ => ?_
    subst e3
    have H := H.go hb3
    refine vs (ways ?_ ?_)
    · refine vh fun hp => ?_
      exact ⟨.inl ⟨k, hk2, rfl, hp, hall⟩, H.bel⟩
    · refine vh fun hp => ?_
      refine ⟨k + 1, i64_eq (by unfold w64; omega), ⟨hk2, fun i hi h => ?_, H⟩, by omega⟩
      by_cases h2 : i = k
      · subst h2; simpa using hp
      · exact hall i hi (by omega)
  · refine vh fun hlt => ?_
    exact ⟨.inr fun i hi => hall i hi (by omega), H.bel⟩

theorem cell_lt {w : World} {p : Addr} {v : Value} (h : w.cell? p = some v) : p.block < w.heap.size := by
  unfold World.cell? at h
  cases e : w.heap[p.block]? with
  | none => rw [e] at h; simp at h
  | some _ => exact (Array.getElem?_eq_some_iff.1 e).1
theorem implCatchKey1_ok (w : World) (es : List Value) (g : Nat) (x : MKept) (n : Int) (h : kKept.rd w w.heap.size es x) (hg : w.cell? ⟨g, 0, none⟩ = some (.int .i64 n)) :
    ACalls Try.prog 92 (#[] ++ #[.agg es.toArray] ++ #[.pointer (some ⟨g, 0, none⟩)]) w fun r w' => r = .bool (decide (x.f_N = n)) ∧ Below w.heap.size w w' := by
  obtain ⟨u0, rfl, hy0, hy1⟩ := kKept_open h
  have H := Sep.start w
  refine body_of (args := [.agg #[.int .i64 x.f_N, u0], .pointer (some ⟨g, 0, none⟩)]) follows Try.func92 rfl rfl _ rfl (by kernel_rfl) (vs ?_)
  refine x_bx H [.int .i64 x.f_N, u0] fun g1 w1 H => vs ?_
  refine x_ld H sc3 ?_
  refine vs ?_
  refine x_load sc3 ((H.bel.cell (cell_lt hg)).trans hg) (vs ?_)
  exact H.bel

theorem implCatchKey_ok (w : World) (cs : List Value) (x : MCatch) (n : Int) (h : kCatch.rd w w.heap.size cs x) (hs : smCatch x) :
    ACalls Try.prog 35 #[.agg cs.toArray, .int .i64 n] w fun r w' => ∃ cs' fp v' fp', r = .tuple #[.agg cs'.toArray, v', .bool (ck x n).2.2] ∧ Sep w.heap.size w w' [Ck.own kCatch fp cs' (ck x n).1, Ck.own (bytes 5) fp' [v'] (ck x n).2.1] := by
  obtain ⟨v0, v1, rfl, h0, h1⟩ := kCatch_open h
  have hlm := sl_len h1
  have hs0 := hs.2.1
  obtain ⟨A, c, rfl, _, _, ha⟩ := sl_open h1
  have H := Sep.start w
  refine body_of follows Try.func35 rfl rfl _ rfl (by kernel_rfl) (vs ?_)
  refine x_bx H [v0, .int .i64 x.f_Chain.f_N, .slice A x.f_List.length c] fun g1 w1 H => vs ?_
  refine x_bx H [.int .i64 n] fun g2 w2 H => vs ?_
  refine x_al H st50 fun g3 w3 H => vs ?_
  refine x_lda H st50 ?_
  refine vs ?_
  refine x_call (cloneCatch_ok w3 _ x (H.rd h) hs) fun _ w4 ⟨a0, f0, a1, f1, e, S⟩ => ?_
  subst e
  have H := H.join S
  simp only [List.cons_append, List.nil_append] at H
  have ht0 := H.own (.head _)
  obtain ⟨_, e0, ht1, _⟩ := kChain_open ht0
  simp only [List.cons.injEq, and_true] at e0
  obtain ⟨rfl, _⟩ := e0
  obtain ⟨A0, c0, rfl, _⟩ := sl_open ht1
  obtain ⟨A1, c1, rfl, _⟩ := sl_open (H.own (.tail _ (.head _)))
  refine vs ?_
  refine x_al H st50 fun g4 w5 H => vs ?_
  refine x_sta (vs := [.slice A0 x.f_Chain.f_Key.length c0, .int .i64 x.f_Chain.f_N, .slice A1 x.f_List.length c1]) H st50 (h1 := by simp [Value.oneCell']) fun w6 H => vs ?_
  refine x_lda H st50 ?_
  refine vs ?_
  refine x_callb H (implCatchOk_ok w6 _ _ (H.rd h)) fun w7 H => ?_
  cases hok : catchOk x with
  | false =>
    refine vs ?_
    refine x_lda H st50 ?_
    refine vs ?_
    refine x_sta H st50 (vs := [_, _, _]) (h1 := by simp [Value.oneCell']) fun w8 H => vs ?_
    rw [ck_bad hok]
    have H := H.front (c := Ck.own kepts f1 [.slice A1 x.f_List.length c1] x.f_List)
    have H := H.front (c := Ck.own kChain f0 [.slice A0 x.f_Chain.f_Key.length c0, .int .i64 x.f_Chain.f_N] x.f_Chain)
    obtain ⟨fp, H⟩ := ownCatch x H
    have H := H.nothing (d := bytes 5) (sl_zero w8)
    exact ⟨_, _, rfl, res_cell H st50, _, _, _, _, rfl, H.two (.there .here) .here⟩
  | true =>
    obtain ⟨p1, p2, p3⟩ := catchOk_p hok
    obtain ⟨o1, o2, o3⟩ := chainOk_iff.1 p1
    refine vs ?_
    refine x_ld H sc48 ?_
    refine vs ?_
    have hcell := H.cell (g := g2) (cs := [.int .i64 n]) (t := 3) (.tail _ (.tail _ (.tail _ (.tail _ (.head _))))) 0
    have hlt := H.lt (g := g2) (cs := [.int .i64 n]) (t := 3) (.tail _ (.tail _ (.tail _ (.tail _ (.head _)))))
    refine x_call (indexFuncK_ok w7 _ x.f_List (fun y => decide (y.f_N = n)) 92 #[] #[.pointer (some ⟨g2, 0, none⟩)] (H.rd h1) en92 fun w' es y hb hy => implCatchKey1_ok w' es g2 y n hy ((hb.cell hlt).trans hcell)) fun _ w8 ⟨hr, hb8⟩ => ?_
    have H := H.go hb8
    rcases hr with ⟨k, hk, rfl, hkp, hkn⟩ | ⟨rfl, hkn⟩
    · have hat := ckAt_some hk (by simpa using hkp) (fun j hj hlt => by simpa using hkn j hj hlt)
      rw [ck_found hok hk hat]
      refine ve (show (0 : Int) ≤ (k : Int) by omega) ?_
      refine x_ld H sc48 ?_
      refine ve (show w64 ((k : Int) + 1) = ((k + 1 : Nat) : Int) from w64_succ (b := 1048576) (by omega) (by omega)) ?_
      have H := H.front (c := Ck.own kepts f1 [.slice A1 x.f_List.length c1] x.f_List)
      refine x_call (deleteK_ok k H hk hs0) fun r9 w9 ⟨f9, H⟩ => vs ?_
      have h9 := Kd.one _ (H.own (.head _)) r9 (by simp)
      refine x_st H sc48 (h1 := h9) fun w10 H => vs ?_
      refine draw_zat [(0, true), (1, true), (2, true), (3, true), (4, true), (5, true), (6, true), (7, false)] 8 [8, 9, 10] [] fun w11 hh hb11 => vs ?_
      have H := H.go (hb11 _)
      have J := Sep.start w11
      refine q_ldaB H J st50 ?_
      refine vs ?_
      refine q_ldB H J sc48 ?_
      refine vs ?_
      refine q_elg sl48 rfl (ha.mono H.bel) (by omega) (by omega) fun ad2 es2 hb2 hr2 hc2 => vs ?_
      have hr2 : kKept.rd w11 w.heap.size es2 x.f_List[k] := hr2
      obtain ⟨u2, rfl, hz0, hz1⟩ := kKept_open hr2
      refine q_lfj sc22 hc2 (by decide) (Nat.lt_of_lt_of_le hb2 H.ns) rfl ?_
      refine vs ?_
      have hsm : x.f_List[k].f_Key.length ≤ 1048576 := hs.2.2 x.f_List[k] (List.getElem_mem hk)
      refine x_callf J (cloneB_ok w11 _ _ (Kd.le _ hz1 H.ns) (by omega)) fun r12 f12 w12 J => vs ?_
      refine ⟨kept_base (Sep.start w11) J, ?_⟩
      have H := H.join J
      simp only [List.cons_append, List.nil_append] at H
      refine dl_cons ⟨_, rfl, vs ?_⟩
      refine x_sta H st50 (vs := [.slice A0 x.f_Chain.f_Key.length c0, .int .i64 x.f_Chain.f_N, r9]) (h1 := by intro v hv; simp only [List.mem_cons, List.not_mem_nil, or_false] at hv; rcases hv with rfl | rfl | rfl; rfl; rfl; exact h9) fun w13 H => ?_
      refine dl_cons ⟨_, rfl, vs ?_⟩
      refine dl_cons ⟨_, rfl, vs ?_⟩
      refine dl_nil (vs ?_)
      have H := H.front (c := Ck.own kepts f9 [r9] (x.f_List.eraseIdx k))
      have H := H.front (c := Ck.own kChain f0 [.slice A0 x.f_Chain.f_Key.length c0, .int .i64 x.f_Chain.f_N] x.f_Chain)
      obtain ⟨fp, H⟩ := ownCatch (⟨x.f_Chain, x.f_List.eraseIdx k⟩ : MCatch) H
      exact ⟨_, _, rfl, res_cell H st50, _, _, _, _, rfl, H.two .here .here⟩
    · have hat := ckAt_none (fun j hj => by simpa using hkn j hj)
      refine ve (show ¬ ((0 : Int) ≤ -1) by decide) ?_
      refine x_ld H sc3 ?_
      refine vs ?_
      refine x_ld H sc3 ?_
      by_cases q1 : n < x.f_Chain.f_N
      · refine ve q1 ?_
        rw [ck_not hok hat (.inl q1)]
        refine x_lda H st50 ?_
        refine vs ?_
        refine x_sta H st50 (vs := [.slice A0 x.f_Chain.f_Key.length c0, .int .i64 x.f_Chain.f_N, .slice A1 x.f_List.length c1]) (h1 := by simp [Value.oneCell']) fun w8 H => vs ?_
        have H := H.front (c := Ck.own kepts f1 [.slice A1 x.f_List.length c1] x.f_List)
        have H := H.front (c := Ck.own kChain f0 [.slice A0 x.f_Chain.f_Key.length c0, .int .i64 x.f_Chain.f_N] x.f_Chain)
        obtain ⟨fp, H⟩ := ownCatch x H
        have H := H.nothing (d := bytes 5) (sl_zero w8)
        exact ⟨_, _, rfl, res_cell H st50, _, _, _, _, rfl, H.two (.there .here) .here⟩
      refine ve q1 ?_
      refine x_ld H sc3 ?_
      by_cases q2 : 1000 ≤ n
      · refine ve q2 ?_
        rw [ck_not hok hat (.inr (.inl q2))]
        refine x_lda H st50 ?_
        refine vs ?_
        refine x_sta H st50 (vs := [.slice A0 x.f_Chain.f_Key.length c0, .int .i64 x.f_Chain.f_N, .slice A1 x.f_List.length c1]) (h1 := by simp [Value.oneCell']) fun w8 H => vs ?_
        have H := H.front (c := Ck.own kepts f1 [.slice A1 x.f_List.length c1] x.f_List)
        have H := H.front (c := Ck.own kChain f0 [.slice A0 x.f_Chain.f_Key.length c0, .int .i64 x.f_Chain.f_N] x.f_Chain)
        obtain ⟨fp, H⟩ := ownCatch x H
        have H := H.nothing (d := bytes 5) (sl_zero w8)
        exact ⟨_, _, rfl, res_cell H st50, _, _, _, _, rfl, H.two (.there .here) .here⟩
      refine ve q2 ?_
      refine x_ld H sc48 ?_
      refine vs ?_
      refine x_ld H sc3 ?_
      refine ve (show w64 ((x.f_List.length : Int) + n) = x.f_List.length + n from w64_id (by omega) (by omega)) ?_
      refine x_ld H sc3 ?_
      refine ve (show w64 ((x.f_List.length : Int) + n - x.f_Chain.f_N) = x.f_List.length + n - x.f_Chain.f_N from w64_id (by omega) (by omega)) ?_
      by_cases q3 : 5 < (x.f_List.length : Int) + n - x.f_Chain.f_N
      · refine ve q3 ?_
        rw [ck_not hok hat (.inr (.inr q3))]
        refine x_lda H st50 ?_
        refine vs ?_
        refine x_sta H st50 (vs := [.slice A0 x.f_Chain.f_Key.length c0, .int .i64 x.f_Chain.f_N, .slice A1 x.f_List.length c1]) (h1 := by simp [Value.oneCell']) fun w8 H => vs ?_
        have H := H.front (c := Ck.own kepts f1 [.slice A1 x.f_List.length c1] x.f_List)
        have H := H.front (c := Ck.own kChain f0 [.slice A0 x.f_Chain.f_Key.length c0, .int .i64 x.f_Chain.f_N] x.f_Chain)
        obtain ⟨fp, H⟩ := ownCatch x H
        have H := H.nothing (d := bytes 5) (sl_zero w8)
        exact ⟨_, _, rfl, res_cell H st50, _, _, _, _, rfl, H.two (.there .here) .here⟩
      refine ve q3 ?_
      have hgo := ck_go hok hat (by omega)
      have H := H.front (c := Ck.box g4 [.slice A0 x.f_Chain.f_Key.length c0, .int .i64 x.f_Chain.f_N, .slice A1 x.f_List.length c1] 50)
      have H := H.front (c := Ck.own kepts f1 [.slice A1 x.f_List.length c1] x.f_List)
      have H := H.front (c := Ck.own kChain f0 [.slice A0 x.f_Chain.f_Key.length c0, .int .i64 x.f_Chain.f_N] x.f_Chain)
      refine loop_at (σ := MCatch × Value × List Nat × Value × List Nat) (fun y => [(2, .pointer (some ⟨g1, 0, none⟩)), (3, .pointer (some ⟨g2, 0, none⟩)), (4, .pointer (some ⟨g3, 0, none⟩)), (7, .pointer (some ⟨g4, 0, none⟩))])
        (fun y w' => (chainOk y.1.f_Chain = true ∧ y.1.f_Chain.f_N ≤ n ∧ 0 ≤ y.1.f_Chain.f_N ∧ y.1.f_List.length ≤ 5 + y.1.f_Chain.f_N ∧ ck x n = ckGo (n - y.1.f_Chain.f_N).toNat y.1) ∧ Sep w.heap.size w w' [Ck.own kChain y.2.2.1 [y.2.1, .int .i64 y.1.f_Chain.f_N] y.1.f_Chain, Ck.own kepts y.2.2.2.2 [y.2.2.2.1] y.1.f_List, Ck.box g4 [y.2.1, .int .i64 y.1.f_Chain.f_N, y.2.2.2.1] 50, Ck.box g3 [.slice none 0 0, .int .i64 0, .slice none 0 0] 50, Ck.box g2 [.int .i64 n] 3, Ck.box g1 [v0, .int .i64 x.f_Chain.f_N, .slice A x.f_List.length c] 50]) (fun y => (n - y.1.f_Chain.f_N).toNat) (x, _, f0, _, f1) (vs trivial) ⟨⟨p1, by dsimp only; omega, by dsimp only; omega, by dsimp only; omega, hgo⟩, H⟩ ?_
      rintro ⟨y, a0, f0, a1, f1⟩ s w2 ⟨⟨r1, r2, r3, r4, r5⟩, H⟩
      dsimp only at r1 r2 r3 r4 r5 H
      have hgo1 := chainGo_of r1 (by omega)
      obtain ⟨o1', _, _⟩ := chainOk_iff.1 r1
      obtain ⟨s1, s2, s3⟩ := chainOk_next hgo1
      refine vs ?_
      refine x_ld H sc3 ?_
      refine vs ?_
      refine x_ldp H [a0, .int .i64 y.f_Chain.f_N] st43 ?_
      refine vs ?_
      refine x_call (implChainNext_ok w2 _ y.f_Chain (H.own (.head _)) (by unfold smChain; omega)) fun _ w3 ⟨cs3, f3, v3, g5, e, S⟩ => ?_
      subst e
      rw [hgo1]
      have H := H.join S
      simp only [List.cons_append, List.nil_append] at H
      obtain ⟨t0, rfl, ht0, _⟩ := kChain_open (H.own (.head _))
      obtain ⟨A3, c3, rfl, _⟩ := sl_open ht0
      obtain ⟨A4, c4, rfl, _⟩ := sl_open (H.own (.tail _ (.head _)))
      have ha1 := Kd.one _ (H.own (.tail _ (.tail _ (.tail _ (.head _))))) a1 (by simp)
      refine vs ?_
      refine x_al H st43 fun g6 w4 H => vs ?_
      refine x_sta H st43 (vs := [.slice A3 (chainNextC y.f_Chain).f_Key.length c3, .int .i64 (chainNextC y.f_Chain).f_N]) (h1 := by simp [Value.oneCell']) fun w5 H => vs ?_
      refine x_lda H st43 ?_
      refine vs ?_
      refine x_sta H st43 (vs := [.slice A3 (chainNextC y.f_Chain).f_Key.length c3, .int .i64 (chainNextC y.f_Chain).f_N]) (h1 := by simp [Value.oneCell']) fun w6 H => vs ?_
      refine x_ld H sc3 ?_
      by_cases q4 : y.f_Chain.f_N = n
      · refine ve q4 ?_
        have e5 : ck x n = (⟨chainNextC y.f_Chain, y.f_List⟩, chainNextK y.f_Chain, true) := by rw [r5, show (n - y.f_Chain.f_N).toNat = 0 by omega]; rfl
        rw [e5]
        refine x_lda H st50 ?_
        refine vs ?_
        refine x_sta H st50 (vs := [.slice A3 (chainNextC y.f_Chain).f_Key.length c3, .int .i64 (chainNextC y.f_Chain).f_N, a1]) (h1 := by intro v hv; simp only [List.mem_cons, List.not_mem_nil, or_false] at hv; rcases hv with rfl | rfl | rfl; rfl; rfl; exact ha1) fun w8 H => vs ?_
        have H := H.front (c := Ck.own kepts f1 [a1] y.f_List)
        have H := H.front (c := Ck.own kChain f3 [.slice A3 (chainNextC y.f_Chain).f_Key.length c3, .int .i64 (chainNextC y.f_Chain).f_N] (chainNextC y.f_Chain))
        obtain ⟨fp, H⟩ := ownCatch (⟨chainNextC y.f_Chain, y.f_List⟩ : MCatch) H
        exact ⟨_, _, rfl, res_cell H st50, _, _, _, _, rfl, H.two .here⟩
      · refine ve q4 ?_
        refine x_ld H sc48 ?_
        refine vs ?_
        refine x_build bl105 [.int .i64 y.f_Chain.f_N, .slice A4 (chainNextK y.f_Chain).length c4] ?_
        refine vs ?_
        have H := H.front (c := Ck.own (bytes 5) g5 [.slice A4 (chainNextK y.f_Chain).length c4] (chainNextK y.f_Chain))
        obtain ⟨f7, H⟩ := ownKept (⟨y.f_Chain.f_N, chainNextK y.f_Chain⟩ : MKept) H (by constructor <;> dsimp only <;> omega)
        refine x_lst1 sl48 H rfl rfl fun f8 v8 w8 H => vs ?_
        have H := H.front (c := Ck.own kepts f1 [a1] y.f_List)
        have H := H.front (c := Ck.own kepts f8 [v8] [⟨y.f_Chain.f_N, chainNextK y.f_Chain⟩])
        refine x_appO sl48 H rfl ?_ ?_ fun f9 v9 w9 H => vs ?_
        · simp only [List.length_cons, List.length_nil]; omega
        · simp only [List.length_cons, List.length_nil]; omega
        have h9 := Kd.one _ (H.own (.head _)) v9 (by simp)
        refine x_st H sc48 (h1 := h9) fun w10 H => vs ?_
        refine ⟨(⟨chainNextC y.f_Chain, y.f_List ++ [⟨y.f_Chain.f_N, chainNextK y.f_Chain⟩]⟩, .slice A3 (chainNextC y.f_Chain).f_Key.length c3, f3, v9, f9), ?_⟩
        refine ⟨⟨⟨s1, by dsimp only; omega, by dsimp only; omega, by dsimp only; simp only [List.length_append, List.length_cons, List.length_nil]; omega, ?_⟩, ?_⟩, ?_⟩
        · dsimp only
          rw [r5, show (n - y.f_Chain.f_N).toNat = (n - (chainNextC y.f_Chain).f_N).toNat + 1 by omega]; rfl
        · have H := H.front (c := Ck.own kepts f9 [v9] (y.f_List ++ [⟨y.f_Chain.f_N, chainNextK y.f_Chain⟩]))
          have H := H.front (c := Ck.own kChain f3 [.slice A3 (chainNextC y.f_Chain).f_Key.length c3, .int .i64 (chainNextC y.f_Chain).f_N] (chainNextC y.f_Chain))
          have H := H.drops (L := [_, _]) (c := Ck.box g6 _ _)
          have H := H.drops (L := [_, _]) (c := Ck.own kChain f0 _ _)
          exact H
        · dsimp only; omega

theorem ck_out {x : MCatch} {n : Int} (h : catchOk x = true) (hn : ¬ (0 ≤ n ∧ n ≤ 999)) : ck x n = (x, [], false) := by
  obtain ⟨p1, p2, p3⟩ := catchOk_p h
  obtain ⟨o1, o2, o3⟩ := chainOk_iff.1 p1
  refine ck_not h (ckAt_none fun j hj => ?_) (by omega)
  have := (p3 j hj).1
  omega
theorem smKept_take {l : List MKept} {k : Nat} (h : smKeptS l) : smKeptS (l.take k) := ⟨by rw [List.length_take]; have := h.1; omega, fun y hy => h.2 y (List.mem_of_mem_take hy)⟩
theorem smKept_drop {l : List MKept} {k : Nat} (h : smKeptS l) : smKeptS (l.drop k) := ⟨by rw [List.length_drop]; have := h.1; omega, fun y hy => h.2 y (List.mem_of_mem_drop hy)⟩

theorem Sep.four {n : Nat} {w0 w : World} {L M1 M2 M3 M4 : List Ck} (a b c d : Ck) (H : Sep n w0 w L) (h1 : Out a L M1 := by repeat (first | exact Out.here | apply Out.there)) (h2 : Out b M1 M2 := by repeat (first | exact Out.here | apply Out.there)) (h3 : Out c M2 M3 := by repeat (first | exact Out.here | apply Out.there)) (h4 : Out d M3 M4 := by repeat (first | exact Out.here | apply Out.there)) : Sep n w0 w [d, c, b, a] := by
  have H1 := ((((H.out h1).out (.there h2)).out (.there (.there h3))).out (.there (.there (.there h4))))
  exact H1.left (L := [d, c, b, a])
theorem specCatchKey_ok (w : World) (cs : List Value) (x : MCatch) (n : Int) (h : kCatch.rd w w.heap.size cs x) (hs : smCatch x) :
    ACalls Try.prog 53 #[.agg cs.toArray, .int .i64 n] w fun r w' => ∃ cs' fp v' fp', r = .tuple #[.agg cs'.toArray, v', .bool (ck x n).2.2] ∧ Sep w.heap.size w w' [Ck.own kCatch fp cs' (ck x n).1, Ck.own (bytes 5) fp' [v'] (ck x n).2.1] := by
  obtain ⟨v0, v1, rfl, h0, h1⟩ := kCatch_open h
  have h1' := h1
  have hlm := sl_len h1
  have hs0 := hs.2.1
  obtain ⟨A, c, rfl, _, _, ha⟩ := sl_open h1
  have H := Sep.start w
  refine body_of follows Try.func53 rfl rfl _ rfl (by kernel_rfl) (vs ?_)
  refine x_bx H [v0, .int .i64 x.f_Chain.f_N, .slice A x.f_List.length c] fun g1 w1 H => vs ?_
  refine x_al H st50 fun g3 w3 H => vs ?_
  refine x_lda H st50 ?_
  refine vs ?_
  refine x_call (l24Catch_ok w3 _ x (H.rd h) hs) fun _ w4 ⟨a0, f0, a1, f1, e, S⟩ => ?_
  subst e
  have H := H.join S
  simp only [List.cons_append, List.nil_append] at H
  have ht0 := H.own (.head _)
  obtain ⟨_, e0, ht1, _⟩ := kChain_open ht0
  simp only [List.cons.injEq, and_true] at e0
  obtain ⟨rfl, _⟩ := e0
  obtain ⟨A0, c0, rfl, _⟩ := sl_open ht1
  obtain ⟨A1, c1, rfl, _⟩ := sl_open (H.own (.tail _ (.head _)))
  refine vs ?_
  refine x_al H st50 fun g4 w5 H => vs ?_
  refine x_sta (vs := [.slice A0 x.f_Chain.f_Key.length c0, .int .i64 x.f_Chain.f_N, .slice A1 x.f_List.length c1]) H st50 (h1 := by simp [Value.oneCell']) fun w6 H => vs ?_
  refine x_lda H st50 ?_
  refine vs ?_
  refine x_callb H (specCatchOk_ok w6 _ _ (H.rd h)) fun w7 H => ?_
  cases hok : catchOk x with
  | false =>
    refine vs ?_
    rw [ck_bad hok]
    refine x_lda H st50 ?_
    refine vs ?_
    refine x_emp H pl_u8 sl22 fun ge we H => vs ?_
    refine x_sta H st50 (vs := [.slice A0 x.f_Chain.f_Key.length c0, .int .i64 x.f_Chain.f_N, .slice A1 x.f_List.length c1]) (h1 := by simp [Value.oneCell']) fun w8 H => vs ?_
    have H := H.front (c := Ck.own kepts f1 [.slice A1 x.f_List.length c1] x.f_List)
    have H := H.front (c := Ck.own kChain f0 [.slice A0 x.f_Chain.f_Key.length c0, .int .i64 x.f_Chain.f_N] x.f_Chain)
    obtain ⟨fp, H⟩ := ownCatch x H
    exact ⟨_, _, rfl, res_cell H st50, _, _, _, _, rfl, H.two .here .here⟩
  | true =>
    obtain ⟨p1, p2, p3⟩ := catchOk_p hok
    obtain ⟨o1, o2, o3⟩ := chainOk_iff.1 p1
    refine vs ?_
    refine x_callw (l1In_ok w7 _ _ _) ?_
    by_cases q0 : ¬ (0 ≤ n ∧ n ≤ 999)
    · refine ve q0 ?_
      rw [ck_out hok q0]
      refine x_lda H st50 ?_
      refine vs ?_
      refine x_emp H pl_u8 sl22 fun ge we H => vs ?_
      refine x_sta H st50 (vs := [.slice A0 x.f_Chain.f_Key.length c0, .int .i64 x.f_Chain.f_N, .slice A1 x.f_List.length c1]) (h1 := by simp [Value.oneCell']) fun w8 H => vs ?_
      have H := H.front (c := Ck.own kepts f1 [.slice A1 x.f_List.length c1] x.f_List)
      have H := H.front (c := Ck.own kChain f0 [.slice A0 x.f_Chain.f_Key.length c0, .int .i64 x.f_Chain.f_N] x.f_Chain)
      obtain ⟨fp, H⟩ := ownCatch x H
      exact ⟨_, _, rfl, res_cell H st50, _, _, _, _, rfl, H.two .here .here⟩
    have q0 := Classical.not_not.1 q0
    refine ve q0 ?_
    have H := H.front (c := Ck.own kChain f0 [.slice A0 x.f_Chain.f_Key.length c0, .int .i64 x.f_Chain.f_N] x.f_Chain)
    have H := H.front (c := Ck.own kepts f1 [.slice A1 x.f_List.length c1] x.f_List)
    refine loop_at (σ := Nat) (fun k => [(1, .int .i64 n), (2, .pointer (some ⟨g1, 0, none⟩)), (4, .pointer (some ⟨g3, 0, none⟩)), (7, .pointer (some ⟨g4, 0, none⟩)), (8, .int .i64 (k : Int))])
      (fun k w' => k ≤ x.f_List.length ∧ (∀ i (hi : i < x.f_List.length), i < k → ¬ x.f_List[i].f_N = n) ∧ Sep w.heap.size w w' [Ck.own kepts f1 [.slice A1 x.f_List.length c1] x.f_List, Ck.own kChain f0 [.slice A0 x.f_Chain.f_Key.length c0, .int .i64 x.f_Chain.f_N] x.f_Chain, Ck.box g4 [.slice A0 x.f_Chain.f_Key.length c0, .int .i64 x.f_Chain.f_N, .slice A1 x.f_List.length c1] 50, Ck.box g3 [.slice none 0 0, .int .i64 0, .slice none 0 0] 50, Ck.box g1 [v0, .int .i64 x.f_Chain.f_N, .slice A x.f_List.length c] 50]) (fun k => x.f_List.length - k) 0 (vs trivial) ⟨Nat.zero_le _, fun i hi h => absurd h (Nat.not_lt_zero i), H⟩ ?_
    rintro k s w2 ⟨hk, hall, H⟩
    refine vs ?_
    refine x_ld H sc48 ?_
    refine vs (ways ?_ ?_)
    · refine vh fun hlt => ?_
      have hk2 : k < x.f_List.length := by omega
      refine x_ld H sc48 ?_
      refine vs ?_
      refine x_ele H sl48 rfl k hk2 ha rfl fun ad es hb hr hc => vs ?_
      obtain ⟨u0, rfl, hy0, hy1⟩ := kKept_open hr
      refine x_lf0 sc3 hc (by decide) rfl ?_
      by_cases q1 : x.f_List[k].f_N = n
      · refine ve q1 ?_
        rw [ck_found hok hk2 (ckAt_some hk2 q1 hall)]
        refine draw_at [(0, true), (1, true), (2, true), (3, true), (5, true), (6, true), (7, true), (8, true), (9, true), (4, false), (10, false), (11, false), (12, true)] fun w8 hh hb8 => vs ?_
        have H := H.go (hb8 _)
        have J := Sep.start w8
        refine q_ldB H J sc48 ?_
        refine vs ?_
        refine q_to (wr := w) sl48 rfl h1 (Nat.le_of_lt hk2) fun v1 hv1 => vs ?_
        refine q_ldB H J sc48 ?_
        refine ve (show w64 ((k : Int) + 1) = ((k + 1 : Nat) : Int) from w64_succ (b := 1048576) (by omega) (by omega)) ?_
        refine q_from (wr := w) sl48 rfl h1 (lo := k + 1) hk2 fun v2 hv2 => vs ?_
        refine x_callf J (l24Kept_ok w8 v1 _ (H.rd hv1) (smKept_take hs.2)) fun r9 f9 w9 J => vs ?_
        refine ⟨kept_base (Sep.start w8) J, ?_⟩
        refine x_callf J (l24Kept_ok w9 v2 _ (J.rd (H.rd hv2)) (smKept_drop hs.2)) fun r10 f10 w10 J => vs ?_
        refine ⟨kept_base (Sep.start w8) J, ?_⟩
        refine x_appO sl48 J rfl ?_ ?_ fun f11 v11 w11 J => vs ?_
        · simp only [List.length_take, List.length_drop]; omega
        · simp only [List.length_take, List.length_drop]; omega
        refine ⟨kept_base (Sep.start w8) J, ?_⟩
        rw [← List.eraseIdx_eq_take_drop_succ] at J
        have H := H.join J
        simp only [List.cons_append, List.nil_append] at H
        have h11 := Kd.one _ (H.own (.head _)) v11 (by simp)
        obtain ⟨A11, c11, rfl, _⟩ := sl_open (H.own (.head _))
        refine draw_zat [(0, true), (1, true), (2, true), (3, true), (5, true), (6, true), (7, true), (8, true), (9, true), (10, true), (4, false), (11, false)] 12 [12, 13, 14] [] fun w12 hh hb12 => vs ?_
        have H := H.go (hb12 _)
        have J := Sep.start w12
        refine q_ldpB H J [.slice A0 x.f_Chain.f_Key.length c0, .int .i64 x.f_Chain.f_N] st43 ?_
        refine vs ?_
        refine q_bld bl50 [_, _, _] ?_
        refine vs ?_
        refine q_ldB H J sc48 ?_
        refine vs ?_
        refine q_ele H sl48 rfl k hk2 ha rfl fun ad2 es2 hb2 hr2 hc2 => vs ?_
        obtain ⟨u2, rfl, hz0, hz1⟩ := kKept_open hr2
        refine q_lfj sc22 hc2 (by decide) (Nat.lt_of_lt_of_le hb2 H.ns) rfl ?_
        refine vs ?_
        refine x_emp J pl_u8 sl22 fun g13 w13 J => vs ?_
        refine ⟨kept_base (Sep.start w12) J, ?_⟩
        have hsm : x.f_List[k].f_Key.length ≤ 1048576 := hs.2.2 x.f_List[k] (List.getElem_mem hk2)
        refine x_app (l := []) J pl_u8 sl22 (J.rd (H.rd hz1)) ?_ ?_ fun f14 v14 w14 J => vs ?_
        · simp only [List.length_nil]; omega
        · simp only [List.length_nil]; omega
        refine ⟨kept_base (Sep.start w12) J, ?_⟩
        rw [List.nil_append] at J
        have H := H.join J
        simp only [List.cons_append, List.nil_append] at H
        refine dl_cons ⟨_, rfl, vs ?_⟩
        refine x_sta H st50 (vs := [.slice A0 x.f_Chain.f_Key.length c0, .int .i64 x.f_Chain.f_N, .slice A11 (x.f_List.eraseIdx k).length c11]) (h1 := by simp [Value.oneCell']) fun w15 H => ?_
        refine dl_cons ⟨_, rfl, vs ?_⟩
        refine dl_cons ⟨_, rfl, vs ?_⟩
        refine dl_nil (vs ?_)
        have H := H.front (c := Ck.own kepts f11 [.slice A11 (x.f_List.eraseIdx k).length c11] (x.f_List.eraseIdx k))
        have H := H.front (c := Ck.own kChain f0 [.slice A0 x.f_Chain.f_Key.length c0, .int .i64 x.f_Chain.f_N] x.f_Chain)
        obtain ⟨fp, H⟩ := ownCatch (⟨x.f_Chain, x.f_List.eraseIdx k⟩ : MCatch) H
        exact ⟨_, _, rfl, res_cell H st50, _, _, _, _, rfl, H.two .here .here⟩
      · refine ve q1 ?_
        refine ⟨k + 1, i64_eq (by unfold w64; omega), ⟨hk2, fun i hi h => ?_, H⟩, by omega⟩
        by_cases h2 : i = k
        · subst h2; exact q1
        · exact hall i hi (by omega)
    · refine vh fun hlt => ?_
      have hat := ckAt_none (fun j hj => hall j hj (by omega))
      refine x_ld H sc3 ?_
      by_cases q1 : n < x.f_Chain.f_N
      · refine ve q1 ?_
        rw [ck_not hok hat (.inl q1)]
        refine x_lda H st50 ?_
        refine vs ?_
        refine x_emp H pl_u8 sl22 fun ge we H => vs ?_
        refine x_sta H st50 (vs := [.slice A0 x.f_Chain.f_Key.length c0, .int .i64 x.f_Chain.f_N, .slice A1 x.f_List.length c1]) (h1 := by simp [Value.oneCell']) fun w8 H => vs ?_
        have H := H.front (c := Ck.own kepts f1 [.slice A1 x.f_List.length c1] x.f_List)
        have H := H.front (c := Ck.own kChain f0 [.slice A0 x.f_Chain.f_Key.length c0, .int .i64 x.f_Chain.f_N] x.f_Chain)
        obtain ⟨fp, H⟩ := ownCatch x H
        exact ⟨_, _, rfl, res_cell H st50, _, _, _, _, rfl, H.two .here .here⟩
      refine ve q1 ?_
      refine x_ld H sc48 ?_
      refine ve (show w64 ((x.f_List.length : Int) + n) = x.f_List.length + n from w64_id (by omega) (by omega)) ?_
      refine x_ld H sc3 ?_
      refine ve (show w64 ((x.f_List.length : Int) + n - x.f_Chain.f_N) = x.f_List.length + n - x.f_Chain.f_N from w64_id (by omega) (by omega)) ?_
      by_cases q3 : 5 < (x.f_List.length : Int) + n - x.f_Chain.f_N
      · refine ve q3 ?_
        rw [ck_not hok hat (.inr (.inr q3))]
        refine x_lda H st50 ?_
        refine vs ?_
        refine x_emp H pl_u8 sl22 fun ge we H => vs ?_
        refine x_sta H st50 (vs := [.slice A0 x.f_Chain.f_Key.length c0, .int .i64 x.f_Chain.f_N, .slice A1 x.f_List.length c1]) (h1 := by simp [Value.oneCell']) fun w8 H => vs ?_
        have H := H.front (c := Ck.own kepts f1 [.slice A1 x.f_List.length c1] x.f_List)
        have H := H.front (c := Ck.own kChain f0 [.slice A0 x.f_Chain.f_Key.length c0, .int .i64 x.f_Chain.f_N] x.f_Chain)
        obtain ⟨fp, H⟩ := ownCatch x H
        exact ⟨_, _, rfl, res_cell H st50, _, _, _, _, rfl, H.two .here .here⟩
      refine ve q3 ?_
      have hgo := ck_go hok hat (by omega)
      refine x_lda H st50 ?_
      refine vs ?_
      refine x_call (l24Catch_ok w2 _ x (H.rd h) hs) fun _ w4 ⟨a0, f0, a1, f1, e, S⟩ => ?_
      subst e
      have H := H.join S
      simp only [List.cons_append, List.nil_append] at H
      have ht0 := H.own (.head _)
      obtain ⟨_, e0, ht1, _⟩ := kChain_open ht0
      simp only [List.cons.injEq, and_true] at e0
      obtain ⟨rfl, _⟩ := e0
      obtain ⟨B0, b0, rfl, _⟩ := sl_open ht1
      obtain ⟨B1, b1, rfl, _⟩ := sl_open (H.own (.tail _ (.head _)))
      refine vs ?_
      refine x_al H st50 fun g5 w5 H => vs ?_
      refine x_sta (vs := [.slice B0 x.f_Chain.f_Key.length b0, .int .i64 x.f_Chain.f_N, .slice B1 x.f_List.length b1]) H st50 (h1 := by simp [Value.oneCell']) fun w6 H => vs ?_
      have H := H.four (Ck.box g3 [.slice none 0 0, .int .i64 0, .slice none 0 0] 50) (Ck.box g5 [.slice B0 x.f_Chain.f_Key.length b0, .int .i64 x.f_Chain.f_N, .slice B1 x.f_List.length b1] 50) (Ck.own kepts f1 [.slice B1 x.f_List.length b1] x.f_List) (Ck.own kChain f0 [.slice B0 x.f_Chain.f_Key.length b0, .int .i64 x.f_Chain.f_N] x.f_Chain)
      refine loop_at (σ := MCatch × Value × List Nat × Value × List Nat) (fun y => [(1, .int .i64 n), (4, .pointer (some ⟨g3, 0, none⟩)), (10, .pointer (some ⟨g5, 0, none⟩))])
        (fun y w' => (chainOk y.1.f_Chain = true ∧ y.1.f_Chain.f_N ≤ n ∧ 0 ≤ y.1.f_Chain.f_N ∧ y.1.f_List.length ≤ 5 + y.1.f_Chain.f_N ∧ ck x n = ckGo (n - y.1.f_Chain.f_N).toNat y.1) ∧ Sep w.heap.size w w' [Ck.own kChain y.2.2.1 [y.2.1, .int .i64 y.1.f_Chain.f_N] y.1.f_Chain, Ck.own kepts y.2.2.2.2 [y.2.2.2.1] y.1.f_List, Ck.box g5 [y.2.1, .int .i64 y.1.f_Chain.f_N, y.2.2.2.1] 50, Ck.box g3 [.slice none 0 0, .int .i64 0, .slice none 0 0] 50]) (fun y => (n - y.1.f_Chain.f_N).toNat) (x, _, f0, _, f1) (vs trivial) ⟨⟨p1, by dsimp only; omega, by dsimp only; omega, by dsimp only; omega, hgo⟩, H⟩ ?_
      rintro ⟨y, a0, f0, a1, f1⟩ s w2 ⟨⟨r1, r2, r3, r4, r5⟩, H⟩
      dsimp only at r1 r2 r3 r4 r5 H
      have hgo1 := chainGo_of r1 (by omega)
      obtain ⟨o1', _, _⟩ := chainOk_iff.1 r1
      obtain ⟨s1, s2, s3⟩ := chainOk_next hgo1
      refine vs ?_
      refine x_ldp H [a0, .int .i64 y.f_Chain.f_N] st43 ?_
      refine vs ?_
      refine x_call (specChainNext_ok w2 _ y.f_Chain (H.own (.head _)) (by unfold smChain; omega)) fun _ w3 ⟨cs3, f3, v3, g5, e, S⟩ => ?_
      subst e
      rw [hgo1]
      have H := H.join S
      simp only [List.cons_append, List.nil_append] at H
      obtain ⟨t0, rfl, ht0, _⟩ := kChain_open (H.own (.head _))
      obtain ⟨A3, c3, rfl, _⟩ := sl_open ht0
      obtain ⟨A4, c4, rfl, _⟩ := sl_open (H.own (.tail _ (.head _)))
      have ha1 := Kd.one _ (H.own (.tail _ (.tail _ (.tail _ (.head _))))) a1 (by simp)
      refine vs ?_
      refine x_al H st43 fun g6 w4 H => vs ?_
      refine x_sta H st43 (vs := [.slice A3 (chainNextC y.f_Chain).f_Key.length c3, .int .i64 (chainNextC y.f_Chain).f_N]) (h1 := by simp [Value.oneCell']) fun w5 H => vs ?_
      refine x_ld H sc3 ?_
      refine vs ?_
      refine x_lda H st43 ?_
      refine vs ?_
      refine x_sta H st43 (vs := [.slice A3 (chainNextC y.f_Chain).f_Key.length c3, .int .i64 (chainNextC y.f_Chain).f_N]) (h1 := by simp [Value.oneCell']) fun w6 H => vs ?_
      by_cases q4 : y.f_Chain.f_N = n
      · refine ve q4 ?_
        have e5 : ck x n = (⟨chainNextC y.f_Chain, y.f_List⟩, chainNextK y.f_Chain, true) := by rw [r5, show (n - y.f_Chain.f_N).toNat = 0 by omega]; rfl
        rw [e5]
        refine x_lda H st50 ?_
        refine vs ?_
        refine x_sta H st50 (vs := [.slice A3 (chainNextC y.f_Chain).f_Key.length c3, .int .i64 (chainNextC y.f_Chain).f_N, a1]) (h1 := by intro v hv; simp only [List.mem_cons, List.not_mem_nil, or_false] at hv; rcases hv with rfl | rfl | rfl; rfl; rfl; exact ha1) fun w8 H => vs ?_
        have H := H.front (c := Ck.own kepts f1 [a1] y.f_List)
        have H := H.front (c := Ck.own kChain f3 [.slice A3 (chainNextC y.f_Chain).f_Key.length c3, .int .i64 (chainNextC y.f_Chain).f_N] (chainNextC y.f_Chain))
        obtain ⟨fp, H⟩ := ownCatch (⟨chainNextC y.f_Chain, y.f_List⟩ : MCatch) H
        exact ⟨_, _, rfl, res_cell H st50, _, _, _, _, rfl, H.two .here⟩
      · refine ve q4 ?_
        refine x_ld H sc48 ?_
        refine vs ?_
        refine x_build bl105 [.int .i64 y.f_Chain.f_N, .slice A4 (chainNextK y.f_Chain).length c4] ?_
        refine vs ?_
        have H := H.front (c := Ck.own (bytes 5) g5 [.slice A4 (chainNextK y.f_Chain).length c4] (chainNextK y.f_Chain))
        obtain ⟨f7, H⟩ := ownKept (⟨y.f_Chain.f_N, chainNextK y.f_Chain⟩ : MKept) H (by constructor <;> dsimp only <;> omega)
        refine x_lst1 sl48 H rfl rfl fun f8 v8 w8 H => vs ?_
        have H := H.front (c := Ck.own kepts f1 [a1] y.f_List)
        have H := H.front (c := Ck.own kepts f8 [v8] [⟨y.f_Chain.f_N, chainNextK y.f_Chain⟩])
        refine x_appO sl48 H rfl ?_ ?_ fun f9 v9 w9 H => vs ?_
        · simp only [List.length_cons, List.length_nil]; omega
        · simp only [List.length_cons, List.length_nil]; omega
        have h9 := Kd.one _ (H.own (.head _)) v9 (by simp)
        refine x_st H sc48 (h1 := h9) fun w10 H => vs ?_
        refine ⟨(⟨chainNextC y.f_Chain, y.f_List ++ [⟨y.f_Chain.f_N, chainNextK y.f_Chain⟩]⟩, .slice A3 (chainNextC y.f_Chain).f_Key.length c3, f3, v9, f9), ?_⟩
        refine ⟨⟨⟨s1, by dsimp only; omega, by dsimp only; omega, by dsimp only; simp only [List.length_append, List.length_cons, List.length_nil]; omega, ?_⟩, ?_⟩, ?_⟩
        · dsimp only
          rw [r5, show (n - y.f_Chain.f_N).toNat = (n - (chainNextC y.f_Chain).f_N).toNat + 1 by omega]; rfl
        · have H := H.front (c := Ck.own kepts f9 [v9] (y.f_List ++ [⟨y.f_Chain.f_N, chainNextK y.f_Chain⟩]))
          have H := H.front (c := Ck.own kChain f3 [.slice A3 (chainNextC y.f_Chain).f_Key.length c3, .int .i64 (chainNextC y.f_Chain).f_N] (chainNextC y.f_Chain))
          have H := H.drops (L := [_, _]) (c := Ck.box g6 _ _)
          have H := H.drops (L := [_, _]) (c := Ck.own kChain f0 _ _)
          exact H
        · dsimp only; omega

/-! ### how much is answered -/
theorem ckGo_sm : ∀ (k : Nat) (x : MCatch), x.f_List.length + k ≤ 1048576 → smChain x.f_Chain → (∀ y ∈ x.f_List, smKept y) → smCatch (ckGo k x).1 ∧ (ckGo k x).2.1.length ≤ 1048576
  | 0, x, h0, h1, h2 => ⟨⟨chainNextC_len h1 (by omega), by show x.f_List.length ≤ _; omega, h2⟩, by have := chainNextK_len x.f_Chain; show (chainNextK x.f_Chain).length ≤ _; omega⟩
  | k + 1, x, h0, h1, h2 => ckGo_sm k _ (by simp only [List.length_append, List.length_cons, List.length_nil]; omega) (chainNextC_len h1 (by omega)) (fun y hy => by
      simp only [List.mem_append, List.mem_singleton] at hy
      rcases hy with hy | rfl
      · exact h2 y hy
      · have := chainNextK_len x.f_Chain; show (chainNextK x.f_Chain).length ≤ _; omega)
theorem ck_sm {x : MCatch} {n : Int} (h : smCatch x) : smCatch (ck x n).1 ∧ (ck x n).2.1.length ≤ 1048576 := by
  cases hok : catchOk x with
  | false => rw [ck_bad hok]; exact ⟨h, by simp⟩
  | true =>
    obtain ⟨p1, p2, p3⟩ := catchOk_p hok
    obtain ⟨o1, o2, o3⟩ := chainOk_iff.1 p1
    cases ha : ckAt x.f_List n with
    | some i =>
      have hi : i < x.f_List.length := by
        unfold ckAt at ha
        rw [List.findIdx?_eq_some_iff_getElem] at ha
        exact ha.1
      rw [ck_found hok hi ha]
      refine ⟨⟨h.1, by show (x.f_List.eraseIdx i).length ≤ _; have := h.2.1; rw [List.length_eraseIdx, if_pos hi]; omega, fun y hy => h.2.2 y (List.mem_of_mem_eraseIdx hy)⟩, h.2.2 _ (List.getElem_mem hi)⟩
    | none =>
      by_cases q : n < x.f_Chain.f_N ∨ 1000 ≤ n ∨ 5 < x.f_List.length + n - x.f_Chain.f_N
      · rw [ck_not hok ha q]; exact ⟨h, by simp⟩
      · rw [ck_go hok ha q]
        exact ckGo_sm _ _ (by omega) h.1 h.2.2
end Go.Proofs.Ytagljofpmjaciaa.V
