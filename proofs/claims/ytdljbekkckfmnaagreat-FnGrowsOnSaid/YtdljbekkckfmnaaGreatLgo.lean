/- The law FnGrowsOn, walked. Laid by a program. -/
import Derived.Test.YtdljbekkckfmnaaGreatWqz
import Derived.Test.YtdljbekkckfmnaaGreatWsn
import Derived.Test.YtdljbekkckfmnaaGreatZn
import Derived.Test.YtdljbekkckfmnaaGreatPm
import Derived.Test.YtdljbekkckfmnaaGreatPg
import Derived.Test.YtdljbekkckfmnaaGreatWdn2
namespace Go.Proofs.YtdljbekkckfmnaaGreat.V
open Go Go.RowKit
set_option maxRecDepth 100000
set_option maxHeartbeats 8000000
set_option linter.unusedSimpArgs false
set_option linter.unusedVariables false
set_option pp.deepTerms false
set_option pp.deepTerms.threshold 3

theorem tm3 (n : Nat) : ((n : Int)).tmod 3 = ((n % 3 : Nat) : Int) := rfl
theorem tm40 (n : Nat) : ((n : Int)).tmod 40 = ((n % 40 : Nat) : Int) := rfl
theorem tm4 (n : Nat) : ((n : Int)).tmod 4 = ((n % 4 : Nat) : Int) := rfl
theorem tm5 (n : Nat) : ((n : Int)).tmod 5 = ((n % 5 : Nat) : Int) := rfl
theorem due_lo {t : Int} {n : Nat} (h : 0 ≤ t ∧ t ≤ 100000) (hn : n ≤ 40) : w64 (t + (n : Int)) = t + (n : Int) := by unfold w64; omega
theorem at_lo {k j : Nat} (h : k < 12) (hj : j ≤ 3) : w64 ((k : Int) + (j : Int)) = ((k + j : Nat) : Int) := by unfold w64; omega
theorem up_1 {k : Nat} (h : k < 12) : w64 ((k : Int) + 1) = ((k + 1 : Nat) : Int) := by unfold w64; omega
theorem up_2 {k : Nat} (h : k < 12) : w64 ((k : Int) + 2) = ((k + 2 : Nat) : Int) := by unfold w64; omega
theorem up_3 {k : Nat} (h : k < 12) : w64 ((k : Int) + 3) = ((k + 3 : Nat) : Int) := by unfold w64; omega
theorem rg_1 {k : Nat} (h : k < 12) : 0 ≤ w64 ((k : Int) + 1) ∧ w64 ((k : Int) + 1) ≤ 1000 := by rw [up_1 h]; omega
theorem rg_2 {k : Nat} (h : k < 12) : 0 ≤ w64 ((k : Int) + 2) ∧ w64 ((k : Int) + 2) ≤ 1000 := by rw [up_2 h]; omega
theorem rg_3 {k : Nat} (h : k < 12) : 0 ≤ w64 ((k : Int) + 3) ∧ w64 ((k : Int) + 3) ≤ 1000 := by rw [up_3 h]; omega
theorem rg_0 {k : Nat} (h : k < 12) : 0 ≤ (k : Int) ∧ (k : Int) ≤ 1000 := by omega
theorem mod4 (n : Nat) : n % 4 = 0 ∨ n % 4 = 1 ∨ n % 4 = 2 ∨ n % 4 = 3 := by omega
theorem md_t {n b : Nat} {j : Int} (h : n % 4 = b) (hj : (b : Int) = j) : (((n % 4 : Nat) : Int) = j) = True := eq_true (by rw [h]; exact hj)
theorem md_f {n b : Nat} {j : Int} (h : n % 4 = b) (hj : ¬ (b : Int) = j) : (((n % 4 : Nat) : Int) = j) = False := eq_false (by rw [h]; exact hj)
theorem top_lo (n : Nat) : -9223372036854775808 ≤ ((n % 3 : Nat) : Int) ∧ ((n % 3 : Nat) : Int) < 9223372036854775808 := by omega
theorem due_rg {t : Int} (h : 0 ≤ t ∧ t ≤ 100000) (n : Nat) : -9223372036854775808 ≤ t + ((n % 40 : Nat) : Int) ∧ t + ((n % 40 : Nat) : Int) < 9223372036854775808 := by omega
theorem tick_rg {t : Int} (h : 0 ≤ t ∧ t ≤ 100000) (n : Nat) : -9223372036854775808 ≤ t + ((n % 5 : Nat) : Int) ∧ t + ((n % 5 : Nat) : Int) < 9223372036854775808 := by omega
theorem lo_40 (n : Nat) : n % 40 ≤ 40 := by omega
theorem lo_5 (n : Nat) : n % 5 ≤ 40 := by omega
theorem less_12 {k : Nat} (h : k < 12) : 12 - (k + 1) < 12 - k := by omega
theorem ln_1 {a b k : Nat} (h : b ≤ a + 1) (h2 : a ≤ k) : b ≤ k + 1 := by omega
theorem ln_40 {a k : Nat} (h : a ≤ k) (h2 : k < 12) : a < 40 := by omega
theorem u8_at {n : Nat} (h : n < 256) : (n : Int) % 256 = ((UInt8.ofNat n).toNat : Int) := by rw [UInt8.toNat_ofNat']; omega
theorem q_remG {P : Program} {m : Nat} {G : List (Nat × Nat)} {w0 : World} {K : Value → Prop} {tg : Tg (m, G, w0, K)} {t : TypeId} {x y : Operand} {k : IntKind} {a b : Int} (h : K (.int k (a.tmod b))) (hb : b ≠ 0) : QBin P m G w0 K tg .rem t x y (.int k a) (.int k b) := by
  unfold QBin
  exact QS_of (fun w _ => (run_div hb).2) h
def routeG : List UInt8 := [48, 48, 48, 48, 48, 48, 48, 48, 48, 48, 48, 48, 48, 48, 97, 97]
theorem routeG_len : routeG.length = 16 := rfl
theorem routeG_lo : routeG.length ≤ 9223372036854775807 := by rw [routeG_len]; omega
theorem routeG_lo2 : routeG.length ≤ 1048576 := by rw [routeG_len]; omega
theorem postNew_ok : postOk zPost = true := by
  rw [postOk_iff]
  refine ⟨⟨rfl, by decide, by decide, by decide⟩, ?_⟩
  show playGo [] [] 0 0 = _
  rw [playGo_none lineAt_nil]; rfl
theorem postOk_sm {p : MPost} (h : postOk p = true) : smPost p := by
  obtain ⟨⟨h1, h2, h3, h4⟩, h5⟩ := postOk_iff.1 h
  have q : QI p.f_Queue := ⟨(queueOk_iff.1 h1).1, queueOk_item h1⟩
  unfold smPost
  exact ⟨q.sm, by omega⟩
theorem grown_good {p p' : MPost} (hp : postOk p = true) (hp' : postOk p' = true) (h1 : 1 ≤ (linesOf p.f_Book).length) (h2 : (linesOf p.f_Book).length ≤ (linesOf p'.f_Book).length) (h3 : linesOf p.f_Book = (linesOf p'.f_Book).take (linesOf p.f_Book).length) :
    (postGrew p p').2 = true ∧ grownOk (postRoot p) (postRoot p') (linesOf p.f_Book).length (linesOf p'.f_Book).length (postGrew p p').1 = true := by
  have e := postGrew_ok (p := p) (q := p') ⟨hp, hp', ⟨h1, h2⟩, h3⟩
  have h40 := linesOf_40 p'.f_Book
  have hl32 : (rootOf (linesOf p'.f_Book)).length = 32 := rootOf_32 _ _ (Nat.le_refl _) h40 fun a ha => by have := (linesGo_len 40 p'.f_Book).2 a ha; omega
  have g := (grownOk_right (l := linesOf p'.f_Book) (m := ((linesOf p.f_Book).length : Int)) ⟨by omega, by omega, h40⟩ [] [] (fun e => by rw [e] at hl32; cases hl32)).1
  rw [Int.toNat_natCast, ← h3] at g
  rw [e]
  refine ⟨rfl, ?_⟩
  rw [postRoot_ok hp, postRoot_ok hp']
  exact g
/-! ### late operations, in all the orders that they may come in -/
inductive LT where
  | nil : LT
  | one : Nat → LT → LT
  | two : Nat → Nat → LT → LT → LT
def LT.depth : LT → Nat
  | .nil => 0
  | .one _ t => t.depth + 1
  | .two _ _ t u => max t.depth u.depth + 1
def ltOk (ops : Array Oper) (z : Nat) : LT → Array Bool → Bool
  | .nil, listed => (Region.ready .any ops listed).isEmpty
  | .one i t, listed => decide (z ≤ i) && (Region.ready .any ops listed == [i]) && ltOk ops z t (listed.setIfInBounds i true)
  | .two i j t u, listed => decide (z ≤ i) && decide (z ≤ j) && (Region.ready .any ops listed == [i, j]) && ltOk ops z t (listed.setIfInBounds i true) && ltOk ops z u (listed.setIfInBounds j true)
def ltD (P : Program) (ops : Array Oper) (K : Sl → World → Prop) : LT → Sl → World → Prop
  | .nil, s, w => K s w
  | .one i t, s, w => aopI P ops i s w fun s' w' => ltD P ops K t s' w'
  | .two i j t u, s, w => (aopI P ops i s w fun s' w' => ltD P ops K t s' w') ∧ (aopI P ops j s w fun s' w' => ltD P ops K u s' w')
theorem lt_sound {P : Program} {ops : Array Oper} {S : World → Prop} {K : Sl → World → Prop} {z : Nat} :
    ∀ (l : LT) (k : Nat) (listed : Array Bool) (s : Sl) (w : World), ltOk ops z l listed = true → l.depth ≤ k → ltD P ops K l s w → adrZ P ops K S z k listed s w
  | .nil, k, listed, s, w, hp, _, h => adrZ_done (by simpa [ltOk] using hp) h
  | .one i r, k, listed, s, w, hp, hk, h => by
    simp only [ltOk, Bool.and_eq_true, beq_iff_eq, decide_eq_true_eq] at hp
    simp only [LT.depth] at hk
    obtain ⟨k, rfl⟩ : ∃ m, k = m + 1 := ⟨k - 1, by omega⟩
    refine adrZ_all [i] hp.1.2 (by simp) fun j hj => ?_
    simp only [List.mem_singleton] at hj
    subst hj
    have h' : aopI P ops j s w fun s' w' => ltD P ops K r s' w' := h
    exact aopI_mono h' fun s' w' hv => ⟨fun hlt => absurd hlt (by omega), lt_sound r k _ _ _ hp.2 (by omega) hv⟩
  | .two a b t u, k, listed, s, w, hp, hk, h => by
    simp only [ltOk, Bool.and_eq_true, beq_iff_eq, decide_eq_true_eq] at hp
    simp only [LT.depth] at hk
    obtain ⟨k, rfl⟩ : ∃ m, k = m + 1 := ⟨k - 1, by omega⟩
    refine adrZ_all [a, b] hp.1.1.2 (by simp) fun j hj => ?_
    simp only [List.mem_cons, List.not_mem_nil, or_false] at hj
    rcases hj with rfl | rfl
    · have h' : aopI P ops j s w fun s' w' => ltD P ops K t s' w' := h.1
      exact aopI_mono h' fun s' w' hv => ⟨fun hlt => absurd hlt (by have := hp.1.1.1.1; omega), lt_sound t k _ _ _ hp.1.2 (by omega) hv⟩
    · have h' : aopI P ops j s w fun s' w' => ltD P ops K u s' w' := h.2
      exact aopI_mono h' fun s' w' hv => ⟨fun hlt => absurd hlt (by have := hp.1.1.1.2; omega), lt_sound u k _ _ _ hp.2 (by omega) hv⟩
def LtD (P : Program) (ops : Array Oper) (K : Sl → World → Prop) (l : LT) (_ : Tg (ops, K, l)) (s : Sl) (w : World) : Prop := ltD P ops K l s w
section
variable {P : Program} {l : List Oper} {K : Sl → World → Prop} {s : Sl} {w : World}
theorem lt_nil {tg : Tg (l.toArray, K, LT.nil)} (h : K s w) : LtD P l.toArray K .nil tg s w := h
theorem lt_step {i : Nat} {r : LT} (h : ∃ o, l[i]? = some o ∧ If (Aop P o (fun v w' => LtD P l.toArray K r .mk (putS s o.dst v) w') .mk s w) (LtD P l.toArray K r .mk (putS s o.dst undef) w) .mk (Region.wanted o (yl l.toArray s) = true)) : aopI P l.toArray i s w fun s' w' => ltD P l.toArray K r s' w' := by
  obtain ⟨o, ho, h⟩ := h
  simp only [aopI, List.getElem?_toArray, ho]
  unfold If at h
  by_cases hw : Region.wanted o (yl l.toArray s) = true
  · rw [if_pos hw]; exact h.1 hw
  · rw [if_neg hw]; exact h.2 hw
theorem lt_one {i : Nat} {r : LT} {tg : Tg (l.toArray, K, LT.one i r)} (h : ∃ o, l[i]? = some o ∧ If (Aop P o (fun v w' => LtD P l.toArray K r .mk (putS s o.dst v) w') .mk s w) (LtD P l.toArray K r .mk (putS s o.dst undef) w) .mk (Region.wanted o (yl l.toArray s) = true)) : LtD P l.toArray K (.one i r) tg s w := lt_step h
theorem lt_two {i j : Nat} {r u : LT} {tg : Tg (l.toArray, K, LT.two i j r u)} (h : ∃ o, l[i]? = some o ∧ If (Aop P o (fun v w' => LtD P l.toArray K r .mk (putS s o.dst v) w') .mk s w) (LtD P l.toArray K r .mk (putS s o.dst undef) w) .mk (Region.wanted o (yl l.toArray s) = true))
    (h2 : ∃ o, l[j]? = some o ∧ If (Aop P o (fun v w' => LtD P l.toArray K u .mk (putS s o.dst v) w') .mk s w) (LtD P l.toArray K u .mk (putS s o.dst undef) w) .mk (Region.wanted o (yl l.toArray s) = true)) : LtD P l.toArray K (.two i j r u) tg s w := ⟨lt_step h, lt_step h2⟩
theorem draw_ztree {tg : Tg (l.toArray, K)} (pl : List (Nat × Bool)) (z : Nat) (late : LT) (G : List (Nat × Nat)) (h : ∀ w1, w1.heap = w.heap → (∀ m, Below m w w1) → Dpl P l.toArray w1.heap.size G w1 (fun s w => LtD P l.toArray K late .mk s w) pl .mk s w1)
    (hs : Region.noSelect l.toArray = true := by kernel_rfl) (hp : planPre l.toArray pl (Array.replicate l.toArray.size false) = true := by kernel_rfl) (hz : planZ l.toArray z pl = true := by kernel_rfl)
    (hq : ltOk l.toArray z late (planTo pl (Array.replicate l.toArray.size false)) = true := by kernel_rfl) (hl : pl.length + late.depth = l.toArray.size := by decide) : Adraw P l.toArray K tg s w := by
  have h1 := h w.drew rfl fun m => (Below.refl m w).drew
  have key : adrZ P l.toArray K (Kept w.drew.heap.size G w.drew) z l.toArray.size (Array.replicate l.toArray.size false) s w.drew := by
    rw [← hl]
    refine preZ_sound hs pl late.depth _ s w.drew (closed_none _ _) (by rw [hl]; exact hp) hz (Kept.refl ..) ?_
    have : ∀ (s : Sl) (w' : World), LtD P l.toArray K late .mk s w' → Kept w.drew.heap.size G w.drew w' → adrZ P l.toArray K (Kept w.drew.heap.size G w.drew) z late.depth (planTo pl (Array.replicate (pl.length + late.depth) false)) s w' := fun s w' hd _ => lt_sound late _ _ s w' (by rw [hl]; exact hq) (Nat.le_refl _) hd
    exact dpl_mono this pl s w.drew h1
  exact fun m a ha hok => wpAny_of_Z _ _ _ _ (key m a ha hok)
end
theorem bigG_ok (w : World) (v : Value) (a : List UInt8) (h : (bytes 5).rd w w.heap.size [v] a) :
    ACalls Tryz.prog 9 #[v] w fun r w' => r = .bool (decide (1048576 < (a.length : Int))) ∧ w' = w := by
  obtain ⟨A, c, rfl, _, _, _⟩ := sl_open h
  refine body_of follows Tryz.func9 rfl rfl _ rfl (by kernel_rfl) (vs ?_)
  first | trivial | rfl | exact ⟨rfl, rfl⟩
theorem few_grew (p q : MPost) : Few' (postGrew p q).1 := fun y hy => by have := (postGrew_sm p q).2 y hy; omega
theorem postNew_new (w : World) : ACalls Tryz.prog 10 #[] w fun r w' => r = .agg #[.slice none 0 0, .int .i64 0, .slice none 0 0, .int .i64 0] ∧ Below w.heap.size w w' := by
  have H := Sep.start w
  refine body_of follows Tryz.func10 rfl rfl _ rfl (by kernel_rfl) (vs ?_)
  refine x_al H st26 fun g1 w1 H => vs ?_
  refine x_build bl26 [.slice none 0 0, .int .i64 0, .slice none 0 0, .int .i64 0] ?_
  refine vs ?_
  refine x_sta H st26 (vs := [.slice none 0 0, .int .i64 0, .slice none 0 0, .int .i64 0]) (h1 := by simp [Value.oneCell']) fun w2 H => vs ?_
  exact ⟨_, _, rfl, res_cell H st26, rfl, H.bel⟩
theorem kItem_ofG {w : World} {n : Nat} {v : Value} {r b : List UInt8} {t d : Int} (h1 : r.length ≤ 9223372036854775807) (ht : -9223372036854775808 ≤ t ∧ t < 9223372036854775808) (hd : -9223372036854775808 ≤ d ∧ d < 9223372036854775808) (h : (bytes 5).rd w n [v] b) : kItem.rd w n [.string ⟨r.toArray⟩, .int .i64 t, .int .i64 d, v] ⟨r, t, d, b⟩ :=
  ⟨[_], _, rfl, ⟨rfl, h1⟩, [_], _, rfl, ⟨rfl, ht⟩, [_], _, rfl, ⟨rfl, hd⟩, h⟩
theorem one_item {a : ByteArray} {x y : Int} {A : Option Addr} {m c : Nat} : ∀ v ∈ [Value.string a, .int .i64 x, .int .i64 y, .slice A m c], v.oneCell' = true := by
  intro v hv
  simp only [List.mem_cons, List.not_mem_nil, or_false] at hv
  rcases hv with rfl | rfl | rfl | rfl <;> rfl
theorem book_rd {w : World} {n : Nat} {a b c d : Value} {p : MPost} (h : kPost.rd w n [a, c, b, d] p) : (bytes 5).rd w n [b] p.f_Book := by
  obtain ⟨v0, v2, e, _, _, h2, _⟩ := kPost_open h
  simp only [List.cons.injEq, and_true] at e
  obtain ⟨rfl, rfl, rfl, rfl⟩ := e
  exact h2
theorem root_lo (p : MPost) : (postRoot p).length ≤ 1073741824 := by
  cases h : postOk p with
  | false => rw [postRoot_bad h]; decide
  | true =>
    rw [postRoot_ok h]
    have := rootOf_len (linesOf p.f_Book); omega
theorem FnGrowsOn_ok (w : World) (v0 : Value) (x0 : List UInt8) (h0 : (bytes 5).rd w w.heap.size [v0] x0) :
    ACalls Tryz.prog 3 #[v0] w fun r w' => r = .bool true ∧ Below w.heap.size w w' := by
  refine body_of follows Tryz.func3 rfl rfl _ rfl (by kernel_rfl) (vs ?_)
  refine x_callw (bigG_ok w v0 x0 h0) ?_
  by_cases q0 : 1048576 < (x0.length : Int)
  · refine ve q0 ?_
    exact Below.refl ..
  refine ve q0 ?_
  have hx0 : x0.length ≤ 1048576 := by omega
  refine x_call (postNew_new w) fun _ w1 ⟨e, hb⟩ => ?_
  subst e
  have H := (Sep.start w).go hb
  have H := H.nothing (kPost_zero w1)
  refine vs ?_
  refine x_al H st26 fun g3 w2 H => vs ?_
  refine x_sta H st26 (vs := [.slice none 0 0, .int .i64 0, .slice none 0 0, .int .i64 0]) (h1 := Kd.one _ (H.own (d := kPost) (fp := []) (cs := [.slice none 0 0, .int .i64 0, .slice none 0 0, .int .i64 0]) (x := zPost) (by simp))) fun w3 H => vs ?_
  refine x_lda H st26 ?_
  refine vs ?_
  refine x_callf H (implPostRoot_ok w3 _ zPost (H.own (d := kPost) (fp := []) (cs := [.slice none 0 0, .int .i64 0, .slice none 0 0, .int .i64 0]) (x := zPost) (by simp)) (postOk_sm postNew_ok)) fun r4 f4 w4 H => vs ?_
  refine x_lda H st26 ?_
  refine vs ?_
  refine x_callf H (specPostRoot_ok w4 _ zPost (H.own (d := kPost) (fp := []) (cs := [.slice none 0 0, .int .i64 0, .slice none 0 0, .int .i64 0]) (x := zPost) (by simp)) (postOk_sm postNew_ok)) fun r5 f5 w5 H => vs ?_
  refine x_callw (implSame_ok w5 _ _ (postRoot zPost) (postRoot zPost) (H.own (d := bytes 5) (fp := f4) (cs := [r4]) (by simp)) (H.own (d := bytes 5) (fp := f5) (cs := [r5]) (by simp))) ?_
  refine ve (eq_true (rfl : postRoot zPost = postRoot zPost)) ?_
  have H := H.front (c := Ck.own kPost [] [.slice none 0 0, .int .i64 0, .slice none 0 0, .int .i64 0] zPost)
  have H := H.front (c := Ck.box g3 [.slice none 0 0, .int .i64 0, .slice none 0 0, .int .i64 0] 26)
  have H := Sep.left (L := [_, _]) H
  refine loop_at (σ := Nat × MPost × List Value × List Nat) (fun y => [(0, v0), (3, .pointer (some ⟨g3, 0, none⟩)), (5, .int .i64 (y.1 : Int))])
    (fun y w' => (y.1 ≤ 12 ∧ postOk y.2.1 = true ∧ (linesOf y.2.1.f_Book).length ≤ y.1) ∧ Sep w.heap.size w w' [Ck.box g3 y.2.2.1 26, Ck.own kPost y.2.2.2 y.2.2.1 y.2.1]) (fun y => 12 - y.1) (0, zPost, [.slice none 0 0, .int .i64 0, .slice none 0 0, .int .i64 0], []) (vs trivial) ⟨⟨Nat.zero_le _, postNew_ok, by show (linesGo 40 []).length ≤ 0; rw [linesGo_none' lineAt_nil]; exact Nat.le_refl _⟩, H⟩ ?_
  rintro ⟨k, p, cs, fp⟩ s w6 ⟨⟨hk, hok, hln⟩, H⟩
  dsimp only at hk hok hln H
  have hsm := postOk_sm hok
  obtain ⟨v1, v2, rfl, r1, r2, r3, r4'⟩ := kPost_open (H.own (d := kPost) (fp := fp) (cs := cs) (x := p) (by simp))
  have hT := (postOk_iff.1 hok).1.2.1
  obtain ⟨A2, c2, rfl, _⟩ := sl_open r3
  refine vs (ways ?_ ?_)
  rotate_left
  · refine vh fun hlt => ?_
    refine x_lda H st26 ?_
    refine vs ?_
    refine x_callb H (implPostOk_ok w6 _ p (H.own (d := kPost) (fp := fp) (cs := [v1, .int .i64 p.f_Time, .slice A2 p.f_Book.length c2, .int .i64 p.f_Sure]) (x := p) (by simp)) hsm) fun w7 H => ?_
    rw [hok]
    refine vs ?_
    first | exact ⟨rfl, H.bel⟩ | exact H.bel
  refine vh fun hlt => ?_
  have hk2 : k < 12 := by omega
  refine x_lda H st26 ?_
  refine vs ?_
  refine x_al H st26 fun g6 w7 H => vs ?_
  refine x_sta H st26 (vs := [v1, .int .i64 p.f_Time, .slice A2 p.f_Book.length c2, .int .i64 p.f_Sure]) (h1 := Kd.one _ (H.own (d := kPost) (fp := fp) (cs := [v1, .int .i64 p.f_Time, .slice A2 p.f_Book.length c2, .int .i64 p.f_Sure]) (x := p) (by simp))) fun w8 H => vs ?_
  refine cut_to (σ := Nat × Nat × Nat × Nat × Nat) (fun y => [(0, v0), (3, .pointer (some ⟨g3, 0, none⟩)), (5, .int .i64 (k : Int)), (6, .pointer (some ⟨g6, 0, none⟩)), (7, .pointer (some ⟨y.2.2.2.1, 0, none⟩))])
    (fun y w' => (y.2.1 < 256 ∧ y.2.2.1 < 256) ∧ Sep w.heap.size w w' [Ck.box y.2.2.2.1 [.string ⟨routeG.toArray⟩, .int .i64 ((y.1 % 3 : Nat) : Int), .int .i64 (p.f_Time + ((y.2.1 % 40 : Nat) : Int)), .slice (some ⟨y.2.2.2.2, 0, none⟩) 1 1] 32, Ck.own (bytes 5) [y.2.2.2.2] [.slice (some ⟨y.2.2.2.2, 0, none⟩) 1 1] [UInt8.ofNat y.2.2.1], Ck.box g6 [v1, .int .i64 p.f_Time, .slice A2 p.f_Book.length c2, .int .i64 p.f_Sure] 26, Ck.box g3 [v1, .int .i64 p.f_Time, .slice A2 p.f_Book.length c2, .int .i64 p.f_Sure] 26, Ck.own kPost fp [v1, .int .i64 p.f_Time, .slice A2 p.f_Book.length c2, .int .i64 p.f_Sure] p]) ?_ ?_
  · have J := Sep.start w8
    refine fork_draw w8.heap.size [] fun w9 hh hb9 => ?_
    have J := J.go (hb9 _)
    have J3 := J
    refine rest_pre [(0, true), (1, true), (4, true), (5, true), (6, true), (7, true), (8, true), (12, true), (13, true), (14, true)] 11 ?_
    refine vs ?_
    refine q_ldB H J3 sc3 ?_
    refine vs ?_
    refine rest_fork 2 19 10 ?_ ?_
    · refine vs ?_
      refine x_call (at_ok _ v0 x0 (k : Int) (J.rd (H.rd h0)) (rg_0 hk2) hx0) fun _ _ ⟨n0, e, hn0, ew⟩ => ?_
      subst e
      subst ew
      refine vs ?_
      refine ⟨kept_base J3 J, ?_⟩
      refine rest_pre [(3, true)] 9 ?_
      refine vs ?_
      refine q_remG ?_ (by decide)
      refine ve (tm3 n0) ?_
      refine rest_fork 9 19 8 ?_ ?_
      · refine vs ?_
        refine x_call (at_ok _ v0 x0 (w64 ((k : Int) + 1)) (J.rd (H.rd h0)) (rg_1 hk2) hx0) fun _ _ ⟨n1, e, hn1, ew⟩ => ?_
        subst e
        subst ew
        refine vs ?_
        refine ⟨kept_base J3 J, ?_⟩
        refine rest_pre [(10, true)] 7 ?_
        refine vs ?_
        refine q_remG ?_ (by decide)
        refine ve (And.intro (tm40 n1) (due_lo (n := n1 % 40) hT (lo_40 n1))) ?_
        refine rest_pre [(11, true)] 6 ?_
        refine vs ?_
        refine rest_fork 15 19 5 ?_ ?_
        · refine vs ?_
          refine x_call (at_ok _ v0 x0 (w64 ((k : Int) + 2)) (J.rd (H.rd h0)) (rg_2 hk2) hx0) fun _ _ ⟨n2, e, hn2, ew⟩ => ?_
          subst e
          subst ew
          refine vs ?_
          refine ⟨kept_base J3 J, ?_⟩
          refine rest_pre [(16, true)] 4 ?_
          refine vs ?_
          refine ve (u8_at hn2) ?_
          refine rest_fork 17 19 3 ?_ ?_
          · refine vs ?_
            refine x_lst J pl_u8 sl22 [UInt8.ofNat n2] (by simp) fun gl wl J => vs ?_
            refine ⟨kept_base J3 J, ?_⟩
            refine rest_end [(18, true), (19, false), (20, false)] ?_
            refine vs ?_
            first | refine ve (due_lo (n := n1 % 40) hT (lo_40 n1)) ?_ | skip
            refine q_bld bl32 [.string ⟨routeG.toArray⟩, .int .i64 ((n0 % 3 : Nat) : Int), .int .i64 (p.f_Time + ((n1 % 40 : Nat) : Int)), .slice (some ⟨gl, 0, none⟩) 1 1] ?_
            refine vs ?_
            refine x_al J st32 fun g7 wx J => vs ?_
            refine ⟨kept_base J3 J, ?_⟩
            refine x_sta J st32 (vs := [.string ⟨routeG.toArray⟩, .int .i64 ((n0 % 3 : Nat) : Int), .int .i64 (p.f_Time + ((n1 % 40 : Nat) : Int)), .slice (some ⟨gl, 0, none⟩) 1 1]) (h1 := one_item) fun wd J => vs ?_
            refine ⟨kept_base J3 J, ?_⟩
            have H := H.join J
            simp only [List.cons_append, List.nil_append] at H
            have H := H.front (c := Ck.own (bytes 5) [gl] [.slice (some ⟨gl, 0, none⟩) 1 1] [UInt8.ofNat n2])
            have H := H.front (c := Ck.box g7 [.string ⟨routeG.toArray⟩, .int .i64 ((n0 % 3 : Nat) : Int), .int .i64 (p.f_Time + ((n1 % 40 : Nat) : Int)), .slice (some ⟨gl, 0, none⟩) 1 1] 32)
            exact ⟨(n0, n1, n2, g7, gl), vs trivial, ⟨hn1, hn2⟩, H⟩
          · refine vs ?_
            refine x_al J st32 fun g7 wx J => vs ?_
            refine ⟨kept_base J3 J, ?_⟩
            refine rest_end [(17, false), (18, true), (20, false)] ?_
            refine vs ?_
            refine x_lst J pl_u8 sl22 [UInt8.ofNat n2] (by simp) fun gl wl J => vs ?_
            refine ⟨kept_base J3 J, ?_⟩
            first | refine ve (due_lo (n := n1 % 40) hT (lo_40 n1)) ?_ | skip
            refine q_bld bl32 [.string ⟨routeG.toArray⟩, .int .i64 ((n0 % 3 : Nat) : Int), .int .i64 (p.f_Time + ((n1 % 40 : Nat) : Int)), .slice (some ⟨gl, 0, none⟩) 1 1] ?_
            refine vs ?_
            refine x_sta J st32 (vs := [.string ⟨routeG.toArray⟩, .int .i64 ((n0 % 3 : Nat) : Int), .int .i64 (p.f_Time + ((n1 % 40 : Nat) : Int)), .slice (some ⟨gl, 0, none⟩) 1 1]) (h1 := one_item) fun wd J => vs ?_
            refine ⟨kept_base J3 J, ?_⟩
            have H := H.join J
            simp only [List.cons_append, List.nil_append] at H
            have H := H.front (c := Ck.own (bytes 5) [gl] [.slice (some ⟨gl, 0, none⟩) 1 1] [UInt8.ofNat n2])
            have H := H.front (c := Ck.box g7 [.string ⟨routeG.toArray⟩, .int .i64 ((n0 % 3 : Nat) : Int), .int .i64 (p.f_Time + ((n1 % 40 : Nat) : Int)), .slice (some ⟨gl, 0, none⟩) 1 1] 32)
            exact ⟨(n0, n1, n2, g7, gl), vs trivial, ⟨hn1, hn2⟩, H⟩
        · refine vs ?_
          refine x_al J st32 fun g7 wx J => vs ?_
          refine ⟨kept_base J3 J, ?_⟩
          refine rest_end [(15, false), (16, true), (17, false), (18, true), (20, false)] ?_
          refine vs ?_
          refine x_call (at_ok _ v0 x0 (w64 ((k : Int) + 2)) (J.rd (H.rd h0)) (rg_2 hk2) hx0) fun _ _ ⟨n2, e, hn2, ew⟩ => ?_
          subst e
          subst ew
          refine vs ?_
          refine ⟨kept_base J3 J, ?_⟩
          refine ve (u8_at hn2) ?_
          refine x_lst J pl_u8 sl22 [UInt8.ofNat n2] (by simp) fun gl wl J => vs ?_
          refine ⟨kept_base J3 J, ?_⟩
          first | refine ve (due_lo (n := n1 % 40) hT (lo_40 n1)) ?_ | skip
          refine q_bld bl32 [.string ⟨routeG.toArray⟩, .int .i64 ((n0 % 3 : Nat) : Int), .int .i64 (p.f_Time + ((n1 % 40 : Nat) : Int)), .slice (some ⟨gl, 0, none⟩) 1 1] ?_
          refine vs ?_
          refine x_sta J st32 (vs := [.string ⟨routeG.toArray⟩, .int .i64 ((n0 % 3 : Nat) : Int), .int .i64 (p.f_Time + ((n1 % 40 : Nat) : Int)), .slice (some ⟨gl, 0, none⟩) 1 1]) (h1 := one_item) fun wd J => vs ?_
          refine ⟨kept_base J3 J, ?_⟩
          have H := H.join J
          simp only [List.cons_append, List.nil_append] at H
          have H := H.front (c := Ck.own (bytes 5) [gl] [.slice (some ⟨gl, 0, none⟩) 1 1] [UInt8.ofNat n2])
          have H := H.front (c := Ck.box g7 [.string ⟨routeG.toArray⟩, .int .i64 ((n0 % 3 : Nat) : Int), .int .i64 (p.f_Time + ((n1 % 40 : Nat) : Int)), .slice (some ⟨gl, 0, none⟩) 1 1] 32)
          exact ⟨(n0, n1, n2, g7, gl), vs trivial, ⟨hn1, hn2⟩, H⟩
      · refine vs ?_
        refine x_al J st32 fun g7 wx J => vs ?_
        refine ⟨kept_base J3 J, ?_⟩
        refine rest_end [(9, false), (10, true), (11, true), (15, false), (16, true), (17, false), (18, true), (20, false)] ?_
        refine vs ?_
        refine x_call (at_ok _ v0 x0 (w64 ((k : Int) + 1)) (J.rd (H.rd h0)) (rg_1 hk2) hx0) fun _ _ ⟨n1, e, hn1, ew⟩ => ?_
        subst e
        subst ew
        refine vs ?_
        refine ⟨kept_base J3 J, ?_⟩
        refine q_remG ?_ (by decide)
        refine ve (And.intro (tm40 n1) (due_lo (n := n1 % 40) hT (lo_40 n1))) ?_
        refine x_call (at_ok _ v0 x0 (w64 ((k : Int) + 2)) (J.rd (H.rd h0)) (rg_2 hk2) hx0) fun _ _ ⟨n2, e, hn2, ew⟩ => ?_
        subst e
        subst ew
        refine vs ?_
        refine ⟨kept_base J3 J, ?_⟩
        refine ve (u8_at hn2) ?_
        refine x_lst J pl_u8 sl22 [UInt8.ofNat n2] (by simp) fun gl wl J => vs ?_
        refine ⟨kept_base J3 J, ?_⟩
        first | refine ve (due_lo (n := n1 % 40) hT (lo_40 n1)) ?_ | skip
        refine q_bld bl32 [.string ⟨routeG.toArray⟩, .int .i64 ((n0 % 3 : Nat) : Int), .int .i64 (p.f_Time + ((n1 % 40 : Nat) : Int)), .slice (some ⟨gl, 0, none⟩) 1 1] ?_
        refine vs ?_
        refine x_sta J st32 (vs := [.string ⟨routeG.toArray⟩, .int .i64 ((n0 % 3 : Nat) : Int), .int .i64 (p.f_Time + ((n1 % 40 : Nat) : Int)), .slice (some ⟨gl, 0, none⟩) 1 1]) (h1 := one_item) fun wd J => vs ?_
        refine ⟨kept_base J3 J, ?_⟩
        have H := H.join J
        simp only [List.cons_append, List.nil_append] at H
        have H := H.front (c := Ck.own (bytes 5) [gl] [.slice (some ⟨gl, 0, none⟩) 1 1] [UInt8.ofNat n2])
        have H := H.front (c := Ck.box g7 [.string ⟨routeG.toArray⟩, .int .i64 ((n0 % 3 : Nat) : Int), .int .i64 (p.f_Time + ((n1 % 40 : Nat) : Int)), .slice (some ⟨gl, 0, none⟩) 1 1] 32)
        exact ⟨(n0, n1, n2, g7, gl), vs trivial, ⟨hn1, hn2⟩, H⟩
    · refine vs ?_
      refine x_al J st32 fun g7 wx J => vs ?_
      refine ⟨kept_base J3 J, ?_⟩
      refine rest_end [(2, false), (3, true), (9, false), (10, true), (11, true), (15, false), (16, true), (17, false), (18, true), (20, false)] ?_
      refine vs ?_
      refine x_call (at_ok _ v0 x0 (k : Int) (J.rd (H.rd h0)) (rg_0 hk2) hx0) fun _ _ ⟨n0, e, hn0, ew⟩ => ?_
      subst e
      subst ew
      refine vs ?_
      refine ⟨kept_base J3 J, ?_⟩
      refine q_remG ?_ (by decide)
      refine ve (tm3 n0) ?_
      refine x_call (at_ok _ v0 x0 (w64 ((k : Int) + 1)) (J.rd (H.rd h0)) (rg_1 hk2) hx0) fun _ _ ⟨n1, e, hn1, ew⟩ => ?_
      subst e
      subst ew
      refine vs ?_
      refine ⟨kept_base J3 J, ?_⟩
      refine q_remG ?_ (by decide)
      refine ve (And.intro (tm40 n1) (due_lo (n := n1 % 40) hT (lo_40 n1))) ?_
      refine x_call (at_ok _ v0 x0 (w64 ((k : Int) + 2)) (J.rd (H.rd h0)) (rg_2 hk2) hx0) fun _ _ ⟨n2, e, hn2, ew⟩ => ?_
      subst e
      subst ew
      refine vs ?_
      refine ⟨kept_base J3 J, ?_⟩
      refine ve (u8_at hn2) ?_
      refine x_lst J pl_u8 sl22 [UInt8.ofNat n2] (by simp) fun gl wl J => vs ?_
      refine ⟨kept_base J3 J, ?_⟩
      first | refine ve (due_lo (n := n1 % 40) hT (lo_40 n1)) ?_ | skip
      refine q_bld bl32 [.string ⟨routeG.toArray⟩, .int .i64 ((n0 % 3 : Nat) : Int), .int .i64 (p.f_Time + ((n1 % 40 : Nat) : Int)), .slice (some ⟨gl, 0, none⟩) 1 1] ?_
      refine vs ?_
      refine x_sta J st32 (vs := [.string ⟨routeG.toArray⟩, .int .i64 ((n0 % 3 : Nat) : Int), .int .i64 (p.f_Time + ((n1 % 40 : Nat) : Int)), .slice (some ⟨gl, 0, none⟩) 1 1]) (h1 := one_item) fun wd J => vs ?_
      refine ⟨kept_base J3 J, ?_⟩
      have H := H.join J
      simp only [List.cons_append, List.nil_append] at H
      have H := H.front (c := Ck.own (bytes 5) [gl] [.slice (some ⟨gl, 0, none⟩) 1 1] [UInt8.ofNat n2])
      have H := H.front (c := Ck.box g7 [.string ⟨routeG.toArray⟩, .int .i64 ((n0 % 3 : Nat) : Int), .int .i64 (p.f_Time + ((n1 % 40 : Nat) : Int)), .slice (some ⟨gl, 0, none⟩) 1 1] 32)
      exact ⟨(n0, n1, n2, g7, gl), vs trivial, ⟨hn1, hn2⟩, H⟩
  rintro ⟨n0, n1, n2, g7, gl⟩ s w10 ⟨⟨hn1, hn2⟩, H⟩
  dsimp only at hn1 hn2 H
  refine vs ?_
  refine x_call (at_ok _ v0 x0 (k : Int) (H.rd h0) (rg_0 hk2) hx0) fun _ w10 ⟨n4, e, hn4, ew⟩ => ?_
  subst e
  subst ew
  refine vs ?_
  refine x_rem (b := 4) ?_
  have hxr : kItem.rd w10 w10.heap.size [.string ⟨routeG.toArray⟩, .int .i64 ((n0 % 3 : Nat) : Int), .int .i64 (p.f_Time + ((n1 % 40 : Nat) : Int)), .slice (some ⟨gl, 0, none⟩) 1 1] ⟨routeG, ((n0 % 3 : Nat) : Int), p.f_Time + ((n1 % 40 : Nat) : Int), [UInt8.ofNat n2]⟩ := kItem_ofG routeG_lo (top_lo n0) (due_rg hT n1) (H.own (d := bytes 5) (fp := [gl]) (cs := [.slice (some ⟨gl, 0, none⟩) 1 1]) (x := [UInt8.ofNat n2]) (by simp))
  have hxs : smItem ⟨routeG, ((n0 % 3 : Nat) : Int), p.f_Time + ((n1 % 40 : Nat) : Int), [UInt8.ofNat n2]⟩ := ⟨routeG_lo2, by show [UInt8.ofNat n2].length ≤ 1048576; simp⟩
  have hpr := H.own (d := kPost) (fp := fp) (cs := [v1, .int .i64 p.f_Time, .slice A2 p.f_Book.length c2, .int .i64 p.f_Sure]) (x := p) (by simp)
  have h4 := mod4 n4
  rcases h4 with h4 | h4 | h4 | h4
  · refine ve (And.intro (tm4 n4) (md_t (j := 0) h4 (by decide))) ?_
    refine x_lda H st26 ?_
    refine vs ?_
    refine x_lda H st32 ?_
    refine vs ?_
    refine x_call (implDrop_ok w10 _ p _ _ hpr hxr hsm hxs) fun _ w11 ⟨cs2, fp2, e, S⟩ => ?_
    subst e
    have H := H.join S
    simp only [List.cons_append, List.nil_append] at H
    have gr := drop_grew (⟨routeG, ((n0 % 3 : Nat) : Int), p.f_Time + ((n1 % 40 : Nat) : Int), [UInt8.ofNat n2]⟩ : MItem) hok
    obtain ⟨p2, hp2⟩ : ∃ p2, p2 = (dropP p ⟨routeG, ((n0 % 3 : Nat) : Int), p.f_Time + ((n1 % 40 : Nat) : Int), [UInt8.ofNat n2]⟩).1 := ⟨_, rfl⟩
    rw [← hp2] at H gr
    obtain ⟨z1, z2, rfl, _, _, t3, _⟩ := kPost_open (H.own (d := kPost) (fp := fp2) (cs := cs2) (x := p2) (by simp))
    obtain ⟨B2, d2, rfl, _⟩ := sl_open t3
    refine vs ?_
    refine x_sta H st26 (vs := [z1, .int .i64 p2.f_Time, .slice B2 p2.f_Book.length d2, .int .i64 p2.f_Sure]) (h1 := Kd.one _ (H.own (d := kPost) (fp := fp2) (cs := [z1, .int .i64 p2.f_Time, .slice B2 p2.f_Book.length d2, .int .i64 p2.f_Sure]) (x := p2) (by simp))) fun w12 H => vs ?_
    have hln2 := gr.lines hok (ln_40 hln hk2)
    have hok2 := gr.1
    have hsm2 := postOk_sm hok2
    refine x_ld H sc22 ?_
    by_cases hB : (p.f_Book.length : Int) = 0
    · refine ve hB ?_
      have H := H.front (c := Ck.own kPost fp2 [z1, .int .i64 p2.f_Time, .slice B2 p2.f_Book.length d2, .int .i64 p2.f_Sure] p2)
      have H := H.front (c := Ck.box g3 [z1, .int .i64 p2.f_Time, .slice B2 p2.f_Book.length d2, .int .i64 p2.f_Sure] 26)
      exact ⟨(k + 1, p2, _, fp2), i64_eq (up_1 hk2), ⟨⟨hk2, hok2, ln_1 hln2.2.2 hln⟩, Sep.left (L := [_, _]) H⟩, less_12 hk2⟩
    have hlp := linesOf_pos (postOk_whole hok) (b := p.f_Book) (fun e => hB (by rw [e]; rfl))
    have gg := grown_good hok hok2 hlp hln2.2.1 hln2.1
    refine ve hB ?_
    refine x_lda H st26 ?_
    refine vs ?_
    refine x_lda H st26 ?_
    refine vs ?_
    refine x_call (implPostGrew_ok w12 _ p _ p2 (H.own (d := kPost) (fp := fp) (cs := [v1, .int .i64 p.f_Time, .slice A2 p.f_Book.length c2, .int .i64 p.f_Sure]) (x := p) (by simp)) (H.own (d := kPost) (fp := fp2) (cs := [z1, .int .i64 p2.f_Time, .slice B2 p2.f_Book.length d2, .int .i64 p2.f_Sure]) (x := p2) (by simp)) hsm hsm2) fun _ w13 ⟨vg, fg, e, S⟩ => ?_
    subst e
    rw [gg.1]
    have H := H.join S
    simp only [List.cons_append, List.nil_append] at H
    have H0 := H
    refine vs ?_
    have J := Sep.start w13
    refine draw_of [(0, true), (1, true), (2, true), (3, true), (5, true), (7, true), (8, true), (11, true), (12, true), (15, true), (4, false), (6, false), (9, false), (10, true), (13, false), (14, true), (16, false), (17, true), (18, true)] w13.heap.size [] fun w14 hh hb14 => vs ?_
    have J := J.go (hb14 _)
    have J3 := J
    refine q_ldaB H J3 st26 ?_
    refine vs ?_
    refine q_ldaB H J3 st26 ?_
    refine vs ?_
    refine q_ldB H J3 sc22 ?_
    refine vs ?_
    refine q_ldB H J3 sc22 ?_
    refine vs ?_
    refine x_callf J (implPostRoot_ok w14 _ p (J.rd (H.own (d := kPost) (fp := fp) (cs := [v1, .int .i64 p.f_Time, .slice A2 p.f_Book.length c2, .int .i64 p.f_Sure]) (x := p) (by simp))) hsm) fun ra fa wa J => vs ?_
    refine ⟨kept_base J3 J, ?_⟩
    refine x_callf J (implPostRoot_ok wa _ p2 (J.rd (H.own (d := kPost) (fp := fp2) (cs := [z1, .int .i64 p2.f_Time, .slice B2 p2.f_Book.length d2, .int .i64 p2.f_Sure]) (x := p2) (by simp))) hsm2) fun rb fb wb J => vs ?_
    refine ⟨kept_base J3 J, ?_⟩
    refine x_callf J (implLinesOf_ok wb _ p.f_Book (J.rd (book_rd (H.own (d := kPost) (fp := fp) (cs := [v1, .int .i64 p.f_Time, .slice A2 p.f_Book.length c2, .int .i64 p.f_Sure]) (x := p) (by simp)))) (by have := hsm.2; omega)) fun rc fc wc J => ?_
    obtain ⟨Ac, kc, rfl, _⟩ := sl_open (J.own (.head _))
    refine vs ?_
    refine ⟨kept_base J3 J, ?_⟩
    refine x_callf J (implLinesOf_ok wc _ p2.f_Book (J.rd (book_rd (H.own (d := kPost) (fp := fp2) (cs := [z1, .int .i64 p2.f_Time, .slice B2 p2.f_Book.length d2, .int .i64 p2.f_Sure]) (x := p2) (by simp)))) (by have := hsm2.2; omega)) fun rd fd wd J => ?_
    obtain ⟨Ad, kd, rfl, _⟩ := sl_open (J.own (.head _))
    refine vs ?_
    refine ⟨kept_base J3 J, ?_⟩
    refine x_callb J (implGrownOk_ok wd _ (postRoot p) _ (postRoot p2) _ _ _ (postGrew p p2).1 (J.own (d := bytes 5) (fp := fa) (cs := [ra]) (by simp)) (J.own (d := bytes 5) (fp := fb) (cs := [rb]) (by simp)) (J.rd (H.own (d := LL) (fp := fg) (cs := [vg]) (by simp))) (root_lo p) (few_grew p p2)) fun we J => ?_
    rw [gg.2]
    refine vs ?_
    refine ⟨kept_base J3 J, ?_⟩
    have H := H.join J
    have H := H.front (c := Ck.own kPost fp2 [z1, .int .i64 p2.f_Time, .slice B2 p2.f_Book.length d2, .int .i64 p2.f_Sure] p2)
    have H := H.front (c := Ck.box g3 [z1, .int .i64 p2.f_Time, .slice B2 p2.f_Book.length d2, .int .i64 p2.f_Sure] 26)
    exact ⟨(k + 1, p2, _, fp2), i64_eq (up_1 hk2), ⟨⟨hk2, hok2, ln_1 hln2.2.2 hln⟩, Sep.left (L := [_, _]) H⟩, less_12 hk2⟩
  · refine ve (And.intro (tm4 n4) (And.intro (md_f (j := 0) h4 (by decide)) (md_t (j := 1) h4 (by decide)))) ?_
    refine x_lda H st26 ?_
    refine vs ?_
    refine x_lda H st32 ?_
    refine vs ?_
    refine x_call (implDrop_ok w10 _ p _ _ hpr hxr hsm hxs) fun _ w11 ⟨cs2, fp2, e, S⟩ => ?_
    subst e
    have H := H.join S
    simp only [List.cons_append, List.nil_append] at H
    have gr := drop_grew (⟨routeG, ((n0 % 3 : Nat) : Int), p.f_Time + ((n1 % 40 : Nat) : Int), [UInt8.ofNat n2]⟩ : MItem) hok
    obtain ⟨p2, hp2⟩ : ∃ p2, p2 = (dropP p ⟨routeG, ((n0 % 3 : Nat) : Int), p.f_Time + ((n1 % 40 : Nat) : Int), [UInt8.ofNat n2]⟩).1 := ⟨_, rfl⟩
    rw [← hp2] at H gr
    obtain ⟨z1, z2, rfl, _, _, t3, _⟩ := kPost_open (H.own (d := kPost) (fp := fp2) (cs := cs2) (x := p2) (by simp))
    obtain ⟨B2, d2, rfl, _⟩ := sl_open t3
    refine vs ?_
    refine x_sta H st26 (vs := [z1, .int .i64 p2.f_Time, .slice B2 p2.f_Book.length d2, .int .i64 p2.f_Sure]) (h1 := Kd.one _ (H.own (d := kPost) (fp := fp2) (cs := [z1, .int .i64 p2.f_Time, .slice B2 p2.f_Book.length d2, .int .i64 p2.f_Sure]) (x := p2) (by simp))) fun w12 H => vs ?_
    have hln2 := gr.lines hok (ln_40 hln hk2)
    have hok2 := gr.1
    have hsm2 := postOk_sm hok2
    refine x_ld H sc22 ?_
    by_cases hB : (p.f_Book.length : Int) = 0
    · refine ve hB ?_
      have H := H.front (c := Ck.own kPost fp2 [z1, .int .i64 p2.f_Time, .slice B2 p2.f_Book.length d2, .int .i64 p2.f_Sure] p2)
      have H := H.front (c := Ck.box g3 [z1, .int .i64 p2.f_Time, .slice B2 p2.f_Book.length d2, .int .i64 p2.f_Sure] 26)
      exact ⟨(k + 1, p2, _, fp2), i64_eq (up_1 hk2), ⟨⟨hk2, hok2, ln_1 hln2.2.2 hln⟩, Sep.left (L := [_, _]) H⟩, less_12 hk2⟩
    have hlp := linesOf_pos (postOk_whole hok) (b := p.f_Book) (fun e => hB (by rw [e]; rfl))
    have gg := grown_good hok hok2 hlp hln2.2.1 hln2.1
    refine ve hB ?_
    refine x_lda H st26 ?_
    refine vs ?_
    refine x_lda H st26 ?_
    refine vs ?_
    refine x_call (implPostGrew_ok w12 _ p _ p2 (H.own (d := kPost) (fp := fp) (cs := [v1, .int .i64 p.f_Time, .slice A2 p.f_Book.length c2, .int .i64 p.f_Sure]) (x := p) (by simp)) (H.own (d := kPost) (fp := fp2) (cs := [z1, .int .i64 p2.f_Time, .slice B2 p2.f_Book.length d2, .int .i64 p2.f_Sure]) (x := p2) (by simp)) hsm hsm2) fun _ w13 ⟨vg, fg, e, S⟩ => ?_
    subst e
    rw [gg.1]
    have H := H.join S
    simp only [List.cons_append, List.nil_append] at H
    have H0 := H
    refine vs ?_
    have J := Sep.start w13
    refine draw_of [(0, true), (1, true), (2, true), (3, true), (5, true), (7, true), (8, true), (11, true), (12, true), (15, true), (4, false), (6, false), (9, false), (10, true), (13, false), (14, true), (16, false), (17, true), (18, true)] w13.heap.size [] fun w14 hh hb14 => vs ?_
    have J := J.go (hb14 _)
    have J3 := J
    refine q_ldaB H J3 st26 ?_
    refine vs ?_
    refine q_ldaB H J3 st26 ?_
    refine vs ?_
    refine q_ldB H J3 sc22 ?_
    refine vs ?_
    refine q_ldB H J3 sc22 ?_
    refine vs ?_
    refine x_callf J (implPostRoot_ok w14 _ p (J.rd (H.own (d := kPost) (fp := fp) (cs := [v1, .int .i64 p.f_Time, .slice A2 p.f_Book.length c2, .int .i64 p.f_Sure]) (x := p) (by simp))) hsm) fun ra fa wa J => vs ?_
    refine ⟨kept_base J3 J, ?_⟩
    refine x_callf J (implPostRoot_ok wa _ p2 (J.rd (H.own (d := kPost) (fp := fp2) (cs := [z1, .int .i64 p2.f_Time, .slice B2 p2.f_Book.length d2, .int .i64 p2.f_Sure]) (x := p2) (by simp))) hsm2) fun rb fb wb J => vs ?_
    refine ⟨kept_base J3 J, ?_⟩
    refine x_callf J (implLinesOf_ok wb _ p.f_Book (J.rd (book_rd (H.own (d := kPost) (fp := fp) (cs := [v1, .int .i64 p.f_Time, .slice A2 p.f_Book.length c2, .int .i64 p.f_Sure]) (x := p) (by simp)))) (by have := hsm.2; omega)) fun rc fc wc J => ?_
    obtain ⟨Ac, kc, rfl, _⟩ := sl_open (J.own (.head _))
    refine vs ?_
    refine ⟨kept_base J3 J, ?_⟩
    refine x_callf J (implLinesOf_ok wc _ p2.f_Book (J.rd (book_rd (H.own (d := kPost) (fp := fp2) (cs := [z1, .int .i64 p2.f_Time, .slice B2 p2.f_Book.length d2, .int .i64 p2.f_Sure]) (x := p2) (by simp)))) (by have := hsm2.2; omega)) fun rd fd wd J => ?_
    obtain ⟨Ad, kd, rfl, _⟩ := sl_open (J.own (.head _))
    refine vs ?_
    refine ⟨kept_base J3 J, ?_⟩
    refine x_callb J (implGrownOk_ok wd _ (postRoot p) _ (postRoot p2) _ _ _ (postGrew p p2).1 (J.own (d := bytes 5) (fp := fa) (cs := [ra]) (by simp)) (J.own (d := bytes 5) (fp := fb) (cs := [rb]) (by simp)) (J.rd (H.own (d := LL) (fp := fg) (cs := [vg]) (by simp))) (root_lo p) (few_grew p p2)) fun we J => ?_
    rw [gg.2]
    refine vs ?_
    refine ⟨kept_base J3 J, ?_⟩
    have H := H.join J
    have H := H.front (c := Ck.own kPost fp2 [z1, .int .i64 p2.f_Time, .slice B2 p2.f_Book.length d2, .int .i64 p2.f_Sure] p2)
    have H := H.front (c := Ck.box g3 [z1, .int .i64 p2.f_Time, .slice B2 p2.f_Book.length d2, .int .i64 p2.f_Sure] 26)
    exact ⟨(k + 1, p2, _, fp2), i64_eq (up_1 hk2), ⟨⟨hk2, hok2, ln_1 hln2.2.2 hln⟩, Sep.left (L := [_, _]) H⟩, less_12 hk2⟩
  · refine ve (And.intro (tm4 n4) (And.intro (md_f (j := 0) h4 (by decide)) (And.intro (md_f (j := 1) h4 (by decide)) (md_t (j := 2) h4 (by decide))))) ?_
    refine x_lda H st26 ?_
    refine vs ?_
    refine x_ld H sc9 ?_
    refine vs ?_
    refine x_call (implFetch_ok w10 _ p routeG hpr hsm routeG_lo2) fun _ w11 ⟨cs2, fp2, es2, fe2, e, S⟩ => ?_
    subst e
    have H := H.join S
    simp only [List.cons_append, List.nil_append] at H
    have gr := fetch_grew routeG hok
    obtain ⟨p2, hp2⟩ : ∃ p2, p2 = (fetchP p routeG).1 := ⟨_, rfl⟩
    rw [← hp2] at H gr
    obtain ⟨z1, z2, rfl, _, _, t3, _⟩ := kPost_open (H.own (d := kPost) (fp := fp2) (cs := cs2) (x := p2) (by simp))
    obtain ⟨B2, d2, rfl, _⟩ := sl_open t3
    refine vs ?_
    refine x_sta H st26 (vs := [z1, .int .i64 p2.f_Time, .slice B2 p2.f_Book.length d2, .int .i64 p2.f_Sure]) (h1 := Kd.one _ (H.own (d := kPost) (fp := fp2) (cs := [z1, .int .i64 p2.f_Time, .slice B2 p2.f_Book.length d2, .int .i64 p2.f_Sure]) (x := p2) (by simp))) fun w12 H => vs ?_
    have hln2 := gr.lines hok (ln_40 hln hk2)
    have hok2 := gr.1
    have hsm2 := postOk_sm hok2
    refine x_ld H sc22 ?_
    by_cases hB : (p.f_Book.length : Int) = 0
    · refine ve hB ?_
      have H := H.front (c := Ck.own kPost fp2 [z1, .int .i64 p2.f_Time, .slice B2 p2.f_Book.length d2, .int .i64 p2.f_Sure] p2)
      have H := H.front (c := Ck.box g3 [z1, .int .i64 p2.f_Time, .slice B2 p2.f_Book.length d2, .int .i64 p2.f_Sure] 26)
      exact ⟨(k + 1, p2, _, fp2), i64_eq (up_1 hk2), ⟨⟨hk2, hok2, ln_1 hln2.2.2 hln⟩, Sep.left (L := [_, _]) H⟩, less_12 hk2⟩
    have hlp := linesOf_pos (postOk_whole hok) (b := p.f_Book) (fun e => hB (by rw [e]; rfl))
    have gg := grown_good hok hok2 hlp hln2.2.1 hln2.1
    refine ve hB ?_
    refine x_lda H st26 ?_
    refine vs ?_
    refine x_lda H st26 ?_
    refine vs ?_
    refine x_call (implPostGrew_ok w12 _ p _ p2 (H.own (d := kPost) (fp := fp) (cs := [v1, .int .i64 p.f_Time, .slice A2 p.f_Book.length c2, .int .i64 p.f_Sure]) (x := p) (by simp)) (H.own (d := kPost) (fp := fp2) (cs := [z1, .int .i64 p2.f_Time, .slice B2 p2.f_Book.length d2, .int .i64 p2.f_Sure]) (x := p2) (by simp)) hsm hsm2) fun _ w13 ⟨vg, fg, e, S⟩ => ?_
    subst e
    rw [gg.1]
    have H := H.join S
    simp only [List.cons_append, List.nil_append] at H
    have H0 := H
    refine vs ?_
    have J := Sep.start w13
    refine draw_of [(0, true), (1, true), (2, true), (3, true), (5, true), (7, true), (8, true), (11, true), (12, true), (15, true), (4, false), (6, false), (9, false), (10, true), (13, false), (14, true), (16, false), (17, true), (18, true)] w13.heap.size [] fun w14 hh hb14 => vs ?_
    have J := J.go (hb14 _)
    have J3 := J
    refine q_ldaB H J3 st26 ?_
    refine vs ?_
    refine q_ldaB H J3 st26 ?_
    refine vs ?_
    refine q_ldB H J3 sc22 ?_
    refine vs ?_
    refine q_ldB H J3 sc22 ?_
    refine vs ?_
    refine x_callf J (implPostRoot_ok w14 _ p (J.rd (H.own (d := kPost) (fp := fp) (cs := [v1, .int .i64 p.f_Time, .slice A2 p.f_Book.length c2, .int .i64 p.f_Sure]) (x := p) (by simp))) hsm) fun ra fa wa J => vs ?_
    refine ⟨kept_base J3 J, ?_⟩
    refine x_callf J (implPostRoot_ok wa _ p2 (J.rd (H.own (d := kPost) (fp := fp2) (cs := [z1, .int .i64 p2.f_Time, .slice B2 p2.f_Book.length d2, .int .i64 p2.f_Sure]) (x := p2) (by simp))) hsm2) fun rb fb wb J => vs ?_
    refine ⟨kept_base J3 J, ?_⟩
    refine x_callf J (implLinesOf_ok wb _ p.f_Book (J.rd (book_rd (H.own (d := kPost) (fp := fp) (cs := [v1, .int .i64 p.f_Time, .slice A2 p.f_Book.length c2, .int .i64 p.f_Sure]) (x := p) (by simp)))) (by have := hsm.2; omega)) fun rc fc wc J => ?_
    obtain ⟨Ac, kc, rfl, _⟩ := sl_open (J.own (.head _))
    refine vs ?_
    refine ⟨kept_base J3 J, ?_⟩
    refine x_callf J (implLinesOf_ok wc _ p2.f_Book (J.rd (book_rd (H.own (d := kPost) (fp := fp2) (cs := [z1, .int .i64 p2.f_Time, .slice B2 p2.f_Book.length d2, .int .i64 p2.f_Sure]) (x := p2) (by simp)))) (by have := hsm2.2; omega)) fun rd fd wd J => ?_
    obtain ⟨Ad, kd, rfl, _⟩ := sl_open (J.own (.head _))
    refine vs ?_
    refine ⟨kept_base J3 J, ?_⟩
    refine x_callb J (implGrownOk_ok wd _ (postRoot p) _ (postRoot p2) _ _ _ (postGrew p p2).1 (J.own (d := bytes 5) (fp := fa) (cs := [ra]) (by simp)) (J.own (d := bytes 5) (fp := fb) (cs := [rb]) (by simp)) (J.rd (H.own (d := LL) (fp := fg) (cs := [vg]) (by simp))) (root_lo p) (few_grew p p2)) fun we J => ?_
    rw [gg.2]
    refine vs ?_
    refine ⟨kept_base J3 J, ?_⟩
    have H := H.join J
    have H := H.front (c := Ck.own kPost fp2 [z1, .int .i64 p2.f_Time, .slice B2 p2.f_Book.length d2, .int .i64 p2.f_Sure] p2)
    have H := H.front (c := Ck.box g3 [z1, .int .i64 p2.f_Time, .slice B2 p2.f_Book.length d2, .int .i64 p2.f_Sure] 26)
    exact ⟨(k + 1, p2, _, fp2), i64_eq (up_1 hk2), ⟨⟨hk2, hok2, ln_1 hln2.2.2 hln⟩, Sep.left (L := [_, _]) H⟩, less_12 hk2⟩
  · refine ve (And.intro (tm4 n4) (And.intro (md_f (j := 0) h4 (by decide)) (And.intro (md_f (j := 1) h4 (by decide)) (md_f (j := 2) h4 (by decide))))) ?_
    refine cut_to (σ := MPost × List Value × List Nat) (fun _ => [(0, v0), (3, .pointer (some ⟨g3, 0, none⟩)), (5, .int .i64 (k : Int)), (6, .pointer (some ⟨g6, 0, none⟩))]) (fun y w' => Grew p y.1 ∧ Sep w.heap.size w w' [Ck.box g3 y.2.1 26, Ck.own kPost y.2.2 y.2.1 y.1, Ck.box g6 [v1, .int .i64 p.f_Time, .slice A2 p.f_Book.length c2, .int .i64 p.f_Sure] 26, Ck.own kPost fp [v1, .int .i64 p.f_Time, .slice A2 p.f_Book.length c2, .int .i64 p.f_Sure] p]) ?_ ?_
    · refine draw_ztree [(0, true), (1, true), (2, true), (3, true), (4, true), (5, true), (6, false), (7, true), (8, true), (9, false)] 10 (.one 10 (.two 11 12 (.two 12 13 (.one 13 .nil) (.one 12 .nil)) (.one 11 (.one 13 .nil)))) [] fun w11 hh hb11 => vs ?_
      have H := H.go (hb11 _)
      have J := Sep.start w11
      refine q_ldaB H J st26 ?_
      refine vs ?_
      refine q_ldB H J sc3 ?_
      refine vs ?_
      refine x_call (at_ok _ v0 x0 (w64 ((k : Int) + 3)) (H.rd h0) (rg_3 hk2) hx0) fun _ _ ⟨n5, e, hn5, ew⟩ => ?_
      subst e
      subst ew
      refine vs ?_
      refine ⟨kept_base J J, ?_⟩
      refine q_remG ?_ (by decide)
      refine ve (And.intro (tm5 n5) (due_lo (n := n5 % 5) hT (lo_5 n5))) ?_
      refine x_call (implTick_ok _ _ p (p.f_Time + ((n5 % 5 : Nat) : Int)) (H.own (d := kPost) (fp := fp) (cs := [v1, .int .i64 p.f_Time, .slice A2 p.f_Book.length c2, .int .i64 p.f_Sure]) (x := p) (by simp)) hsm (tick_rg hT n5)) fun _ w12 ⟨cs2, fp2, e, S⟩ => ?_
      subst e
      have J2 := J.join S
      have H := H.join S
      simp only [List.cons_append, List.nil_append] at H
      have gr := tick_grew (p.f_Time + ((n5 % 5 : Nat) : Int)) hok
      obtain ⟨p2, hp2⟩ : ∃ p2, p2 = (tickP p (p.f_Time + ((n5 % 5 : Nat) : Int))).1 := ⟨_, rfl⟩
      rw [← hp2] at H gr
      obtain ⟨z1, z2, rfl, _, _, t3, _⟩ := kPost_open (H.own (d := kPost) (fp := fp2) (cs := cs2) (x := p2) (by simp))
      obtain ⟨B2, d2, rfl, _⟩ := sl_open t3
      have o2 := Kd.one _ (H.own (d := kPost) (fp := fp2) (cs := [z1, .int .i64 p2.f_Time, .slice B2 p2.f_Book.length d2, .int .i64 p2.f_Sure]) (x := p2) (by simp))
      refine vs ?_
      refine ⟨kept_base J J2, ?_⟩
      refine lt_one ⟨_, rfl, vs ?_⟩
      refine lt_two ⟨_, rfl, vs ?_⟩ ⟨_, rfl, vs ?_⟩
      · refine lt_two ⟨_, rfl, vs ?_⟩ ⟨_, rfl, vs ?_⟩
        · refine lt_one ⟨_, rfl, vs ?_⟩
          refine x_sta H st26 (vs := [z1, .int .i64 p2.f_Time, .slice B2 p2.f_Book.length d2, .int .i64 p2.f_Sure]) (h1 := o2) fun w13 H => ?_
          refine lt_nil ?_
          have H := H.front (c := Ck.own kPost fp [v1, .int .i64 p.f_Time, .slice A2 p.f_Book.length c2, .int .i64 p.f_Sure] p)
          have H := H.front (c := Ck.box g6 [v1, .int .i64 p.f_Time, .slice A2 p.f_Book.length c2, .int .i64 p.f_Sure] 26)
          have H := H.front (c := Ck.own kPost fp2 [z1, .int .i64 p2.f_Time, .slice B2 p2.f_Book.length d2, .int .i64 p2.f_Sure] p2)
          have H := H.front (c := Ck.box g3 [z1, .int .i64 p2.f_Time, .slice B2 p2.f_Book.length d2, .int .i64 p2.f_Sure] 26)
          exact ⟨(p2, _, fp2), vs trivial, gr, Sep.left (L := [_, _, _, _]) H⟩
        · refine x_sta H st26 (vs := [z1, .int .i64 p2.f_Time, .slice B2 p2.f_Book.length d2, .int .i64 p2.f_Sure]) (h1 := o2) fun w13 H => ?_
          refine lt_one ⟨_, rfl, vs ?_⟩
          refine lt_nil ?_
          have H := H.front (c := Ck.own kPost fp [v1, .int .i64 p.f_Time, .slice A2 p.f_Book.length c2, .int .i64 p.f_Sure] p)
          have H := H.front (c := Ck.box g6 [v1, .int .i64 p.f_Time, .slice A2 p.f_Book.length c2, .int .i64 p.f_Sure] 26)
          have H := H.front (c := Ck.own kPost fp2 [z1, .int .i64 p2.f_Time, .slice B2 p2.f_Book.length d2, .int .i64 p2.f_Sure] p2)
          have H := H.front (c := Ck.box g3 [z1, .int .i64 p2.f_Time, .slice B2 p2.f_Book.length d2, .int .i64 p2.f_Sure] 26)
          exact ⟨(p2, _, fp2), vs trivial, gr, Sep.left (L := [_, _, _, _]) H⟩
      · refine lt_one ⟨_, rfl, vs ?_⟩
        refine lt_one ⟨_, rfl, vs ?_⟩
        refine x_sta H st26 (vs := [z1, .int .i64 p2.f_Time, .slice B2 p2.f_Book.length d2, .int .i64 p2.f_Sure]) (h1 := o2) fun w13 H => ?_
        refine lt_nil ?_
        have H := H.front (c := Ck.own kPost fp [v1, .int .i64 p.f_Time, .slice A2 p.f_Book.length c2, .int .i64 p.f_Sure] p)
        have H := H.front (c := Ck.box g6 [v1, .int .i64 p.f_Time, .slice A2 p.f_Book.length c2, .int .i64 p.f_Sure] 26)
        have H := H.front (c := Ck.own kPost fp2 [z1, .int .i64 p2.f_Time, .slice B2 p2.f_Book.length d2, .int .i64 p2.f_Sure] p2)
        have H := H.front (c := Ck.box g3 [z1, .int .i64 p2.f_Time, .slice B2 p2.f_Book.length d2, .int .i64 p2.f_Sure] 26)
        exact ⟨(p2, _, fp2), vs trivial, gr, Sep.left (L := [_, _, _, _]) H⟩
    rintro ⟨p2, cs2, fp2⟩ s w12 ⟨gr, H⟩
    dsimp only at gr H
    obtain ⟨z1, z2, rfl, _, _, t3, _⟩ := kPost_open (H.own (d := kPost) (fp := fp2) (cs := cs2) (x := p2) (by simp))
    obtain ⟨B2, d2, rfl, _⟩ := sl_open t3
    refine vs ?_
    have hln2 := gr.lines hok (ln_40 hln hk2)
    have hok2 := gr.1
    have hsm2 := postOk_sm hok2
    refine x_ld H sc22 ?_
    by_cases hB : (p.f_Book.length : Int) = 0
    · refine ve hB ?_
      have H := H.front (c := Ck.own kPost fp2 [z1, .int .i64 p2.f_Time, .slice B2 p2.f_Book.length d2, .int .i64 p2.f_Sure] p2)
      have H := H.front (c := Ck.box g3 [z1, .int .i64 p2.f_Time, .slice B2 p2.f_Book.length d2, .int .i64 p2.f_Sure] 26)
      exact ⟨(k + 1, p2, _, fp2), i64_eq (up_1 hk2), ⟨⟨hk2, hok2, ln_1 hln2.2.2 hln⟩, Sep.left (L := [_, _]) H⟩, less_12 hk2⟩
    have hlp := linesOf_pos (postOk_whole hok) (b := p.f_Book) (fun e => hB (by rw [e]; rfl))
    have gg := grown_good hok hok2 hlp hln2.2.1 hln2.1
    refine ve hB ?_
    refine x_lda H st26 ?_
    refine vs ?_
    refine x_lda H st26 ?_
    refine vs ?_
    refine x_call (implPostGrew_ok w12 _ p _ p2 (H.own (d := kPost) (fp := fp) (cs := [v1, .int .i64 p.f_Time, .slice A2 p.f_Book.length c2, .int .i64 p.f_Sure]) (x := p) (by simp)) (H.own (d := kPost) (fp := fp2) (cs := [z1, .int .i64 p2.f_Time, .slice B2 p2.f_Book.length d2, .int .i64 p2.f_Sure]) (x := p2) (by simp)) hsm hsm2) fun _ w13 ⟨vg, fg, e, S⟩ => ?_
    subst e
    rw [gg.1]
    have H := H.join S
    simp only [List.cons_append, List.nil_append] at H
    have H0 := H
    refine vs ?_
    have J := Sep.start w13
    refine draw_of [(0, true), (1, true), (2, true), (3, true), (5, true), (7, true), (8, true), (11, true), (12, true), (15, true), (4, false), (6, false), (9, false), (10, true), (13, false), (14, true), (16, false), (17, true), (18, true)] w13.heap.size [] fun w14 hh hb14 => vs ?_
    have J := J.go (hb14 _)
    have J3 := J
    refine q_ldaB H J3 st26 ?_
    refine vs ?_
    refine q_ldaB H J3 st26 ?_
    refine vs ?_
    refine q_ldB H J3 sc22 ?_
    refine vs ?_
    refine q_ldB H J3 sc22 ?_
    refine vs ?_
    refine x_callf J (implPostRoot_ok w14 _ p (J.rd (H.own (d := kPost) (fp := fp) (cs := [v1, .int .i64 p.f_Time, .slice A2 p.f_Book.length c2, .int .i64 p.f_Sure]) (x := p) (by simp))) hsm) fun ra fa wa J => vs ?_
    refine ⟨kept_base J3 J, ?_⟩
    refine x_callf J (implPostRoot_ok wa _ p2 (J.rd (H.own (d := kPost) (fp := fp2) (cs := [z1, .int .i64 p2.f_Time, .slice B2 p2.f_Book.length d2, .int .i64 p2.f_Sure]) (x := p2) (by simp))) hsm2) fun rb fb wb J => vs ?_
    refine ⟨kept_base J3 J, ?_⟩
    refine x_callf J (implLinesOf_ok wb _ p.f_Book (J.rd (book_rd (H.own (d := kPost) (fp := fp) (cs := [v1, .int .i64 p.f_Time, .slice A2 p.f_Book.length c2, .int .i64 p.f_Sure]) (x := p) (by simp)))) (by have := hsm.2; omega)) fun rc fc wc J => ?_
    obtain ⟨Ac, kc, rfl, _⟩ := sl_open (J.own (.head _))
    refine vs ?_
    refine ⟨kept_base J3 J, ?_⟩
    refine x_callf J (implLinesOf_ok wc _ p2.f_Book (J.rd (book_rd (H.own (d := kPost) (fp := fp2) (cs := [z1, .int .i64 p2.f_Time, .slice B2 p2.f_Book.length d2, .int .i64 p2.f_Sure]) (x := p2) (by simp)))) (by have := hsm2.2; omega)) fun rd fd wd J => ?_
    obtain ⟨Ad, kd, rfl, _⟩ := sl_open (J.own (.head _))
    refine vs ?_
    refine ⟨kept_base J3 J, ?_⟩
    refine x_callb J (implGrownOk_ok wd _ (postRoot p) _ (postRoot p2) _ _ _ (postGrew p p2).1 (J.own (d := bytes 5) (fp := fa) (cs := [ra]) (by simp)) (J.own (d := bytes 5) (fp := fb) (cs := [rb]) (by simp)) (J.rd (H.own (d := LL) (fp := fg) (cs := [vg]) (by simp))) (root_lo p) (few_grew p p2)) fun we J => ?_
    rw [gg.2]
    refine vs ?_
    refine ⟨kept_base J3 J, ?_⟩
    have H := H.join J
    have H := H.front (c := Ck.own kPost fp2 [z1, .int .i64 p2.f_Time, .slice B2 p2.f_Book.length d2, .int .i64 p2.f_Sure] p2)
    have H := H.front (c := Ck.box g3 [z1, .int .i64 p2.f_Time, .slice B2 p2.f_Book.length d2, .int .i64 p2.f_Sure] 26)
    exact ⟨(k + 1, p2, _, fp2), i64_eq (up_1 hk2), ⟨⟨hk2, hok2, ln_1 hln2.2.2 hln⟩, Sep.left (L := [_, _]) H⟩, less_12 hk2⟩
end Go.Proofs.YtdljbekkckfmnaaGreat.V
