/- Roots by a way: both sides. Laid by a program. -/
import Derived.Test.YtlkplnioaiahhaaZ1
namespace Go.Proofs.Ytlkplnioaiahhaa.V
open Go Go.RowKit
set_option maxRecDepth 100000
set_option maxHeartbeats 4000000
set_option linter.unusedSimpArgs false
set_option linter.unusedVariables false
set_option pp.deepTerms false
set_option pp.deepTerms.threshold 3

def rootByP (leaf : List UInt8) (i n : Nat) (path : List (List UInt8)) : Option (List UInt8) :=
  if n = 1 then (if path.length = 0 then some leaf else none) else
  if h : path.length = 0 then none else
  if i < first n then (rootByP leaf i (first n) (path.take (path.length - 1))).map fun r => nodeOf r (path.getD (path.length - 1) [])
  else (rootByP leaf (i - first n) (n - first n) (path.take (path.length - 1))).map fun r => nodeOf (path.getD (path.length - 1) []) r
termination_by path.length
decreasing_by
  all_goals (simp only [List.length_take]; omega)
def rootBy (leaf : List UInt8) (i n : Int) (path : List (List UInt8)) : Option (List UInt8) := if 0 ≤ i ∧ i < n ∧ n ≤ 40 then rootByP leaf i.toNat n.toNat path else none
theorem rootByP_len (leaf : List UInt8) : ∀ (k i n : Nat) (path : List (List UInt8)), path.length ≤ k → ∀ r, rootByP leaf i n path = some r → r.length ≤ leaf.length + 32 := by
  intro k
  induction k with
  | zero =>
    intro i n path hk r hr
    rw [rootByP] at hr
    have h0 : path.length = 0 := by omega
    split at hr
    · cases hr; omega
    · cases hr
  | succ k ih =>
    intro i n path hk r hr
    rw [rootByP] at hr
    split at hr
    · split at hr
      · cases hr; omega
      · cases hr
    · split at hr
      · cases hr
      · split at hr
        · obtain ⟨q, _, rfl⟩ := Option.map_eq_some_iff.1 hr
          have := nodeOf_len q (path.getD (path.length - 1) []); omega
        · obtain ⟨q, _, rfl⟩ := Option.map_eq_some_iff.1 hr
          have := nodeOf_len (path.getD (path.length - 1) []) q; omega
theorem rootBy_len (leaf : List UInt8) (i n : Int) (path : List (List UInt8)) : ((rootBy leaf i n path).getD []).length ≤ leaf.length + 32 := by
  unfold rootBy
  split
  · cases h : rootByP leaf i.toNat n.toNat path with
    | none => simp
    | some r => exact rootByP_len leaf _ _ _ _ (Nat.le_refl _) r h
  · simp
def Few' (l : List (List UInt8)) : Prop := ∀ a ∈ l, a.length ≤ 1073741824
theorem Few'.take {l : List (List UInt8)} (h : Few' l) (k : Nat) : Few' (l.take k) := fun a ha => h a (List.mem_of_mem_take ha)
theorem few_sm' {l : List (List UInt8)} (h : l.length ≤ 1048576 ∧ ∀ y ∈ l, y.length ≤ 1048576) : Few' l := fun a ha => Nat.le_trans (h.2 a ha) (by omega)
theorem getDN {l : List (List UInt8)} {i : Nat} (h : i < l.length) : l[i] = l.getD i [] := by rw [List.getD_eq_getElem?_getD, List.getElem?_eq_getElem h, Option.getD_some]

theorem implRB_ok : ∀ (q : Nat) (w : World) (v u : Value) (leaf : List UInt8) (i n : Nat) (path : List (List UInt8)) (_ : path.length ≤ q) (_ : i < n) (_ : n ≤ 40) (_ : leaf.length ≤ 1073741824) (_ : Few' path) (_ : (bytes 5).rd w w.heap.size [v] leaf) (_ : lists.rd w w.heap.size [u] path),
    ACalls Try.prog 43 #[v, .int .i64 (i : Int), .int .i64 (n : Int), u] w fun r w' => ∃ v fp, r = .tuple #[v, .bool (rootByP leaf i n path).isSome] ∧ Sep w.heap.size w w' [Ck.own (bytes 5) fp [v] ((rootByP leaf i n path).getD [])] := by
  intro q
  induction q with
  | zero =>
    intro w v u leaf i n path hq hin hn hlf hfw h h'
    have hp0 : path.length = 0 := by omega
    have h0 := h'
    obtain ⟨A, c, rfl, hc1, hc2, ha⟩ := sl_open h'
    have H := Sep.start w
    refine body_of follows Try.func43 rfl rfl _ rfl (by kernel_rfl) ?_
    have e1 : ¬ ((i : Int) < 0) := by omega
    have e2 : ¬ ((n : Int) ≤ (i : Int)) := by omega
    have e3 : ¬ ((40 : Int) < (n : Int)) := by omega
    have E := And.intro e1 (And.intro e2 e3)
    by_cases hn1 : n = 1
    · have en : ((n : Int) = 1) = True := eq_true (by omega)
      have ep : ((path.length : Int) = 0) = True := eq_true (by omega)
      refine ve (And.intro E (And.intro en ep)) ?_
      have em : rootByP leaf i n path = some leaf := by rw [rootByP, if_pos hn1, if_pos hp0]
      rw [em]
      refine x_lstR (d := bytes 5) H sl24 rfl [_] [leaf] ⟨h, trivial⟩ fun g2 w2 H hr => vs ?_
      have e : [leaf].flatten = leaf := by simp
      refine x_callf H (joined_ok w2 _ _ hr (by rw [e]; omega)) fun r3 f3 w3 H => vs ?_
      rw [e] at H
      exact ⟨_, _, rfl, H.head⟩
    have en : ((n : Int) = 1) = False := eq_false (by omega)
    have ep : ((path.length : Int) = 0) = True := eq_true (by omega)
    refine ve (And.intro E (And.intro en ep)) ?_
    have em : rootByP leaf i n path = none := by rw [rootByP, if_neg hn1, dif_pos hp0]
    rw [em]
    exact ⟨_, _, rfl, (H.nothing (sl_zero w)).head⟩
  | succ q ih =>
    intro w v u leaf i n path hq hin hn hlf hfw h h'
    have h0 := h'
    obtain ⟨A, c, rfl, hc1, hc2, ha⟩ := sl_open h'
    have H := Sep.start w
    refine body_of follows Try.func43 rfl rfl _ rfl (by kernel_rfl) ?_
    have e1 : ¬ ((i : Int) < 0) := by omega
    have e2 : ¬ ((n : Int) ≤ (i : Int)) := by omega
    have e3 : ¬ ((40 : Int) < (n : Int)) := by omega
    have E := And.intro e1 (And.intro e2 e3)
    by_cases hp0 : path.length = 0
    · have hskip := trivial
      by_cases hn1 : n = 1
      · have en : ((n : Int) = 1) = True := eq_true (by omega)
        have ep : ((path.length : Int) = 0) = True := eq_true (by omega)
        refine ve (And.intro E (And.intro en ep)) ?_
        have em : rootByP leaf i n path = some leaf := by rw [rootByP, if_pos hn1, if_pos hp0]
        rw [em]
        refine x_lstR (d := bytes 5) H sl24 rfl [_] [leaf] ⟨h, trivial⟩ fun g2 w2 H hr => vs ?_
        have e : [leaf].flatten = leaf := by simp
        refine x_callf H (joined_ok w2 _ _ hr (by rw [e]; omega)) fun r3 f3 w3 H => vs ?_
        rw [e] at H
        exact ⟨_, _, rfl, H.head⟩
      have en : ((n : Int) = 1) = False := eq_false (by omega)
      have ep : ((path.length : Int) = 0) = True := eq_true (by omega)
      refine ve (And.intro E (And.intro en ep)) ?_
      have em : rootByP leaf i n path = none := by rw [rootByP, if_neg hn1, dif_pos hp0]
      rw [em]
      exact ⟨_, _, rfl, (H.nothing (sl_zero w)).head⟩
    by_cases hn1 : n = 1
    · have en : ((n : Int) = 1) = True := eq_true (by omega)
      have ep : ((path.length : Int) = 0) = False := eq_false (by omega)
      refine ve (And.intro E (And.intro en ep)) ?_
      have em : rootByP leaf i n path = none := by rw [rootByP, if_pos hn1, if_neg hp0]
      rw [em]
      exact ⟨_, _, rfl, (H.nothing (sl_zero w)).head⟩
    have en : ((n : Int) = 1) = False := eq_false (by omega)
    have ep : ((path.length : Int) = 0) = False := eq_false (by omega)
    have el : w64 ((path.length : Int) - 1) = ((path.length - 1 : Nat) : Int) := by have := sl_len h0; unfold w64; omega
    refine ve (And.intro E (And.intro en ep)) ?_
    refine x_callw (firstOf_ok w n (by omega)) (ve el ?_)
    have hk := first_lt (n := n) (by omega)
    have hk0 := first_pos n
    have hu : rootByP leaf i n path = if i < first n then (rootByP leaf i (first n) (path.take (path.length - 1))).map fun r => nodeOf r (path.getD (path.length - 1) [])
      else (rootByP leaf (i - first n) (n - first n) (path.take (path.length - 1))).map fun r => nodeOf (path.getD (path.length - 1) []) r := by rw [rootByP, if_neg hn1, dif_neg hp0]
    rw [hu]
    generalize first n = k at *
    have hlast : (path.getD (path.length - 1) []).length ≤ 1073741824 := by rw [← getDN (by omega)]; exact hfw _ (List.getElem_mem _)
    refine draw_of [(0, true), (1, true), (2, true), (3, true), (4, true), (5, true), (6, true), (7, true), (8, true), (9, true), (10, true), (11, true), (12, true)] w.heap.size [] fun w3 hh hb3 => ve el ?_
    have H := H.go (hb3 _)
    refine q_to (wr := w) (hi := path.length - 1) sl24 rfl h0 (by omega) fun v1 hv1 => ve el ?_
    refine q_ele H sl24 rfl (path.length - 1) (by omega) ha rfl fun ad es hb hr hc => vs ?_
    obtain ⟨u2, rfl⟩ := sl_one hr
    rw [getDN] at hr
    refine q_ld1 sc22 hc rfl hb (vs ?_)
    by_cases hi : i < k
    · have e5 : ((i : Int) < (k : Int)) := by omega
      refine ve e5 ?_
      rw [if_pos hi]
      refine x_call (ih w3 v v1 leaf i k (path.take (path.length - 1)) (by simp only [List.length_take]; omega) (by omega) (by omega) hlf (hfw.take _) (H.rd h) (H.rd hv1)) fun _ w4 ⟨v4, f4, e, S⟩ => ?_
      subst e
      have H := H.join S
      simp only [List.cons_append, List.nil_append] at H
      have hol := rootByP_len leaf _ i k (path.take (path.length - 1)) (Nat.le_refl _)
      generalize rootByP leaf i k (path.take (path.length - 1)) = oo at *
      cases oo with
      | none =>
        simp only [Option.isSome_none, Option.map_none, Option.getD_none] at H ⊢
        refine vs ?_
        exact ⟨_, _, rfl, (H.nothing (sl_zero w4)).head⟩
      | some rr =>
        simp only [Option.isSome_some, Option.map_some, Option.getD_some] at H ⊢
        have hrl := hol rr rfl
        refine vs ?_
        refine x_callf H (implNodeOf_ok w4 _ _ _ _ (H.own (.head _)) (H.rd hr) (by omega)) fun r5 f5 w5 H => vs ?_
        exact ⟨_, _, rfl, H.head⟩
    · have e5 : ¬ ((i : Int) < (k : Int)) := by omega
      have e6 : w64 ((i : Int) - (k : Int)) = ((i - k : Nat) : Int) := by unfold w64; omega
      have e7 : w64 ((n : Int) - (k : Int)) = ((n - k : Nat) : Int) := by unfold w64; omega
      refine ve (And.intro e5 (And.intro e6 e7)) ?_
      rw [if_neg hi]
      refine x_call (ih w3 v v1 leaf (i - k) (n - k) (path.take (path.length - 1)) (by simp only [List.length_take]; omega) (by omega) (by omega) hlf (hfw.take _) (H.rd h) (H.rd hv1)) fun _ w4 ⟨v4, f4, e, S⟩ => ?_
      subst e
      have H := H.join S
      simp only [List.cons_append, List.nil_append] at H
      have hol := rootByP_len leaf _ (i - k) (n - k) (path.take (path.length - 1)) (Nat.le_refl _)
      generalize rootByP leaf (i - k) (n - k) (path.take (path.length - 1)) = oo at *
      cases oo with
      | none =>
        simp only [Option.isSome_none, Option.map_none, Option.getD_none] at H ⊢
        refine vs ?_
        exact ⟨_, _, rfl, (H.nothing (sl_zero w4)).head⟩
      | some rr =>
        simp only [Option.isSome_some, Option.map_some, Option.getD_some] at H ⊢
        have hrl := hol rr rfl
        refine vs ?_
        refine x_callf H (implNodeOf_ok w4 _ _ _ _ (H.rd hr) (H.own (.head _)) (by omega)) fun r5 f5 w5 H => vs ?_
        exact ⟨_, _, rfl, H.head⟩
theorem implRootBy_ok (w : World) (v : Value) (leaf : List UInt8) (i n : Int) (u : Value) (path : List (List UInt8)) (h : (bytes 5).rd w w.heap.size [v] leaf) (h' : lists.rd w w.heap.size [u] path) (hlf : leaf.length ≤ 1073741824) (hfw : Few' path) :
    ACalls Try.prog 43 #[v, .int .i64 i, .int .i64 n, u] w fun r w' => ∃ v fp, r = .tuple #[v, .bool (rootBy leaf i n path).isSome] ∧ Sep w.heap.size w w' [Ck.own (bytes 5) fp [v] ((rootBy leaf i n path).getD [])] := by
  by_cases hp : 0 ≤ i ∧ i < n ∧ n ≤ 40
  · obtain ⟨a, rfl⟩ : ∃ a : Nat, i = (a : Int) := ⟨i.toNat, by omega⟩
    obtain ⟨b, rfl⟩ : ∃ b : Nat, n = (b : Int) := ⟨n.toNat, by omega⟩
    have e : rootBy leaf (a : Int) (b : Int) path = rootByP leaf a b path := by unfold rootBy; rw [if_pos hp]; rfl
    rw [e]
    exact implRB_ok path.length w v u leaf a b path (Nat.le_refl _) (by omega) (by omega) hlf hfw h h'
  · have e : rootBy leaf i n path = none := by unfold rootBy; rw [if_neg hp]
    rw [e]
    simp only [Option.isSome_none, Option.getD_none]
    have H := Sep.start w
    refine body_of follows Try.func43 rfl rfl _ rfl (by kernel_rfl) ?_
    by_cases h1 : i < 0
    · refine ve h1 ?_
      exact ⟨_, _, rfl, H.nothing (sl_zero w)⟩
    by_cases h2 : n ≤ i
    · refine ve (And.intro h1 h2) ?_
      exact ⟨_, _, rfl, H.nothing (sl_zero w)⟩
    have h3 : 40 < n := by omega
    refine ve (And.intro h1 (And.intro h2 h3)) ?_
    exact ⟨_, _, rfl, H.nothing (sl_zero w)⟩

theorem specRB_ok : ∀ (q : Nat) (w : World) (v u : Value) (leaf : List UInt8) (i n : Nat) (path : List (List UInt8)) (_ : path.length ≤ q) (_ : i < n) (_ : n ≤ 40) (_ : leaf.length ≤ 1073741824) (_ : Few' path) (_ : (bytes 5).rd w w.heap.size [v] leaf) (_ : lists.rd w w.heap.size [u] path),
    ACalls Try.prog 42 #[v, .int .i64 (i : Int), .int .i64 (n : Int), u] w fun r w' => ∃ v fp, r = .tuple #[v, .bool (rootByP leaf i n path).isSome] ∧ Sep w.heap.size w w' [Ck.own (bytes 5) fp [v] ((rootByP leaf i n path).getD [])] := by
  intro q
  induction q with
  | zero =>
    intro w v u leaf i n path hq hin hn hlf hfw h h'
    have hp0 : path.length = 0 := by omega
    have h0 := h'
    obtain ⟨A, c, rfl, hc1, hc2, ha⟩ := sl_open h'
    have H := Sep.start w
    refine body_of follows Try.func42 rfl rfl _ rfl (by kernel_rfl) ?_
    refine vs ?_
    refine x_callw (l1In_ok w _ _ _) ?_
    have e1 : (1 : Int) ≤ (n : Int) ∧ (n : Int) ≤ 40 := by omega
    have e2 : w64 ((n : Int) - 1) = (n : Int) - 1 := w64_id (by omega) (by omega)
    refine ve (And.intro e1 e2) ?_
    refine x_callw (l1In_ok w _ _ _) ?_
    have E : 0 ≤ (i : Int) ∧ (i : Int) ≤ (n : Int) - 1 := by omega
    by_cases hn1 : n = 1
    · have en : ((n : Int) = 1) = True := eq_true (by omega)
      have ep : ¬ ((0 : Int) < (path.length : Int)) := by omega
      refine ve (And.intro E (And.intro en ep)) ?_
      have em : rootByP leaf i n path = some leaf := by rw [rootByP, if_pos hn1, if_pos hp0]
      rw [em]
      refine x_emp H pl_u8 sl22 fun g2 w2 H => vs ?_
      refine x_app H pl_u8 sl22 (H.rd h) ?_ ?_ fun f3 v3 w3 H => vs ?_
      · simp only [List.length_nil]; omega
      · simp only [List.length_nil]; omega
      exact ⟨_, _, rfl, H⟩
    have en : ((n : Int) = 1) = False := eq_false (by omega)
    have ep : ((path.length : Int) = 0) = True := eq_true (by omega)
    refine ve (And.intro E (And.intro en ep)) ?_
    have em : rootByP leaf i n path = none := by rw [rootByP, if_neg hn1, dif_pos hp0]
    rw [em]
    refine x_emp H pl_u8 sl22 fun g9 w9 H => vs ?_
    exact ⟨_, _, rfl, H.head⟩
  | succ q ih =>
    intro w v u leaf i n path hq hin hn hlf hfw h h'
    have h0 := h'
    obtain ⟨A, c, rfl, hc1, hc2, ha⟩ := sl_open h'
    have H := Sep.start w
    refine body_of follows Try.func42 rfl rfl _ rfl (by kernel_rfl) ?_
    refine vs ?_
    refine x_callw (l1In_ok w _ _ _) ?_
    have e1 : (1 : Int) ≤ (n : Int) ∧ (n : Int) ≤ 40 := by omega
    have e2 : w64 ((n : Int) - 1) = (n : Int) - 1 := w64_id (by omega) (by omega)
    refine ve (And.intro e1 e2) ?_
    refine x_callw (l1In_ok w _ _ _) ?_
    have E : 0 ≤ (i : Int) ∧ (i : Int) ≤ (n : Int) - 1 := by omega
    by_cases hp0 : path.length = 0
    · have hskip := trivial
      by_cases hn1 : n = 1
      · have en : ((n : Int) = 1) = True := eq_true (by omega)
        have ep : ¬ ((0 : Int) < (path.length : Int)) := by omega
        refine ve (And.intro E (And.intro en ep)) ?_
        have em : rootByP leaf i n path = some leaf := by rw [rootByP, if_pos hn1, if_pos hp0]
        rw [em]
        refine x_emp H pl_u8 sl22 fun g2 w2 H => vs ?_
        refine x_app H pl_u8 sl22 (H.rd h) ?_ ?_ fun f3 v3 w3 H => vs ?_
        · simp only [List.length_nil]; omega
        · simp only [List.length_nil]; omega
        exact ⟨_, _, rfl, H⟩
      have en : ((n : Int) = 1) = False := eq_false (by omega)
      have ep : ((path.length : Int) = 0) = True := eq_true (by omega)
      refine ve (And.intro E (And.intro en ep)) ?_
      have em : rootByP leaf i n path = none := by rw [rootByP, if_neg hn1, dif_pos hp0]
      rw [em]
      refine x_emp H pl_u8 sl22 fun g9 w9 H => vs ?_
      exact ⟨_, _, rfl, H.head⟩
    by_cases hn1 : n = 1
    · have en : ((n : Int) = 1) = True := eq_true (by omega)
      have ep : ((0 : Int) < (path.length : Int)) := by omega
      refine ve (And.intro E (And.intro en ep)) ?_
      have em : rootByP leaf i n path = none := by rw [rootByP, if_pos hn1, if_neg hp0]
      rw [em]
      refine x_emp H pl_u8 sl22 fun g9 w9 H => vs ?_
      exact ⟨_, _, rfl, H.head⟩
    have en : ((n : Int) = 1) = False := eq_false (by omega)
    have ep : ((path.length : Int) = 0) = False := eq_false (by omega)
    have el : w64 ((path.length : Int) - 1) = ((path.length - 1 : Nat) : Int) := by have := sl_len h0; unfold w64; omega
    refine ve (And.intro E (And.intro en ep)) ?_
    refine x_callw (half_ok w n (by omega)) (ve el ?_)
    have hk := first_lt (n := n) (by omega)
    have hk0 := first_pos n
    have hu : rootByP leaf i n path = if i < first n then (rootByP leaf i (first n) (path.take (path.length - 1))).map fun r => nodeOf r (path.getD (path.length - 1) [])
      else (rootByP leaf (i - first n) (n - first n) (path.take (path.length - 1))).map fun r => nodeOf (path.getD (path.length - 1) []) r := by rw [rootByP, if_neg hn1, dif_neg hp0]
    rw [hu]
    generalize first n = k at *
    have hlast : (path.getD (path.length - 1) []).length ≤ 1073741824 := by rw [← getDN (by omega)]; exact hfw _ (List.getElem_mem _)
    refine x_ele H sl24 rfl (path.length - 1) (by omega) ha rfl fun ad es hb hr hc => vs ?_
    obtain ⟨u2, rfl⟩ := sl_one hr
    rw [getDN] at hr
    refine x_ld1 sc22 hc rfl (vs ?_)
    by_cases hi : i < k
    · have e5 : ((i : Int) < (k : Int)) := by omega
      refine ve (And.intro e5 el) ?_
      refine x_to (wr := w) (hi := path.length - 1) sl24 rfl h0 (by omega) fun v1 hv1 => ?_
      refine vs ?_
      rw [if_pos hi]
      refine x_call (ih w v v1 leaf i k (path.take (path.length - 1)) (by simp only [List.length_take]; omega) (by omega) (by omega) hlf (hfw.take _) (H.rd h) (H.rd hv1)) fun _ w4 ⟨v4, f4, e, S⟩ => ?_
      subst e
      have H := H.join S
      simp only [List.cons_append, List.nil_append] at H
      have hol := rootByP_len leaf _ i k (path.take (path.length - 1)) (Nat.le_refl _)
      generalize rootByP leaf i k (path.take (path.length - 1)) = oo at *
      cases oo with
      | none =>
        simp only [Option.isSome_none, Option.map_none, Option.getD_none] at H ⊢
        refine vs ?_
        refine x_emp H pl_u8 sl22 fun g9 w9 H => vs ?_
        exact ⟨_, _, rfl, H.head⟩
      | some rr =>
        simp only [Option.isSome_some, Option.map_some, Option.getD_some] at H ⊢
        have hrl := hol rr rfl
        refine vs ?_
        refine x_callf H (specNodeOf_ok w4 _ _ _ _ (H.own (.head _)) (H.rd hr) (by omega)) fun r5 f5 w5 H => vs ?_
        exact ⟨_, _, rfl, H.head⟩
    · have e5 : ¬ ((i : Int) < (k : Int)) := by omega
      have e6 : w64 ((i : Int) - (k : Int)) = ((i - k : Nat) : Int) := by unfold w64; omega
      have e7 : w64 ((n : Int) - (k : Int)) = ((n - k : Nat) : Int) := by unfold w64; omega
      refine ve (And.intro e5 (And.intro e6 (And.intro e7 el))) ?_
      refine x_to (wr := w) (hi := path.length - 1) sl24 rfl h0 (by omega) fun v1 hv1 => ?_
      refine vs ?_
      rw [if_neg hi]
      refine x_call (ih w v v1 leaf (i - k) (n - k) (path.take (path.length - 1)) (by simp only [List.length_take]; omega) (by omega) (by omega) hlf (hfw.take _) (H.rd h) (H.rd hv1)) fun _ w4 ⟨v4, f4, e, S⟩ => ?_
      subst e
      have H := H.join S
      simp only [List.cons_append, List.nil_append] at H
      have hol := rootByP_len leaf _ (i - k) (n - k) (path.take (path.length - 1)) (Nat.le_refl _)
      generalize rootByP leaf (i - k) (n - k) (path.take (path.length - 1)) = oo at *
      cases oo with
      | none =>
        simp only [Option.isSome_none, Option.map_none, Option.getD_none] at H ⊢
        refine vs ?_
        refine x_emp H pl_u8 sl22 fun g9 w9 H => vs ?_
        exact ⟨_, _, rfl, H.head⟩
      | some rr =>
        simp only [Option.isSome_some, Option.map_some, Option.getD_some] at H ⊢
        have hrl := hol rr rfl
        refine vs ?_
        refine x_callf H (specNodeOf_ok w4 _ _ _ _ (H.rd hr) (H.own (.head _)) (by omega)) fun r5 f5 w5 H => vs ?_
        exact ⟨_, _, rfl, H.head⟩
theorem specRootBy_ok (w : World) (v : Value) (leaf : List UInt8) (i n : Int) (u : Value) (path : List (List UInt8)) (h : (bytes 5).rd w w.heap.size [v] leaf) (h' : lists.rd w w.heap.size [u] path) (hlf : leaf.length ≤ 1073741824) (hfw : Few' path) :
    ACalls Try.prog 42 #[v, .int .i64 i, .int .i64 n, u] w fun r w' => ∃ v fp, r = .tuple #[v, .bool (rootBy leaf i n path).isSome] ∧ Sep w.heap.size w w' [Ck.own (bytes 5) fp [v] ((rootBy leaf i n path).getD [])] := by
  by_cases hp : 0 ≤ i ∧ i < n ∧ n ≤ 40
  · obtain ⟨a, rfl⟩ : ∃ a : Nat, i = (a : Int) := ⟨i.toNat, by omega⟩
    obtain ⟨b, rfl⟩ : ∃ b : Nat, n = (b : Int) := ⟨n.toNat, by omega⟩
    have e : rootBy leaf (a : Int) (b : Int) path = rootByP leaf a b path := by unfold rootBy; rw [if_pos hp]; rfl
    rw [e]
    exact specRB_ok path.length w v u leaf a b path (Nat.le_refl _) (by omega) (by omega) hlf hfw h h'
  · have e : rootBy leaf i n path = none := by unfold rootBy; rw [if_neg hp]
    rw [e]
    simp only [Option.isSome_none, Option.getD_none]
    have H := Sep.start w
    refine body_of follows Try.func42 rfl rfl _ rfl (by kernel_rfl) ?_
    refine vs ?_
    refine x_callw (l1In_ok w _ _ _) ?_
    by_cases h1 : 1 ≤ n ∧ n ≤ 40
    · have e2 : w64 (n - 1) = n - 1 := w64_id (by omega) (by omega)
      refine ve (And.intro h1 e2) ?_
      refine x_callw (l1In_ok w _ _ _) ?_
      have h2 : ¬ (0 ≤ i ∧ i ≤ n - 1) := by omega
      refine ve h2 ?_
      refine x_emp H pl_u8 sl22 fun g9 w9 H => vs ?_
      exact ⟨_, _, rfl, H⟩
    · refine ve h1 ?_
      refine x_emp H pl_u8 sl22 fun g9 w9 H => vs ?_
      exact ⟨_, _, rfl, H⟩

end Go.Proofs.Ytlkplnioaiahhaa.V
