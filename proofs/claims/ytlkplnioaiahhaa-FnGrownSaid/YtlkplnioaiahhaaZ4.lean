/- Growth shown by a proof, walked: both sides. -/
import Derived.Test.YtlkplnioaiahhaaZ3
namespace Go.Proofs.Ytlkplnioaiahhaa.V
open Go Go.RowKit
set_option maxRecDepth 100000
set_option maxHeartbeats 4000000
set_option linter.unusedSimpArgs false
set_option linter.unusedVariables false
set_option pp.deepTerms false
set_option pp.deepTerms.threshold 3

theorem rootsI_len (old : BL) (ho : old.length ≤ 1073741824) : ∀ (q m n : Nat) (p : List BL) (known : Bool), p.length ≤ q → Few' p → (rootsI old m n p known).1.length ≤ 1073741824 ∧ (rootsI old m n p known).2.1.length ≤ 1073741824 := by
  intro q
  induction q with
  | zero =>
    intro m n p known hq hf
    rw [rootsI]
    split
    · exact ⟨ho, ho⟩
    · rw [dif_pos (by omega)]
      exact ⟨by simp, by simp⟩
  | succ q ih =>
    intro m n p known hq hf
    rw [rootsI]
    split
    · exact ⟨ho, ho⟩
    · by_cases h0 : p.length = 0
      · rw [dif_pos h0]
        exact ⟨by simp, by simp⟩
      · rw [dif_neg h0]
        have hl : (p.getD (p.length - 1) []).length ≤ 1073741824 := by rw [← getDN (by omega)]; exact hf _ (List.getElem_mem _)
        split
        · exact ⟨hl, hl⟩
        · split
          · have := ih m (first n) (p.take (p.length - 1)) known (by simp only [List.length_take]; omega) (hf.take _)
            exact ⟨this.1, Nat.le_trans (nodeOf_len _ _) (by omega)⟩
          · exact ⟨Nat.le_trans (nodeOf_len _ _) (by omega), Nat.le_trans (nodeOf_len _ _) (by omega)⟩
theorem dec_len {α : Type} (l : List α) : decide ((l.length : Int) = 0) = decide (l.length = 0) := decide_eq_decide.2 (by omega)

def RootsPost (w : World) (x : BL × BL × Bool) (r : Value) (w' : World) : Prop := ∃ va vb, r = .tuple #[va, vb, .bool x.2.2] ∧ Below w.heap.size w w' ∧ (bytes 5).rd w' w'.heap.size [va] x.1 ∧ (bytes 5).rd w' w'.heap.size [vb] x.2.1

theorem implRoots_ok : ∀ (q : Nat) (w : World) (v u : Value) (old : BL) (m n : Nat) (p : List BL) (known : Bool) (_ : p.length ≤ q) (_ : 1 ≤ m) (_ : m ≤ n) (_ : n ≤ 40) (_ : old.length ≤ 1073741824) (_ : Few' p) (_ : (bytes 5).rd w w.heap.size [v] old) (_ : lists.rd w w.heap.size [u] p),
    ACalls Try.prog 56 #[v, .int .i64 (m : Int), .int .i64 (n : Int), u, .bool known] w (RootsPost w (rootsI old m n p known)) := by
  intro q
  induction q with
  | zero =>
    intro w v u old m n p known hq hm hmn hn ho hf h h'
    have hp0 : p.length = 0 := by omega
    obtain ⟨A, c, rfl, hc1, hc2, ha⟩ := sl_open h'
    have e0 : ((p.length : Int) = 0) = True := eq_true (by omega)
    refine body_of follows Try.func56 rfl rfl _ rfl (by kernel_rfl) ?_
    by_cases h1 : m = n
    · have e1 : ((m : Int) = (n : Int)) = True := eq_true (by omega)
      cases known with
      | true =>
        refine ve e1 ?_
        rw [rootsI, if_pos ⟨h1, rfl⟩, dec_len]
        exact ⟨_, _, rfl, Below.refl .., h, h⟩
      | false =>
        refine ve (And.intro e1 e0) ?_
        rw [rootsI, if_neg (by simp), dif_pos hp0]
        exact ⟨_, _, rfl, Below.refl .., rd_nil .., rd_nil ..⟩
    · have e1 : ((m : Int) = (n : Int)) = False := eq_false (by omega)
      refine ve (And.intro e1 e0) ?_
      rw [rootsI, if_neg (fun h => h1 h.1), dif_pos hp0]
      exact ⟨_, _, rfl, Below.refl .., rd_nil .., rd_nil ..⟩
  | succ q ih =>
    intro w v u old m n p known hq hm hmn hn ho hf h h'
    have h0 := h'
    obtain ⟨A, c, rfl, hc1, hc2, ha⟩ := sl_open h'
    have H := Sep.start w
    refine body_of follows Try.func56 rfl rfl _ rfl (by kernel_rfl) ?_
    by_cases hk1 : m = n ∧ known = true
    · have e1 : ((m : Int) = (n : Int)) = True := eq_true (by omega)
      obtain ⟨h1, rfl⟩ := hk1
      refine ve e1 ?_
      rw [rootsI, if_pos ⟨h1, rfl⟩, dec_len]
      exact ⟨_, _, rfl, Below.refl .., h, h⟩
    have hcond : ∃ b : Bool, b = (decide ((m : Int) = (n : Int)) && known) ∧ b = false := ⟨_, rfl, by
      by_cases h1 : m = n
      · have : known = false := by cases known <;> simp_all
        simp [this]
      · have : ¬ (m : Int) = (n : Int) := by omega
        simp [this]⟩
    by_cases hp0 : p.length = 0
    · have e0 : ((p.length : Int) = 0) = True := eq_true (by omega)
      rw [rootsI, if_neg hk1, dif_pos hp0]
      by_cases h1 : m = n
      · have e1 : ((m : Int) = (n : Int)) = True := eq_true (by omega)
        have ek : known = false := by cases known <;> simp_all
        subst ek
        refine ve (And.intro e1 e0) ?_
        exact ⟨_, _, rfl, Below.refl .., rd_nil .., rd_nil ..⟩
      · have e1 : ((m : Int) = (n : Int)) = False := eq_false (by omega)
        refine ve (And.intro e1 e0) ?_
        exact ⟨_, _, rfl, Below.refl .., rd_nil .., rd_nil ..⟩
    have e0 : ((p.length : Int) = 0) = False := eq_false (by omega)
    have el : w64 ((p.length : Int) - 1) = ((p.length - 1 : Nat) : Int) := by have := sl_len h0; unfold w64; omega
    have hlast : (p.getD (p.length - 1) []).length ≤ 1073741824 := by rw [← getDN (by omega)]; exact hf _ (List.getElem_mem _)
    rw [rootsI, if_neg hk1, dif_neg hp0]
    by_cases h1 : m = n
    · have e1 : ((m : Int) = (n : Int)) = True := eq_true (by omega)
      have ek : known = false := by cases known <;> simp_all
      subst ek
      rw [if_pos h1]
      refine ve (And.intro e1 e0) ?_
      refine draw_of [(0, true), (1, true), (2, true), (3, true), (4, true), (5, true), (6, true), (7, true), (8, true), (9, true), (10, true), (11, true), (12, true)] w.heap.size [] fun w3 hh hb3 => ve el ?_
      have H := H.go (hb3 _)
      refine q_to (wr := w) (hi := p.length - 1) sl24 rfl h0 (by omega) fun v1 hv1 => ?_
      obtain ⟨A1, c1, rfl, _, _, _⟩ := sl_open hv1
      refine ve el ?_
      refine q_ele H sl24 rfl (p.length - 1) (by omega) ha rfl fun ad es hb hr hc => vs ?_
      obtain ⟨u2, rfl⟩ := sl_one hr
      rw [getDN] at hr
      refine q_ld1 sc22 hc rfl hb (ve e1 ?_)
      rw [dec_len]
      exact ⟨_, _, rfl, H.bel, H.rd hr, H.rd hr⟩
    have e1 : ((m : Int) = (n : Int)) = False := eq_false (by omega)
    rw [if_neg h1]
    refine ve (And.intro e1 e0) ?_
    refine draw_of [(0, true), (1, true), (2, true), (3, true), (4, true), (5, true), (6, true), (7, true), (8, true), (9, true), (10, true), (11, true), (12, true)] w.heap.size [] fun w3 hh hb3 => ve el ?_
    have H := H.go (hb3 _)
    refine q_to (wr := w) (hi := p.length - 1) sl24 rfl h0 (by omega) fun v1 hv1 => ve el ?_
    refine q_ele H sl24 rfl (p.length - 1) (by omega) ha rfl fun ad es hb hr hc => vs ?_
    obtain ⟨u2, rfl⟩ := sl_one hr
    rw [getDN] at hr
    refine q_ld1 sc22 hc rfl hb (ve e1 ?_)
    refine x_callw (firstOf_ok w3 n (by omega)) ?_
    have hk := first_lt (n := n) (by omega)
    have hk0 := first_pos n
    generalize first n = k at *
    by_cases hi : m ≤ k
    · have e5 : ((m : Int) ≤ (k : Int)) := by omega
      refine ve e5 ?_
      rw [if_pos hi]
      refine x_call (ih w3 v v1 old m k (p.take (p.length - 1)) known (by simp only [List.length_take]; omega) hm hi (by omega) ho (hf.take _) (H.rd h) (H.rd hv1)) fun _ w4 ⟨va, vb, e, hb4, hra, hrb⟩ => ?_
      subst e
      have H := H.go hb4
      have hl2 := (rootsI_len old ho _ m k (p.take (p.length - 1)) known (Nat.le_refl _) (hf.take _)).2
      generalize rootsI old m k (p.take (p.length - 1)) known = R at *
      refine vs ?_
      refine x_call (implNodeOf_ok w4 vb _ u2 _ hrb (H.rd hr) (by omega)) fun r5 w5 ⟨f5, S⟩ => ?_
      have H := H.join S
      refine vs ?_
      exact ⟨_, _, rfl, H.bel, Kd.le _ (Kd.mono _ hra S.bel) S.bel.size, H.own (.head _)⟩
    · have e5 : ¬ ((m : Int) ≤ (k : Int)) := by omega
      have e6 : w64 ((m : Int) - (k : Int)) = ((m - k : Nat) : Int) := by unfold w64; omega
      have e7 : w64 ((n : Int) - (k : Int)) = ((n - k : Nat) : Int) := by unfold w64; omega
      refine ve (And.intro e5 (And.intro e6 e7)) ?_
      rw [if_neg hi]
      refine x_call (ih w3 v v1 old (m - k) (n - k) (p.take (p.length - 1)) false (by simp only [List.length_take]; omega) (by omega) (by omega) (by omega) ho (hf.take _) (H.rd h) (H.rd hv1)) fun _ w4 ⟨va, vb, e, hb4, hra, hrb⟩ => ?_
      subst e
      have H := H.go hb4
      have hl2 := rootsI_len old ho _ (m - k) (n - k) (p.take (p.length - 1)) false (Nat.le_refl _) (hf.take _)
      generalize rootsI old (m - k) (n - k) (p.take (p.length - 1)) false = R at *
      refine vs ?_
      refine x_call (implNodeOf_ok w4 u2 _ va _ (H.rd hr) hra (by omega)) fun r5 w5 ⟨f5, S⟩ => ?_
      have H := H.join S
      refine vs ?_
      refine x_call (implNodeOf_ok w5 u2 _ vb _ (H.rd hr) (Kd.le _ (Kd.mono _ hrb S.bel) S.bel.size) (by omega)) fun r6 w6 ⟨f6, S6⟩ => ?_
      have H := H.join S6
      refine vs ?_
      exact ⟨_, _, rfl, H.bel, H.own (.tail _ (.head _)), H.own (.head _)⟩

def BothPost (w : World) (x : Option (BL × BL × List BL)) (r : Value) (w' : World) : Prop := ∃ va vb vr, r = .tuple #[va, vb, vr, .bool x.isSome] ∧ Below w.heap.size w w' ∧ ∀ a b rest, x = some (a, b, rest) → (bytes 5).rd w' w'.heap.size [va] a ∧ (bytes 5).rd w' w'.heap.size [vb] b ∧ lists.rd w' w'.heap.size [vr] rest ∧ a.length ≤ 1073741824 ∧ b.length ≤ 1073741824 ∧ Few' rest

theorem Few'.drop {l : List (List UInt8)} (h : Few' l) (k : Nat) : Few' (l.drop k) := fun a ha => h a (List.mem_of_mem_drop ha)
theorem specBoth_ok : ∀ (q : Nat) (w : World) (v u : Value) (old : BL) (m n : Nat) (p : List BL) (known : Bool) (_ : n ≤ q) (_ : 1 ≤ m) (_ : m ≤ n) (_ : n ≤ 40) (_ : old.length ≤ 1073741824) (_ : Few' p) (_ : (bytes 5).rd w w.heap.size [v] old) (_ : lists.rd w w.heap.size [u] p),
    ACalls Try.prog 57 #[v, .int .i64 (m : Int), .int .i64 (n : Int), u, .bool known] w (BothPost w (bothR old m n p known)) := by
  intro q
  induction q with
  | zero => intro w v u old m n p known hq hm hmn; omega
  | succ q ih =>
    intro w v u old m n p known hq hm hmn hn ho hf h h'
    have h0 := h'
    obtain ⟨A, c, rfl, hc1, hc2, ha⟩ := sl_open h'
    have H := Sep.start w
    refine body_of follows Try.func57 rfl rfl _ rfl (by kernel_rfl) ?_
    by_cases h1 : m = n
    · have e1 : ((m : Int) = (n : Int)) = True := eq_true (by omega)
      rw [bothR.eq_def, if_pos h1]
      cases known with
      | true =>
        rw [if_pos rfl]
        refine ve e1 ?_
        exact ⟨_, _, _, rfl, Below.refl .., fun a b rest e => by cases e; exact ⟨h, h, h0, ho, ho, hf⟩⟩
      | false =>
        rw [if_neg (by decide)]
        cases p with
        | nil =>
          have e0 : ((([] : List BL).length : Int) = 0) = True := eq_true rfl
          refine ve (And.intro e1 e0) ?_
          exact ⟨_, _, _, rfl, Below.refl .., fun a b rest e => by cases e⟩
        | cons x p =>
          have e0 : (((x :: p).length : Int) = 0) = False := eq_false (by simp only [List.length_cons]; omega)
          refine ve (And.intro e1 e0) ?_
          refine draw_of [(0, true), (1, true), (2, true), (3, true), (4, true), (5, true), (6, true), (7, true), (8, true), (9, true), (10, true), (11, true)] w.heap.size [] fun w3 hh hb3 => vs ?_
          have H := H.go (hb3 _)
          refine q_ele H sl24 rfl 0 (by simp) ha rfl fun ad es hb hr hc => vs ?_
          obtain ⟨u2, rfl⟩ := sl_one hr
          refine q_ld1 sc22 hc rfl hb (vs ?_)
          refine q_ele H sl24 rfl 0 (by simp) ha rfl fun ad es hb hr' hc => vs ?_
          obtain ⟨u3, rfl⟩ := sl_one hr'
          refine q_ld1 sc22 hc rfl hb (vs ?_)
          refine q_from (wr := w) (lo := 1) sl24 rfl h0 (by simp) fun v1 hv1 => vs ?_
          exact ⟨_, _, _, rfl, H.bel, fun a b rest e => by cases e; exact ⟨H.rd hr, H.rd hr', H.rd hv1, hf _ (by simp), hf _ (by simp), hf.drop 1⟩⟩
    have e1 : ((m : Int) = (n : Int)) = False := eq_false (by omega)
    refine ve e1 ?_
    refine x_callw (half_ok w n (by omega)) ?_
    have h2 : 2 ≤ n := by omega
    have hk := first_lt h2
    have hk0 := first_pos n
    rw [bothR.eq_def, if_neg h1, dif_pos h2]
    generalize first n = k at *
    by_cases hi : m ≤ k
    · have e5 : ¬ ((k : Int) < (m : Int)) := by omega
      have e5' : ((m : Int) ≤ (k : Int)) := by omega
      rw [if_pos hi]
      refine ve e5 ?_
      refine x_call (ih w v _ old m k p known (by omega) hm hi (by omega) ho hf h h0) fun _ w4 ⟨va, vb, vr, e, hb4, hall⟩ => ?_
      subst e
      have H := H.go hb4
      generalize bothR old m k p known = oo at *
      cases oo with
      | none =>
        simp only [Option.isSome_none]
        refine vs ?_
        exact ⟨_, _, _, rfl, H.bel, fun a b rest e => by cases e⟩
      | some z =>
        obtain ⟨a, b, rest⟩ := z
        obtain ⟨hra, hrb, hrr, hla, hlb, hfr⟩ := hall a b rest rfl
        simp only [Option.isSome_some]
        have hrr0 := hrr
        obtain ⟨A4, c4, rfl, _, _, ha4⟩ := sl_open hrr
        cases rest with
        | nil =>
          have e0 : ((([] : List BL).length : Int) = 0) = True := eq_true rfl
          refine ve e0 ?_
          exact ⟨_, _, _, rfl, H.bel, fun a b rest e => by cases e⟩
        | cons x rest =>
          have e0 : (((x :: rest).length : Int) = 0) = False := eq_false (by simp only [List.length_cons]; omega)
          refine ve (And.intro e0 e5') ?_
          have J := Sep.start w4
          refine draw_of [(0, true), (1, true), (2, true), (3, true), (4, true), (6, true), (7, true), (5, false), (8, true), (9, true), (10, true), (11, true)] w4.heap.size [] fun w5 hh hb5 => vs ?_
          have J := J.go (hb5 _)
          have J3 := J
          refine q_ele J sl24 rfl 0 (by simp) ha4 rfl fun ad es hb hr hc => vs ?_
          obtain ⟨u2, rfl⟩ := sl_one hr
          refine q_ld1 sc22 hc rfl hb (vs ?_)
          refine q_from (wr := w4) (lo := 1) sl24 rfl hrr0 (by simp) fun v1 hv1 => vs ?_
          have hx := hfr x (by simp)
          refine x_call (specNodeOf_ok w5 vb _ u2 _ (J.rd hrb) (J.rd hr) (by simp only [List.getElem_cons_zero]; omega)) fun r6 w6 ⟨f6, S⟩ => ?_
          have J := J.join S
          refine vs ?_
          refine ⟨kept_base J3 J, _, _, _, rfl, (H.join J).bel, fun a' b' rest' e => ?_⟩
          cases e
          have hn6 := nodeOf_len b x
          exact ⟨J.rd hra, J.own (.head _), J.rd hv1, hla, by omega, hfr.drop 1⟩
    · have e5 : ((k : Int) < (m : Int)) := by omega
      have e5' : ¬ ((m : Int) ≤ (k : Int)) := by omega
      have e6 : w64 ((m : Int) - (k : Int)) = ((m - k : Nat) : Int) := by unfold w64; omega
      have e7 : w64 ((n : Int) - (k : Int)) = ((n - k : Nat) : Int) := by unfold w64; omega
      rw [if_neg hi]
      refine ve (And.intro e5 (And.intro e6 e7)) ?_
      refine x_call (ih w v _ old (m - k) (n - k) p false (by omega) (by omega) (by omega) (by omega) ho hf h h0) fun _ w4 ⟨va, vb, vr, e, hb4, hall⟩ => ?_
      subst e
      have H := H.go hb4
      generalize bothR old (m - k) (n - k) p false = oo at *
      cases oo with
      | none =>
        simp only [Option.isSome_none]
        refine vs ?_
        exact ⟨_, _, _, rfl, H.bel, fun a b rest e => by cases e⟩
      | some z =>
        obtain ⟨a, b, rest⟩ := z
        obtain ⟨hra, hrb, hrr, hla, hlb, hfr⟩ := hall a b rest rfl
        simp only [Option.isSome_some]
        have hrr0 := hrr
        obtain ⟨A4, c4, rfl, _, _, ha4⟩ := sl_open hrr
        cases rest with
        | nil =>
          have e0 : ((([] : List BL).length : Int) = 0) = True := eq_true rfl
          refine ve e0 ?_
          exact ⟨_, _, _, rfl, H.bel, fun a b rest e => by cases e⟩
        | cons x rest =>
          have e0 : (((x :: rest).length : Int) = 0) = False := eq_false (by simp only [List.length_cons]; omega)
          refine ve (And.intro e0 e5') ?_
          have J := Sep.start w4
          refine draw_of [(0, true), (1, true), (2, true), (3, true), (5, true), (6, true), (7, true), (8, true), (10, true), (11, true), (4, false), (9, false), (12, true), (13, true), (14, true), (15, true)] w4.heap.size [] fun w5 hh hb5 => vs ?_
          have J := J.go (hb5 _)
          have J3 := J
          refine q_ele J sl24 rfl 0 (by simp) ha4 rfl fun ad es hb hr hc => vs ?_
          obtain ⟨u2, rfl⟩ := sl_one hr
          refine q_ld1 sc22 hc rfl hb (vs ?_)
          refine q_ele J sl24 rfl 0 (by simp) ha4 rfl fun ad es hb hr' hc => vs ?_
          obtain ⟨u3, rfl⟩ := sl_one hr'
          refine q_ld1 sc22 hc rfl hb (vs ?_)
          refine q_from (wr := w4) (lo := 1) sl24 rfl hrr0 (by simp) fun v1 hv1 => vs ?_
          have hx := hfr x (by simp)
          refine x_call (specNodeOf_ok w5 u2 _ va _ (J.rd hr) (J.rd hra) (by simp only [List.getElem_cons_zero]; omega)) fun r6 w6 ⟨f6, S⟩ => ?_
          have J := J.join S
          refine vs ?_
          refine ⟨kept_base J3 J, ?_⟩
          refine x_call (specNodeOf_ok w6 u3 _ vb _ (J.rd hr') (J.rd hrb) (by simp only [List.getElem_cons_zero]; omega)) fun r7 w7 ⟨f7, S7⟩ => ?_
          have J := J.join S7
          refine vs ?_
          refine ⟨kept_base J3 J, _, _, _, rfl, (H.join J).bel, fun a' b' rest' e => ?_⟩
          cases e
          have hn6 := nodeOf_len x a
          have hn7 := nodeOf_len x b
          exact ⟨J.own (.tail _ (.head _)), J.own (.head _), J.rd hv1, by omega, by omega, hfr.drop 1⟩

/-! ### shown -/
def grownOk (old root : BL) (m n : Int) (p : List BL) : Bool :=
  if (1 ≤ n ∧ n ≤ 40) ∧ 1 ≤ m ∧ m ≤ n then match bothR old m.toNat n.toNat p true with
    | some (a, b, []) => decide (a = old) && decide (b = root)
    | _ => false
  else false
theorem specGrownOk_ok (w : World) (v : Value) (old : BL) (u : Value) (root : BL) (m n : Int) (y : Value) (p : List BL) (h : (bytes 5).rd w w.heap.size [v] old) (h' : (bytes 5).rd w w.heap.size [u] root) (hp : lists.rd w w.heap.size [y] p) (ho : old.length ≤ 1073741824) (hf : Few' p) :
    ACalls Try.prog 20 #[v, u, .int .i64 m, .int .i64 n, y] w fun r w' => r = .bool (grownOk old root m n p) ∧ Below w.heap.size w w' := by
  have H := Sep.start w
  refine body_of follows Try.func20 rfl rfl _ rfl (by kernel_rfl) (vs ?_)
  refine x_callw (l1In_ok w _ _ _) ?_
  unfold grownOk
  by_cases h1 : 1 ≤ n ∧ n ≤ 40
  · refine ve h1 ?_
    refine x_callw (l1In_ok w _ _ _) ?_
    by_cases h2 : 1 ≤ m ∧ m ≤ n
    · refine ve h2 ?_
      rw [if_pos ⟨h1, h2⟩]
      obtain ⟨a, rfl⟩ : ∃ a : Nat, m = (a : Int) := ⟨m.toNat, by omega⟩
      obtain ⟨b, rfl⟩ : ∃ b : Nat, n = (b : Int) := ⟨n.toNat, by omega⟩
      simp only [Int.toNat_natCast]
      refine x_call (specBoth_ok b w v y old a b p true (Nat.le_refl _) (by omega) (by omega) (by omega) ho hf h hp) fun _ w4 ⟨va, vb, vr, e, hb4, hall⟩ => ?_
      subst e
      have H := H.go hb4
      generalize bothR old a b p true = oo at *
      cases oo with
      | none =>
        simp only [Option.isSome_none]
        refine vs ?_
        exact H.bel
      | some z =>
        obtain ⟨a', b', rest⟩ := z
        obtain ⟨hra, hrb, hrr, hla, hlb, hfr⟩ := hall a' b' rest rfl
        simp only [Option.isSome_some]
        obtain ⟨A4, c4, rfl, _, _, ha4⟩ := sl_open hrr
        cases rest with
        | nil =>
          have e0 : ((([] : List BL).length : Int) = 0) = True := eq_true rfl
          refine ve e0 ?_
          refine x_callw (specSame_ok w4 va v _ _ hra (H.rd h)) ?_
          by_cases hA : a' = old
          · refine ve (eq_true hA) ?_
            refine x_callw (specSame_ok w4 vb u _ _ hrb (H.rd h')) (vs ?_)
            simp only [hA, decide_true, Bool.true_and]
            first | exact H.bel | exact ⟨rfl, H.bel⟩ | exact ⟨trivial, H.bel⟩
          · refine ve (eq_false hA) ?_
            simp only [hA, decide_false, Bool.false_and]
            first | exact H.bel | exact ⟨rfl, H.bel⟩ | exact ⟨trivial, H.bel⟩
        | cons x rest =>
          have e0 : (((x :: rest).length : Int) = 0) = False := eq_false (by simp only [List.length_cons]; omega)
          refine ve e0 ?_
          exact H.bel
    · refine ve h2 ?_
      try rw [if_neg (fun h => h2 h.2)]
      first | exact H.bel | exact ⟨rfl, H.bel⟩ | exact ⟨trivial, H.bel⟩
  · refine ve h1 ?_
    try rw [if_neg (fun h => h1 h.1)]
    first | exact H.bel | exact ⟨rfl, H.bel⟩ | exact ⟨trivial, H.bel⟩
theorem implGrownOk_ok (w : World) (v : Value) (old : BL) (u : Value) (root : BL) (m n : Int) (y : Value) (p : List BL) (h : (bytes 5).rd w w.heap.size [v] old) (h' : (bytes 5).rd w w.heap.size [u] root) (hp : lists.rd w w.heap.size [y] p) (ho : old.length ≤ 1073741824) (hf : Few' p) :
    ACalls Try.prog 19 #[v, u, .int .i64 m, .int .i64 n, y] w fun r w' => r = .bool (grownOk old root m n p) ∧ Below w.heap.size w w' := by
  have H := Sep.start w
  refine body_of follows Try.func19 rfl rfl _ rfl (by kernel_rfl) (vs ?_)
  refine x_callw (in_ok w _ _ _) ?_
  unfold grownOk
  by_cases h1 : 1 ≤ n ∧ n ≤ 40
  · refine ve h1 ?_
    refine x_callw (in_ok w _ _ _) ?_
    by_cases h2 : 1 ≤ m ∧ m ≤ n
    · refine ve h2 ?_
      rw [if_pos ⟨h1, h2⟩]
      obtain ⟨a, rfl⟩ : ∃ a : Nat, m = (a : Int) := ⟨m.toNat, by omega⟩
      obtain ⟨b, rfl⟩ : ∃ b : Nat, n = (b : Int) := ⟨n.toNat, by omega⟩
      simp only [Int.toNat_natCast]
      refine x_call (implRoots_ok p.length w v y old a b p true (Nat.le_refl _) (by omega) (by omega) (by omega) ho hf h hp) fun _ w4 ⟨va, vb, e, hb4, hra, hrb⟩ => ?_
      subst e
      have H := H.go hb4
      have hq := fun a' b' => roots_eq old b a b p true a' b' (Nat.le_refl _) (by omega) (by omega)
      generalize rootsI old a b p true = R at *
      obtain ⟨a', b', ok⟩ := R
      cases ok with
      | false =>
        have hno : ∀ a' b', bothR old a b p true ≠ some (a', b', []) := fun x y hxy => by have := (hq x y).1 hxy; simp at this
        have e3 : (match bothR old a b p true with | some (a, b, []) => decide (a = old) && decide (b = root) | _ => false) = false := by
          split
          · rename_i x y hxy; exact absurd hxy (hno x y)
          · rfl
        rw [e3]
        refine vs ?_
        exact H.bel
      | true =>
        have hyes := (hq a' b').2 rfl
        rw [hyes]
        refine vs ?_
        refine x_callw (implSame_ok w4 va v _ _ hra (H.rd h)) ?_
        by_cases hA : a' = old
        · refine ve (eq_true hA) ?_
          refine x_callw (implSame_ok w4 vb u _ _ hrb (H.rd h')) (vs ?_)
          simp only [hA, decide_true, Bool.true_and]
          first | exact H.bel | exact ⟨rfl, H.bel⟩ | exact ⟨trivial, H.bel⟩
        · refine ve (eq_false hA) ?_
          simp only [hA, decide_false, Bool.false_and]
          first | exact H.bel | exact ⟨rfl, H.bel⟩ | exact ⟨trivial, H.bel⟩
    · refine ve h2 ?_
      try rw [if_neg (fun h => h2 h.2)]
      first | exact H.bel | exact ⟨rfl, H.bel⟩ | exact ⟨trivial, H.bel⟩
  · refine ve h1 ?_
    try rw [if_neg (fun h => h1 h.1)]
    first | exact H.bel | exact ⟨rfl, H.bel⟩ | exact ⟨trivial, H.bel⟩
end Go.Proofs.Ytlkplnioaiahhaa.V
