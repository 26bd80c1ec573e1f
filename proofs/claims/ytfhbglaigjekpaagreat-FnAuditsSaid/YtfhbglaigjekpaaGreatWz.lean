/- Leaves, nodes, roots and ways: both sides. -/
import Derived.Test.YtfhbglaigjekpaaGreatWy
namespace Go.Proofs.YtfhbglaigjekpaaGreat.V
open Go Go.RowKit
set_option maxRecDepth 100000
set_option maxHeartbeats 4000000
set_option linter.unusedSimpArgs false
set_option linter.unusedVariables false
set_option pp.deepTerms false
set_option pp.deepTerms.threshold 3

abbrev lists : Kd (List (List UInt8)) := Kd.slice 22 (bytes 5)
def leafOf (b : List UInt8) : List UInt8 := hash ([0] ++ b)
def nodeOf (a b : List UInt8) : List UInt8 := hash ([1] ++ a ++ b)
theorem leafOf_len (b : List UInt8) : (leafOf b).length ≤ 32 := hash_len _
theorem nodeOf_len (a b : List UInt8) : (nodeOf a b).length ≤ 32 := hash_len _
theorem implLeafOf_ok (w : World) (v : Value) (b : List UInt8) (h : (bytes 5).rd w w.heap.size [v] b) (hl : b.length ≤ 1099511627000) :
    ACalls Tryz.prog 47 #[v] w fun r w' => ∃ fp, Sep w.heap.size w w' [Ck.own (bytes 5) fp [r] (leafOf b)] := by
  have H := Sep.start w
  refine body_of follows Tryz.func47 rfl rfl _ rfl (by kernel_rfl) (vs ?_)
  refine x_lst H pl_u8 sl22 [0] (by simp) fun g1 w1 H => vs ?_
  refine x_lstR (d := bytes 5) H sl26 rfl [_, _] [[0], b] ⟨H.own (.head _), H.rd h, trivial⟩ fun g2 w2 H hr => vs ?_
  have e : [[0], b].flatten = [0] ++ b := by simp
  refine x_callf H (joined_ok w2 _ _ hr (by rw [e]; simp only [List.length_append, List.length_cons, List.length_nil]; omega)) fun r3 f3 w3 H => vs ?_
  rw [e] at H
  refine x_callf H (implHash_ok w3 _ _ (H.own (.head _))) fun r4 f4 w4 H => vs ?_
  exact ⟨_, H.head⟩
theorem specLeafOf_ok (w : World) (v : Value) (b : List UInt8) (h : (bytes 5).rd w w.heap.size [v] b) (hl : b.length ≤ 1099511627000) :
    ACalls Tryz.prog 186 #[v] w fun r w' => ∃ fp, Sep w.heap.size w w' [Ck.own (bytes 5) fp [r] (leafOf b)] := by
  have H := Sep.start w
  refine body_of follows Tryz.func186 rfl rfl _ rfl (by kernel_rfl) (vs ?_)
  refine x_lst H pl_u8 sl22 [0] (by simp) fun g1 w1 H => vs ?_
  refine x_app (l := [0]) H pl_u8 sl22 (H.rd h) ?_ ?_ fun f2 v2 w2 H => vs ?_
  · simp only [List.length_cons, List.length_nil]; omega
  · simp only [List.length_cons, List.length_nil]; omega
  refine x_callf H (specHash_ok w2 _ _ (H.own (.head _))) fun r4 f4 w4 H => vs ?_
  exact ⟨_, H.head⟩
theorem implNodeOf_ok (w : World) (v : Value) (a : List UInt8) (u : Value) (b : List UInt8) (h : (bytes 5).rd w w.heap.size [v] a) (h' : (bytes 5).rd w w.heap.size [u] b) (hl : a.length + b.length ≤ 1099511627000) :
    ACalls Tryz.prog 119 #[v, u] w fun r w' => ∃ fp, Sep w.heap.size w w' [Ck.own (bytes 5) fp [r] (nodeOf a b)] := by
  have H := Sep.start w
  refine body_of follows Tryz.func119 rfl rfl _ rfl (by kernel_rfl) (vs ?_)
  refine x_lst H pl_u8 sl22 [1] (by simp) fun g1 w1 H => vs ?_
  refine x_lstR (d := bytes 5) H sl26 rfl [_, _, _] [[1], a, b] ⟨H.own (.head _), H.rd h, H.rd h', trivial⟩ fun g2 w2 H hr => vs ?_
  have e : [[1], a, b].flatten = [1] ++ a ++ b := by simp
  refine x_callf H (joined_ok w2 _ _ hr (by rw [e]; simp only [List.length_append, List.length_cons, List.length_nil]; omega)) fun r3 f3 w3 H => vs ?_
  rw [e] at H
  refine x_callf H (implHash_ok w3 _ _ (H.own (.head _))) fun r4 f4 w4 H => vs ?_
  exact ⟨_, H.head⟩
theorem specNodeOf_ok (w : World) (v : Value) (a : List UInt8) (u : Value) (b : List UInt8) (h : (bytes 5).rd w w.heap.size [v] a) (h' : (bytes 5).rd w w.heap.size [u] b) (hl : a.length + b.length ≤ 1099511627000) :
    ACalls Tryz.prog 187 #[v, u] w fun r w' => ∃ fp, Sep w.heap.size w w' [Ck.own (bytes 5) fp [r] (nodeOf a b)] := by
  have H := Sep.start w
  refine body_of follows Tryz.func187 rfl rfl _ rfl (by kernel_rfl) (vs ?_)
  refine x_lst H pl_u8 sl22 [1] (by simp) fun g1 w1 H => vs ?_
  refine x_app (l := [1]) H pl_u8 sl22 (H.rd h) ?_ ?_ fun f2 v2 w2 H => vs ?_
  · simp only [List.length_cons, List.length_nil]; omega
  · simp only [List.length_cons, List.length_nil]; omega
  refine x_app (l := [1] ++ a) H pl_u8 sl22 (H.rd h') ?_ ?_ fun f3 v3 w3 H => vs ?_
  · simp only [List.length_append, List.length_cons, List.length_nil]; omega
  · simp only [List.length_append, List.length_cons, List.length_nil]; omega
  refine x_callf H (specHash_ok w3 _ _ (H.own (.head _))) fun r4 f4 w4 H => vs ?_
  exact ⟨_, H.head⟩

/-! ### the greatest power of two below -/
def first (n : Nat) : Nat := 2 ^ Nat.log2 (n - 1)
theorem first_eq {n e : Nat} (h : e = 0 ∨ 2 ^ e < n) (h2 : n ≤ 2 * 2 ^ e) : 2 ^ e = first n := by
  unfold first
  by_cases h1 : n ≤ 1
  · have he : e = 0 := by
      rcases h with h | h
      · exact h
      · have : 0 < 2 ^ e := Nat.pow_pos (by omega)
        omega
    have : n - 1 = 0 := by omega
    rw [he, this]; simp
  · have hle : 2 ^ e ≤ n - 1 := by
      rcases h with h | h
      · subst h; simp; omega
      · omega
    rw [(Nat.log2_eq_iff (by omega)).2 ⟨hle, by rw [Nat.pow_succ]; omega⟩]
theorem first_lt {n : Nat} (h : 2 ≤ n) : first n < n := by
  unfold first
  have := Nat.log2_self_le (n := n - 1) (by omega)
  omega
theorem first_pos (n : Nat) : 0 < first n := Nat.pow_pos (by omega)
theorem firstOf_ok (w : World) (n : Nat) (hn : n ≤ 1099511627776) : ACalls Tryz.prog 118 #[.int .i64 (n : Int)] w fun r w' => r = .int .i64 (first n : Int) ∧ w' = w := by
  refine body_of follows Tryz.func118 rfl rfl _ rfl (by kernel_rfl) (vs ?_)
  refine loop_at (σ := Nat) (fun e => [(0, .int .i64 (n : Int)), (3, .int .i64 ((2 ^ e : Nat) : Int))]) (fun e w' => (e = 0 ∨ 2 ^ e < n) ∧ w' = w) (fun e => n - 2 ^ e) 0 (vs ?_) ⟨.inl rfl, rfl⟩ ?_
  · rfl
  rintro e s w2 ⟨he, rfl⟩
  have hb : 2 ^ e ≤ 1099511627776 := by
    rcases he with h | h
    · subst h; decide
    · omega
  have hp : 0 < 2 ^ e := Nat.pow_pos (by omega)
  have e1 : w64 (2 * ((2 ^ e : Nat) : Int)) = ((2 ^ (e + 1) : Nat) : Int) := by rw [Nat.pow_succ]; unfold w64; omega
  have e2 : w64 (((2 ^ e : Nat) : Int) * 2) = ((2 ^ (e + 1) : Nat) : Int) := by rw [Nat.pow_succ]; unfold w64; omega
  refine ve (And.intro e1 e2) (ways ?_ ?_)
  · refine vh fun hlt => ?_
    have h2 : 2 ^ (e + 1) < n := by omega
    have h3 : 2 ^ e < 2 ^ (e + 1) := by rw [Nat.pow_succ]; omega
    exact ⟨e + 1, i64_eq e2, .inr h2, by omega⟩
  · refine vh fun hlt => ?_
    rw [first_eq he (by rw [Nat.pow_succ] at hlt; omega)]
theorem half_ok (w : World) (n : Nat) (hn : n ≤ 1099511627776) : ACalls Tryz.prog 168 #[.int .i64 (n : Int)] w fun r w' => r = .int .i64 (first n : Int) ∧ w' = w := by
  refine body_of follows Tryz.func168 rfl rfl _ rfl (by kernel_rfl) (vs ?_)
  refine loop_at (σ := Nat) (fun e => [(0, .int .i64 (n : Int)), (3, .int .i64 ((2 ^ e : Nat) : Int))]) (fun e w' => (e = 0 ∨ 2 ^ e < n) ∧ w' = w) (fun e => n - 2 ^ e) 0 (vs ?_) ⟨.inl rfl, rfl⟩ ?_
  · rfl
  rintro e s w2 ⟨he, rfl⟩
  have hb : 2 ^ e ≤ 1099511627776 := by
    rcases he with h | h
    · subst h; decide
    · omega
  have hp : 0 < 2 ^ e := Nat.pow_pos (by omega)
  have e1 : w64 (2 * ((2 ^ e : Nat) : Int)) = ((2 ^ (e + 1) : Nat) : Int) := by rw [Nat.pow_succ]; unfold w64; omega
  refine ve e1 (ways ?_ ?_)
  · refine vh fun hlt => ?_
    have h2 : 2 ^ (e + 1) < n := by omega
    have h3 : 2 ^ e < 2 ^ (e + 1) := by rw [Nat.pow_succ]; omega
    exact ⟨e + 1, i64_eq e1, .inr h2, by omega⟩
  · refine vh fun hlt => ?_
    rw [first_eq he (by rw [Nat.pow_succ] at hlt; omega)]

/-! ### roots -/
def rootOf (l : List (List UInt8)) : List UInt8 :=
  if 40 < l.length then [] else if l.length = 0 then hash [] else if l.length = 1 then leafOf (l.getD 0 []) else
    if h : 2 ≤ l.length then nodeOf (rootOf (l.take (first l.length))) (rootOf (l.drop (first l.length))) else []
termination_by l.length
decreasing_by
  · simp only [List.length_take]; have := first_lt h; omega
  · simp only [List.length_drop]; have := first_pos l.length; omega
theorem rootOf_more {l : List (List UInt8)} (h2 : 2 ≤ l.length) (h : l.length ≤ 40) : rootOf l = nodeOf (rootOf (l.take (first l.length))) (rootOf (l.drop (first l.length))) := by
  rw [rootOf, if_neg (by omega), if_neg (by omega), if_neg (by omega), dif_pos h2]
theorem rootOf_len (l : List (List UInt8)) : (rootOf l).length ≤ 32 := by
  rw [rootOf]
  split
  · simp
  · split
    · exact hash_len _
    · split
      · exact leafOf_len _
      · split
        · exact nodeOf_len _ _
        · simp
def Few (l : List (List UInt8)) : Prop := ∀ a ∈ l, a.length ≤ 1099511627000
theorem Few.take {l : List (List UInt8)} (h : Few l) (k : Nat) : Few (l.take k) := fun a ha => h a (List.mem_of_mem_take ha)
theorem Few.drop {l : List (List UInt8)} (h : Few l) (k : Nat) : Few (l.drop k) := fun a ha => h a (List.mem_of_mem_drop ha)
theorem rd_nil (w : World) (m : Nat) : (bytes 5).rd w m [.slice none 0 0] [] := Kd.own_rd _ (sl_zero w) (by simp)
theorem getD0 {l : List (List UInt8)} (h : 0 < l.length) : l[0] = l.getD 0 [] := by rw [List.getD_eq_getElem?_getD, List.getElem?_eq_getElem h, Option.getD_some]

theorem implRoot_ok : ∀ (n : Nat) (w : World) (v : Value) (l : List (List UInt8)) (_ : l.length ≤ n) (_ : lists.rd w w.heap.size [v] l) (_ : Few l),
    ACalls Tryz.prog 115 #[v] w fun r w' => ∃ fp, Sep w.heap.size w w' [Ck.own (bytes 5) fp [r] (rootOf l)] := by
  intro n
  induction n with
  | zero =>
    intro w v l hn h hf
    have hl0 : l = [] := List.eq_nil_of_length_eq_zero (by omega)
    subst hl0
    obtain ⟨A, c, rfl, hc1, hc2, ha⟩ := sl_open h
    refine body_of follows Tryz.func115 rfl rfl _ rfl (by kernel_rfl) ?_
    have e0 : ¬ ((40 : Int) < (([] : List (List UInt8)).length : Int)) := by simp
    have e1 : ((([] : List (List UInt8)).length : Int) = 0) = True := eq_true rfl
    refine ve (And.intro e0 e1) ?_
    refine x_callf (Sep.start w) (implHash_ok w _ [] (rd_nil w _)) fun r1 f1 w1 H => vs ?_
    have e : rootOf [] = hash [] := by rw [rootOf]; simp
    rw [e]
    exact ⟨_, H⟩
  | succ n ih =>
    intro w v l hn h hf
    have h0 := h
    obtain ⟨A, c, rfl, hc1, hc2, ha⟩ := sl_open h
    have H := Sep.start w
    refine body_of follows Tryz.func115 rfl rfl _ rfl (by kernel_rfl) ?_
    by_cases h40 : 40 < l.length
    · have e0 : ((40 : Int) < (l.length : Int)) := by omega
      refine ve e0 ?_
      have e : rootOf l = [] := by rw [rootOf, if_pos h40]
      rw [e]
      exact ⟨_, H.nothing (sl_zero w)⟩
    have e0 : ¬ ((40 : Int) < (l.length : Int)) := by omega
    by_cases hl0 : l.length = 0
    · have e1 : ((l.length : Int) = 0) = True := eq_true (by omega)
      refine ve (And.intro e0 e1) ?_
      refine x_callf H (implHash_ok w _ [] (rd_nil w _)) fun r1 f1 w1 H => vs ?_
      have e : rootOf l = hash [] := by rw [rootOf, if_neg h40, if_pos hl0]
      rw [e]
      exact ⟨_, H⟩
    have e1 : ((l.length : Int) = 0) = False := eq_false (by omega)
    by_cases hl1 : l.length = 1
    · have e2 : ((l.length : Int) = 1) = True := eq_true (by omega)
      refine ve (And.intro e0 (And.intro e1 e2)) ?_
      refine x_ele H sl26 rfl 0 (by omega) ha rfl fun ad es hb hr hc => vs ?_
      obtain ⟨u, rfl⟩ := sl_one hr
      refine x_ld1 sc22 hc rfl (vs ?_)
      refine x_callf H (implLeafOf_ok w u _ (H.rd hr) (hf _ (List.getElem_mem _))) fun r1 f1 w1 H => vs ?_
      have e : rootOf l = leafOf (l[0]'(by omega)) := by rw [rootOf, if_neg h40, if_neg hl0, if_pos hl1, getD0]
      rw [e]
      exact ⟨_, H⟩
    have e2 : ((l.length : Int) = 1) = False := eq_false (by omega)
    refine ve (And.intro e0 (And.intro e1 e2)) ?_
    refine x_callw (firstOf_ok w l.length (by omega)) (vs ?_)
    have hk := first_lt (n := l.length) (by omega)
    have hk0 := first_pos l.length
    rw [rootOf_more (by omega) (by omega)]
    generalize first l.length = k at *
    refine draw_of [(0, true), (1, true), (2, true), (4, true), (5, true), (6, true), (3, false), (7, false), (8, false), (9, true)] w.heap.size [] fun w3 hh hb3 => vs ?_
    have H := H.go (hb3 _)
    have H3 := H
    refine q_to (wr := w) sl26 rfl h0 (Nat.le_of_lt hk) fun v1 hv1 => vs ?_
    refine q_from (wr := w) sl26 rfl h0 (Nat.le_of_lt hk) fun v2 hv2 => vs ?_
    refine x_callf H (ih w3 v1 _ (by simp only [List.length_take]; omega) (H.rd hv1) (hf.take k)) fun r4 f4 w4 H => vs ?_
    refine ⟨kept_base H3 H, ?_⟩
    refine x_callf H (ih w4 v2 _ (by simp only [List.length_drop]; omega) (H.rd hv2) (hf.drop k)) fun r5 f5 w5 H => vs ?_
    refine ⟨kept_base H3 H, ?_⟩
    have g1 := rootOf_len (l.take k)
    have g2 := rootOf_len (l.drop k)
    refine x_callf H (implNodeOf_ok w5 _ _ _ _ (H.own (.tail _ (.head _))) (H.own (.head _)) (by omega)) fun r6 f6 w6 H => vs ?_
    exact ⟨kept_base H3 H, _, H.head⟩

theorem specRoot_ok : ∀ (n : Nat) (w : World) (v : Value) (l : List (List UInt8)) (_ : l.length ≤ n) (_ : lists.rd w w.heap.size [v] l) (_ : Few l),
    ACalls Tryz.prog 116 #[v] w fun r w' => ∃ fp, Sep w.heap.size w w' [Ck.own (bytes 5) fp [r] (rootOf l)] := by
  intro n
  induction n with
  | zero =>
    intro w v l hn h hf
    have hl0 : l = [] := List.eq_nil_of_length_eq_zero (by omega)
    subst hl0
    obtain ⟨A, c, rfl, hc1, hc2, ha⟩ := sl_open h
    refine body_of follows Tryz.func116 rfl rfl _ rfl (by kernel_rfl) ?_
    have e0 : ¬ ((40 : Int) < (([] : List (List UInt8)).length : Int)) := by simp
    have e1 : ((([] : List (List UInt8)).length : Int) = 0) = True := eq_true rfl
    refine ve (And.intro e0 e1) ?_
    refine x_callf (Sep.start w) (specHash_ok w _ [] (rd_nil w _)) fun r1 f1 w1 H => vs ?_
    have e : rootOf [] = hash [] := by rw [rootOf]; simp
    rw [e]
    exact ⟨_, H⟩
  | succ n ih =>
    intro w v l hn h hf
    have h0 := h
    obtain ⟨A, c, rfl, hc1, hc2, ha⟩ := sl_open h
    have H := Sep.start w
    refine body_of follows Tryz.func116 rfl rfl _ rfl (by kernel_rfl) ?_
    by_cases h40 : 40 < l.length
    · have e0 : ((40 : Int) < (l.length : Int)) := by omega
      refine ve e0 ?_
      have e : rootOf l = [] := by rw [rootOf, if_pos h40]
      rw [e]
      refine x_emp H pl_u8 sl22 fun g w1 H => vs ?_
      exact ⟨_, H⟩
    have e0 : ¬ ((40 : Int) < (l.length : Int)) := by omega
    by_cases hl0 : l.length = 0
    · have e1 : ((l.length : Int) = 0) = True := eq_true (by omega)
      refine ve (And.intro e0 e1) ?_
      refine x_callf H (specHash_ok w _ [] (rd_nil w _)) fun r1 f1 w1 H => vs ?_
      have e : rootOf l = hash [] := by rw [rootOf, if_neg h40, if_pos hl0]
      rw [e]
      exact ⟨_, H⟩
    have e1 : ((l.length : Int) = 0) = False := eq_false (by omega)
    by_cases hl1 : l.length = 1
    · have e2 : ((l.length : Int) = 1) = True := eq_true (by omega)
      refine ve (And.intro e0 (And.intro e1 e2)) ?_
      refine x_ele H sl26 rfl 0 (by omega) ha rfl fun ad es hb hr hc => vs ?_
      obtain ⟨u, rfl⟩ := sl_one hr
      refine x_ld1 sc22 hc rfl (vs ?_)
      refine x_callf H (specLeafOf_ok w u _ (H.rd hr) (hf _ (List.getElem_mem _))) fun r1 f1 w1 H => vs ?_
      have e : rootOf l = leafOf (l[0]'(by omega)) := by rw [rootOf, if_neg h40, if_neg hl0, if_pos hl1, getD0]
      rw [e]
      exact ⟨_, H⟩
    have e2 : ((l.length : Int) = 1) = False := eq_false (by omega)
    refine ve (And.intro e0 (And.intro e1 e2)) ?_
    refine x_callw (half_ok w l.length (by omega)) (vs ?_)
    have hk := first_lt (n := l.length) (by omega)
    have hk0 := first_pos l.length
    rw [rootOf_more (by omega) (by omega)]
    generalize first l.length = k at *
    refine draw_of [(0, true), (1, true), (2, true), (4, true), (5, true), (6, true), (3, false), (7, false), (8, false), (9, true)] w.heap.size [] fun w3 hh hb3 => vs ?_
    have H := H.go (hb3 _)
    have H3 := H
    refine q_to (wr := w) sl26 rfl h0 (Nat.le_of_lt hk) fun v1 hv1 => vs ?_
    refine q_from (wr := w) sl26 rfl h0 (Nat.le_of_lt hk) fun v2 hv2 => vs ?_
    refine x_callf H (ih w3 v1 _ (by simp only [List.length_take]; omega) (H.rd hv1) (hf.take k)) fun r4 f4 w4 H => vs ?_
    refine ⟨kept_base H3 H, ?_⟩
    refine x_callf H (ih w4 v2 _ (by simp only [List.length_drop]; omega) (H.rd hv2) (hf.drop k)) fun r5 f5 w5 H => vs ?_
    refine ⟨kept_base H3 H, ?_⟩
    have g1 := rootOf_len (l.take k)
    have g2 := rootOf_len (l.drop k)
    refine x_callf H (specNodeOf_ok w5 _ _ _ _ (H.own (.tail _ (.head _))) (H.own (.head _)) (by omega)) fun r6 f6 w6 H => vs ?_
    exact ⟨kept_base H3 H, _, H.head⟩
end Go.Proofs.YtfhbglaigjekpaaGreat.V
