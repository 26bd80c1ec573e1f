/- A world as text: both sides. Laid by a program. -/
import Derived.Test.YticlmbnchldbfaaDoorWq
import Derived.Test.YticlmbnchldbfaaDoorVq
import Derived.Test.YticlmbnchldbfaaDoorVh
namespace Go.Proofs.YticlmbnchldbfaaDoor.V
open Go Go.RowKit
set_option maxRecDepth 100000
set_option maxHeartbeats 4000000
set_option linter.unusedSimpArgs false
set_option linter.unusedVariables false
set_option pp.deepTerms false
set_option pp.deepTerms.threshold 3

def numsText (x : MWorld) : List UInt8 := [116, 105, 109, 101, 32] ++ Lib.itoa x.f_Post.f_Time ++ [32, 115, 101, 110, 116, 32] ++ Lib.itoa x.f_Count ++ [32, 107, 110, 111, 119, 110, 32] ++ Lib.itoa x.f_Known ++ [32, 101, 112, 111, 99, 104, 32] ++ Lib.itoa x.f_Reader.f_Epoch ++ [32, 103, 111, 116, 32] ++ Lib.itoa (x.f_Reader.f_Got.length : Int) ++ [10]
def qText (q : List MItem) : List UInt8 := (q.map fun y => itemText y ++ [10]).flatten
def gText (l : List (List UInt8)) : List UInt8 := (l.map fun y => y ++ [10]).flatten
theorem qText_succ {q : List MItem} {k : Nat} (h : k < q.length) : qText (q.take (k + 1)) = qText (q.take k) ++ (itemText q[k] ++ [10]) := by
  unfold qText; rw [List.take_succ_eq_append_getElem h, List.map_append, List.flatten_append]; simp
theorem gText_succ {q : List (List UInt8)} {k : Nat} (h : k < q.length) : gText (q.take (k + 1)) = gText (q.take k) ++ (q[k] ++ [10]) := by
  unfold gText; rw [List.take_succ_eq_append_getElem h, List.map_append, List.flatten_append]; simp
def worldText (x : MWorld) : List UInt8 := numsText x ++ qText x.f_Post.f_Queue ++ gText x.f_Reader.f_Got
theorem wflat_len {α : Type} (f : α → List UInt8) (m : Nat) : ∀ (l : List α), (∀ y ∈ l, (f y).length ≤ m) → (l.map f).flatten.length ≤ l.length * m
  | [], _ => by simp
  | a :: l, h => by
    have h1 := h a (List.mem_cons_self ..)
    have h2 := wflat_len f m l fun y hy => h y (List.mem_cons_of_mem _ hy)
    simp only [List.map_cons, List.flatten_cons, List.length_append, List.length_cons, Nat.add_mul, Nat.one_mul]; omega
theorem itemText_len {x : MItem} (hs : smItem x) (h1 : -9223372036854775808 ≤ x.f_Topic ∧ x.f_Topic < 9223372036854775808) (h2 : -9223372036854775808 ≤ x.f_Due ∧ x.f_Due < 9223372036854775808) : (itemText x).length ≤ 1048700 := by
  have l1 := itoa_len h1
  have l2 := itoa_len h2
  unfold smItem at hs
  have l3 := itoa_len (n := (x.f_Bytes.length : Int)) (by omega)
  unfold itemText
  simp only [List.length_append, List.length_cons, List.length_nil]; omega
theorem w64_up {k n : Nat} (h : k < n) (hn : n ≤ 1048576) : w64 ((k : Int) + 1) = ((k + 1 : Nat) : Int) := by unfold w64; omega
theorem sadd_lo {a b m n : Nat} (h1 : a ≤ m) (h2 : b ≤ n) (h : m + n ≤ 9223372036854775807) : a + b ≤ 9223372036854775807 := by omega
theorem implWorldText_ok (w : World) (cs : List Value) (x : MWorld) (h : kWorld.rd w w.heap.size cs x) (hs : smWorld x) (ht : Tab w) :
    ACalls Tryd.prog 8 #[.agg cs.toArray] w fun r w' => r = .string ⟨(worldText x).toArray⟩ ∧ Below w.heap.size w w' := by
  unfold smWorld at hs
  have hsq : smItemS x.f_Post.f_Queue := by have := hs.2.1; unfold smPost at this; exact this.1
  have hsg : smByteSS x.f_Reader.f_Got := by have := hs.2.2.1; unfold smReader at this; exact this.2.2
  obtain ⟨v0, v3, v5, v7, v9, v10, v11, v12, rfl, h0, hC, hK, hP, hR, hN, hS⟩ := kWorld_open h
  obtain ⟨_, _, eP, hq0, hT, _, _⟩ := kPost_open hP
  obtain ⟨_, _, _, eR, _, hE, _, hg0⟩ := kReader_open hR
  simp only [List.cons.injEq, and_true, true_and] at eP eR
  obtain ⟨rfl, rfl⟩ := eP
  obtain ⟨rfl, rfl, rfl⟩ := eR
  obtain ⟨A3, c3, rfl, _, _, hqa⟩ := sl_open hq0
  obtain ⟨A10, c10, rfl, _, _, hga⟩ := sl_open hg0
  have hqr : ∀ y ∈ x.f_Post.f_Queue, (-9223372036854775808 ≤ y.f_Topic ∧ y.f_Topic < 9223372036854775808) ∧ (-9223372036854775808 ≤ y.f_Due ∧ y.f_Due < 9223372036854775808) := fun y hy => by
    obtain ⟨i, hi, rfl⟩ := List.getElem_of_mem hy
    obtain ⟨_, _, es, he, _⟩ := hqa i hi
    obtain ⟨_, _, _, r1, r2, _⟩ := kItem_open he
    exact ⟨r1, r2⟩
  have l1 := itoa_len hT
  have l2 := itoa_len hC
  have l3 := itoa_len hK
  have l4 := itoa_len hE
  have l5 := itoa_len (n := (x.f_Reader.f_Got.length : Int)) (by have := hsg.1; omega)
  have hn : (numsText x).length ≤ 200 := by unfold numsText; simp only [List.length_append, List.length_cons, List.length_nil]; omega
  have hq : ∀ k, (qText (x.f_Post.f_Queue.take k)).length ≤ 1100585369600 := fun k => by
    have h1 := wflat_len (fun y => itemText y ++ [10]) 1048701 (x.f_Post.f_Queue.take k) fun y hy => by
      have hy := List.mem_of_mem_take hy
      have := itemText_len (hsq.2 y hy) (hqr y hy).1 (hqr y hy).2
      simp only [List.length_append, List.length_cons, List.length_nil]; omega
    have h2 : (x.f_Post.f_Queue.take k).length ≤ 1048576 := by rw [List.length_take]; have := hsq.1; omega
    have h3 := Nat.mul_le_mul_right 1048701 h2
    unfold qText; omega
  have hg : ∀ k, (gText (x.f_Reader.f_Got.take k)).length ≤ 1100585369600 := fun k => by
    have h1 := wflat_len (fun y => y ++ [10]) 1048701 (x.f_Reader.f_Got.take k) fun y hy => by
      have hy := List.mem_of_mem_take hy
      have := hsg.2 y hy
      simp only [List.length_append, List.length_cons, List.length_nil]; omega
    have h2 : (x.f_Reader.f_Got.take k).length ≤ 1048576 := by rw [List.length_take]; have := hsg.1; omega
    have h3 := Nat.mul_le_mul_right 1048701 h2
    unfold gText; omega
  have H := Sep.start w
  refine body_of follows Tryd.func8 rfl rfl _ rfl (by kernel_rfl) (vs ?_)
  refine x_bx H [v0, .int .i64 x.f_Count, .int .i64 x.f_Known, .slice A3 x.f_Post.f_Queue.length c3, .int .i64 x.f_Post.f_Time, v5, .int .i64 x.f_Post.f_Sure, v7, .int .i64 x.f_Reader.f_Epoch, v9, .slice A10 x.f_Reader.f_Got.length c10, v11, v12] fun g1 w1 H => vs ?_
  have ht1 := ht.below H.bel
  have J := Sep.start w1
  refine draw_of [(0, true), (1, true), (2, true), (6, true), (7, true), (11, true), (12, true), (16, true), (17, true), (18, true), (22, true), (23, true), (24, true), (25, true), (3, false), (4, true), (5, true), (8, false), (9, true), (10, true), (13, false), (14, true), (15, true), (19, false), (20, true), (21, true), (26, false), (27, true), (28, true), (29, true)] w1.heap.size [] fun w2 hh hb2 => vs ?_
  have J := J.go (hb2 _)
  have J3 := J
  refine q_ldB H J3 sc3 ?_
  refine vs ?_
  refine q_ldB H J3 sc3 ?_
  refine vs ?_
  refine q_ldB H J3 sc3 ?_
  refine vs ?_
  refine q_ldB H J3 sc3 ?_
  refine vs ?_
  refine q_ldB H J3 sc26 ?_
  refine vs ?_
  refine x_callb J (implDigits_ok _ x.f_Post.f_Time hT (ht1.below J.bel)) fun w3 J => vs ?_
  refine ⟨kept_base J3 J, ?_⟩
  refine qx_sadd (a := [116, 105, 109, 101, 32]) (b := Lib.itoa x.f_Post.f_Time) (by simp only [List.length_append, List.length_cons, List.length_nil]; omega) ?_
  refine vs ?_
  refine qx_sadd (a := [116, 105, 109, 101, 32] ++ Lib.itoa x.f_Post.f_Time) (b := [32, 115, 101, 110, 116, 32]) (by simp only [List.length_append, List.length_cons, List.length_nil]; omega) ?_
  refine vs ?_
  refine x_callb J (implDigits_ok _ x.f_Count hC (ht1.below J.bel)) fun w4 J => vs ?_
  refine ⟨kept_base J3 J, ?_⟩
  refine qx_sadd (a := [116, 105, 109, 101, 32] ++ Lib.itoa x.f_Post.f_Time ++ [32, 115, 101, 110, 116, 32]) (b := Lib.itoa x.f_Count) (by simp only [List.length_append, List.length_cons, List.length_nil]; omega) ?_
  refine vs ?_
  refine qx_sadd (a := [116, 105, 109, 101, 32] ++ Lib.itoa x.f_Post.f_Time ++ [32, 115, 101, 110, 116, 32] ++ Lib.itoa x.f_Count) (b := [32, 107, 110, 111, 119, 110, 32]) (by simp only [List.length_append, List.length_cons, List.length_nil]; omega) ?_
  refine vs ?_
  refine x_callb J (implDigits_ok _ x.f_Known hK (ht1.below J.bel)) fun w5 J => vs ?_
  refine ⟨kept_base J3 J, ?_⟩
  refine qx_sadd (a := [116, 105, 109, 101, 32] ++ Lib.itoa x.f_Post.f_Time ++ [32, 115, 101, 110, 116, 32] ++ Lib.itoa x.f_Count ++ [32, 107, 110, 111, 119, 110, 32]) (b := Lib.itoa x.f_Known) (by simp only [List.length_append, List.length_cons, List.length_nil]; omega) ?_
  refine vs ?_
  refine qx_sadd (a := [116, 105, 109, 101, 32] ++ Lib.itoa x.f_Post.f_Time ++ [32, 115, 101, 110, 116, 32] ++ Lib.itoa x.f_Count ++ [32, 107, 110, 111, 119, 110, 32] ++ Lib.itoa x.f_Known) (b := [32, 101, 112, 111, 99, 104, 32]) (by simp only [List.length_append, List.length_cons, List.length_nil]; omega) ?_
  refine vs ?_
  refine x_callb J (implDigits_ok _ x.f_Reader.f_Epoch hE (ht1.below J.bel)) fun w6 J => vs ?_
  refine ⟨kept_base J3 J, ?_⟩
  refine qx_sadd (a := [116, 105, 109, 101, 32] ++ Lib.itoa x.f_Post.f_Time ++ [32, 115, 101, 110, 116, 32] ++ Lib.itoa x.f_Count ++ [32, 107, 110, 111, 119, 110, 32] ++ Lib.itoa x.f_Known ++ [32, 101, 112, 111, 99, 104, 32]) (b := Lib.itoa x.f_Reader.f_Epoch) (by simp only [List.length_append, List.length_cons, List.length_nil]; omega) ?_
  refine vs ?_
  refine qx_sadd (a := [116, 105, 109, 101, 32] ++ Lib.itoa x.f_Post.f_Time ++ [32, 115, 101, 110, 116, 32] ++ Lib.itoa x.f_Count ++ [32, 107, 110, 111, 119, 110, 32] ++ Lib.itoa x.f_Known ++ [32, 101, 112, 111, 99, 104, 32] ++ Lib.itoa x.f_Reader.f_Epoch) (b := [32, 103, 111, 116, 32]) (by simp only [List.length_append, List.length_cons, List.length_nil]; omega) ?_
  refine vs ?_
  refine x_callb J (implDigits_ok _ (x.f_Reader.f_Got.length : Int) (by have := hsg.1; omega) (ht1.below J.bel)) fun w7 J => vs ?_
  refine ⟨kept_base J3 J, ?_⟩
  refine qx_sadd (a := [116, 105, 109, 101, 32] ++ Lib.itoa x.f_Post.f_Time ++ [32, 115, 101, 110, 116, 32] ++ Lib.itoa x.f_Count ++ [32, 107, 110, 111, 119, 110, 32] ++ Lib.itoa x.f_Known ++ [32, 101, 112, 111, 99, 104, 32] ++ Lib.itoa x.f_Reader.f_Epoch ++ [32, 103, 111, 116, 32]) (b := Lib.itoa (x.f_Reader.f_Got.length : Int)) (by simp only [List.length_append, List.length_cons, List.length_nil]; omega) ?_
  refine vs ?_
  refine qx_sadd (a := [116, 105, 109, 101, 32] ++ Lib.itoa x.f_Post.f_Time ++ [32, 115, 101, 110, 116, 32] ++ Lib.itoa x.f_Count ++ [32, 107, 110, 111, 119, 110, 32] ++ Lib.itoa x.f_Known ++ [32, 101, 112, 111, 99, 104, 32] ++ Lib.itoa x.f_Reader.f_Epoch ++ [32, 103, 111, 116, 32] ++ Lib.itoa (x.f_Reader.f_Got.length : Int)) (b := [10]) (by simp only [List.length_append, List.length_cons, List.length_nil]; omega) ?_
  rw [show [116, 105, 109, 101, 32] ++ Lib.itoa x.f_Post.f_Time ++ [32, 115, 101, 110, 116, 32] ++ Lib.itoa x.f_Count ++ [32, 107, 110, 111, 119, 110, 32] ++ Lib.itoa x.f_Known ++ [32, 101, 112, 111, 99, 104, 32] ++ Lib.itoa x.f_Reader.f_Epoch ++ [32, 103, 111, 116, 32] ++ Lib.itoa (x.f_Reader.f_Got.length : Int) ++ [10] = numsText x from rfl]
  refine vs ?_
  have H := H.join J
  simp only [List.nil_append] at H
  refine x_ld H sc35 ?_
  refine vs ?_
  refine loop_at (σ := Nat × List UInt8) (fun y => [(1, .pointer (some ⟨g1, 0, none⟩)), (3, .string ⟨y.2.toArray⟩), (39, .slice A3 x.f_Post.f_Queue.length c3), (40, .int .i64 (x.f_Post.f_Queue.length : Int)), (41, .int .i64 (y.1 : Int))])
    (fun y w' => y.1 ≤ x.f_Post.f_Queue.length ∧ y.2 = numsText x ++ qText (x.f_Post.f_Queue.take y.1) ∧ Sep w.heap.size w w' [Ck.box g1 [v0, .int .i64 x.f_Count, .int .i64 x.f_Known, .slice A3 x.f_Post.f_Queue.length c3, .int .i64 x.f_Post.f_Time, v5, .int .i64 x.f_Post.f_Sure, v7, .int .i64 x.f_Reader.f_Epoch, v9, .slice A10 x.f_Reader.f_Got.length c10, v11, v12] 42]) (fun y => x.f_Post.f_Queue.length - y.1) (0, numsText x) (vs trivial) ⟨Nat.zero_le _, by rw [List.take_zero, show qText [] = [] from rfl, List.append_nil], H⟩ ?_
  rintro ⟨k, out⟩ s w8 ⟨hk, ho, H⟩
  dsimp only at hk ho H
  subst ho
  refine vs (ways ?_ ?_)
  · refine vh fun hlt => ?_
    have hk2 : k < x.f_Post.f_Queue.length := by omega
    refine x_ele H sl35 rfl k hk2 hqa rfl fun ad es hb1 hr hc => vs ?_
    have hr : kItem.rd w w.heap.size es x.f_Post.f_Queue[k] := hr
    have hr2 := hr
    obtain ⟨u, rfl, _, _, _, _⟩ := kItem_open hr2
    refine x_lds st63 hc (Kd.len _ hr) (vs ?_)
    refine x_al H st63 fun g5 w9 H => vs ?_
    refine x_sta H st63 (vs := [.string ⟨x.f_Post.f_Queue[k].f_Route.toArray⟩, .int .i64 x.f_Post.f_Queue[k].f_Topic, .int .i64 x.f_Post.f_Queue[k].f_Due, u]) (h1 := Kd.one _ hr) fun w10 H => vs ?_
    refine x_lda H st63 ?_
    refine vs ?_
    refine x_callb H (implItemText_ok _ _ _ (H.rd hr) (hsq.2 _ (List.getElem_mem hk2)) (ht.below H.bel)) fun w11 H => vs ?_
    have hi := itemText_len (hsq.2 _ (List.getElem_mem hk2)) (hqr _ (List.getElem_mem hk2)).1 (hqr _ (List.getElem_mem hk2)).2
    have hqk := hq k
    refine x_sadd (a := itemText x.f_Post.f_Queue[k]) (b := [10]) (by simp only [List.length_cons, List.length_nil]; omega) ?_
    refine vs ?_
    refine x_sadd (a := numsText x ++ qText (x.f_Post.f_Queue.take k)) (b := itemText x.f_Post.f_Queue[k] ++ [10]) (by simp only [List.length_append, List.length_cons, List.length_nil]; omega) ?_
    refine vs ?_
    refine ⟨(k + 1, _), ⟨rfl, i64_eq (w64_up hk2 hsq.1)⟩, ⟨hk2, ?_, H.tail⟩, by dsimp only; omega⟩
    rw [qText_succ hk2, List.append_assoc (numsText x)]
  · refine vh fun hlt => ?_
    obtain rfl : k = x.f_Post.f_Queue.length := by omega
    rw [List.take_length]
    have hqt := hq x.f_Post.f_Queue.length
    rw [List.take_length] at hqt
    refine x_ld H sc26 ?_
    refine vs ?_
    refine loop_at (σ := Nat × List UInt8) (fun y => [(1, .pointer (some ⟨g1, 0, none⟩)), (3, .string ⟨y.2.toArray⟩), (53, .slice A10 x.f_Reader.f_Got.length c10), (54, .int .i64 (x.f_Reader.f_Got.length : Int)), (55, .int .i64 (y.1 : Int))])
      (fun y w' => y.1 ≤ x.f_Reader.f_Got.length ∧ y.2 = numsText x ++ qText x.f_Post.f_Queue ++ gText (x.f_Reader.f_Got.take y.1) ∧ Sep w.heap.size w w' [Ck.box g1 [v0, .int .i64 x.f_Count, .int .i64 x.f_Known, .slice A3 x.f_Post.f_Queue.length c3, .int .i64 x.f_Post.f_Time, v5, .int .i64 x.f_Post.f_Sure, v7, .int .i64 x.f_Reader.f_Epoch, v9, .slice A10 x.f_Reader.f_Got.length c10, v11, v12] 42]) (fun y => x.f_Reader.f_Got.length - y.1) (0, numsText x ++ qText x.f_Post.f_Queue) (vs trivial) ⟨Nat.zero_le _, by rw [List.take_zero, show gText [] = [] from rfl, List.append_nil], H⟩ ?_
    rintro ⟨k, out⟩ s w12 ⟨hk, ho, H⟩
    dsimp only at hk ho H
    subst ho
    refine vs (ways ?_ ?_)
    · refine vh fun hlt => ?_
      have hk2 : k < x.f_Reader.f_Got.length := by omega
      refine x_ele H sl26 rfl k hk2 hga rfl fun ad es hb1 hr hc => vs ?_
      have hr : (bytes 5).rd w w.heap.size es x.f_Reader.f_Got[k] := hr
      have hr2 := hr
      obtain ⟨u, rfl⟩ : ∃ u, es = [u] := by
        have := Kd.len _ hr
        match es, this with
        | [u], _ => exact ⟨u, rfl⟩
      obtain ⟨Au, cu, rfl, _⟩ := sl_open hr
      refine x_load sc22 (hc 0 (by decide)) (vs ?_)
      refine x_str Tryd.underlying22 Tryd.underlying5 Tryd.underlying9 (H.rd hr2) (vs ?_)
      have hi := hsg.2 _ (List.getElem_mem hk2)
      have hgk := hg k
      refine x_sadd (a := x.f_Reader.f_Got[k]) (b := [10]) (by simp only [List.length_cons, List.length_nil]; omega) ?_
      refine vs ?_
      refine x_sadd (a := numsText x ++ qText x.f_Post.f_Queue ++ gText (x.f_Reader.f_Got.take k)) (b := x.f_Reader.f_Got[k] ++ [10]) (by simp only [List.length_append, List.length_cons, List.length_nil]; omega) ?_
      refine vs ?_
      refine ⟨(k + 1, _), ⟨rfl, i64_eq (w64_up hk2 hsg.1)⟩, ⟨hk2, ?_, H⟩, by dsimp only; omega⟩
      rw [gText_succ hk2, List.append_assoc (numsText x ++ qText x.f_Post.f_Queue)]
    · refine vh fun hlt => ?_
      obtain rfl : k = x.f_Reader.f_Got.length := by omega
      rw [List.take_length]
      exact ⟨rfl, H.bel⟩
theorem specWorldText_ok (w : World) (cs : List Value) (x : MWorld) (h : kWorld.rd w w.heap.size cs x) (hs : smWorld x) (ht : Tab w) :
    ACalls Tryd.prog 6 #[.agg cs.toArray] w fun r w' => r = .string ⟨(worldText x).toArray⟩ ∧ Below w.heap.size w w' := by
  unfold smWorld at hs
  have hsq : smItemS x.f_Post.f_Queue := by have := hs.2.1; unfold smPost at this; exact this.1
  have hsg : smByteSS x.f_Reader.f_Got := by have := hs.2.2.1; unfold smReader at this; exact this.2.2
  obtain ⟨v0, v3, v5, v7, v9, v10, v11, v12, rfl, h0, hC, hK, hP, hR, hN, hS⟩ := kWorld_open h
  obtain ⟨_, _, eP, hq0, hT, _, _⟩ := kPost_open hP
  obtain ⟨_, _, _, eR, _, hE, _, hg0⟩ := kReader_open hR
  simp only [List.cons.injEq, and_true, true_and] at eP eR
  obtain ⟨rfl, rfl⟩ := eP
  obtain ⟨rfl, rfl, rfl⟩ := eR
  obtain ⟨A3, c3, rfl, _, _, hqa⟩ := sl_open hq0
  obtain ⟨A10, c10, rfl, _, _, hga⟩ := sl_open hg0
  have hqr : ∀ y ∈ x.f_Post.f_Queue, (-9223372036854775808 ≤ y.f_Topic ∧ y.f_Topic < 9223372036854775808) ∧ (-9223372036854775808 ≤ y.f_Due ∧ y.f_Due < 9223372036854775808) := fun y hy => by
    obtain ⟨i, hi, rfl⟩ := List.getElem_of_mem hy
    obtain ⟨_, _, es, he, _⟩ := hqa i hi
    obtain ⟨_, _, _, r1, r2, _⟩ := kItem_open he
    exact ⟨r1, r2⟩
  have l1 := itoa_len hT
  have l2 := itoa_len hC
  have l3 := itoa_len hK
  have l4 := itoa_len hE
  have l5 := itoa_len (n := (x.f_Reader.f_Got.length : Int)) (by have := hsg.1; omega)
  have hn : (numsText x).length ≤ 200 := by unfold numsText; simp only [List.length_append, List.length_cons, List.length_nil]; omega
  have hq : ∀ k, (qText (x.f_Post.f_Queue.take k)).length ≤ 1100585369600 := fun k => by
    have h1 := wflat_len (fun y => itemText y ++ [10]) 1048701 (x.f_Post.f_Queue.take k) fun y hy => by
      have hy := List.mem_of_mem_take hy
      have := itemText_len (hsq.2 y hy) (hqr y hy).1 (hqr y hy).2
      simp only [List.length_append, List.length_cons, List.length_nil]; omega
    have h2 : (x.f_Post.f_Queue.take k).length ≤ 1048576 := by rw [List.length_take]; have := hsq.1; omega
    have h3 := Nat.mul_le_mul_right 1048701 h2
    unfold qText; omega
  have hg : ∀ k, (gText (x.f_Reader.f_Got.take k)).length ≤ 1100585369600 := fun k => by
    have h1 := wflat_len (fun y => y ++ [10]) 1048701 (x.f_Reader.f_Got.take k) fun y hy => by
      have hy := List.mem_of_mem_take hy
      have := hsg.2 y hy
      simp only [List.length_append, List.length_cons, List.length_nil]; omega
    have h2 : (x.f_Reader.f_Got.take k).length ≤ 1048576 := by rw [List.length_take]; have := hsg.1; omega
    have h3 := Nat.mul_le_mul_right 1048701 h2
    unfold gText; omega
  have H := Sep.start w
  refine body_of follows Tryd.func6 rfl rfl _ rfl (by kernel_rfl) (vs ?_)
  refine x_bx H [v0, .int .i64 x.f_Count, .int .i64 x.f_Known, .slice A3 x.f_Post.f_Queue.length c3, .int .i64 x.f_Post.f_Time, v5, .int .i64 x.f_Post.f_Sure, v7, .int .i64 x.f_Reader.f_Epoch, v9, .slice A10 x.f_Reader.f_Got.length c10, v11, v12] fun g1 w1 H => vs ?_
  have ht1 := ht.below H.bel
  have J := Sep.start w1
  refine draw_of [(0, true), (1, true), (2, true), (6, true), (7, true), (11, true), (12, true), (16, true), (17, true), (18, true), (22, true), (23, true), (24, true), (25, true), (3, false), (4, true), (5, true), (8, false), (9, true), (10, true), (13, false), (14, true), (15, true), (19, false), (20, true), (21, true), (26, false), (27, true), (28, true), (29, true)] w1.heap.size [] fun w2 hh hb2 => vs ?_
  have J := J.go (hb2 _)
  have J3 := J
  refine q_ldB H J3 sc3 ?_
  refine vs ?_
  refine q_ldB H J3 sc3 ?_
  refine vs ?_
  refine q_ldB H J3 sc3 ?_
  refine vs ?_
  refine q_ldB H J3 sc3 ?_
  refine vs ?_
  refine q_ldB H J3 sc26 ?_
  refine vs ?_
  refine x_callb J (specDigits_ok _ x.f_Post.f_Time hT) fun w3 J => vs ?_
  refine ⟨kept_base J3 J, ?_⟩
  refine qx_sadd (a := [116, 105, 109, 101, 32]) (b := Lib.itoa x.f_Post.f_Time) (by simp only [List.length_append, List.length_cons, List.length_nil]; omega) ?_
  refine vs ?_
  refine qx_sadd (a := [116, 105, 109, 101, 32] ++ Lib.itoa x.f_Post.f_Time) (b := [32, 115, 101, 110, 116, 32]) (by simp only [List.length_append, List.length_cons, List.length_nil]; omega) ?_
  refine vs ?_
  refine x_callb J (specDigits_ok _ x.f_Count hC) fun w4 J => vs ?_
  refine ⟨kept_base J3 J, ?_⟩
  refine qx_sadd (a := [116, 105, 109, 101, 32] ++ Lib.itoa x.f_Post.f_Time ++ [32, 115, 101, 110, 116, 32]) (b := Lib.itoa x.f_Count) (by simp only [List.length_append, List.length_cons, List.length_nil]; omega) ?_
  refine vs ?_
  refine qx_sadd (a := [116, 105, 109, 101, 32] ++ Lib.itoa x.f_Post.f_Time ++ [32, 115, 101, 110, 116, 32] ++ Lib.itoa x.f_Count) (b := [32, 107, 110, 111, 119, 110, 32]) (by simp only [List.length_append, List.length_cons, List.length_nil]; omega) ?_
  refine vs ?_
  refine x_callb J (specDigits_ok _ x.f_Known hK) fun w5 J => vs ?_
  refine ⟨kept_base J3 J, ?_⟩
  refine qx_sadd (a := [116, 105, 109, 101, 32] ++ Lib.itoa x.f_Post.f_Time ++ [32, 115, 101, 110, 116, 32] ++ Lib.itoa x.f_Count ++ [32, 107, 110, 111, 119, 110, 32]) (b := Lib.itoa x.f_Known) (by simp only [List.length_append, List.length_cons, List.length_nil]; omega) ?_
  refine vs ?_
  refine qx_sadd (a := [116, 105, 109, 101, 32] ++ Lib.itoa x.f_Post.f_Time ++ [32, 115, 101, 110, 116, 32] ++ Lib.itoa x.f_Count ++ [32, 107, 110, 111, 119, 110, 32] ++ Lib.itoa x.f_Known) (b := [32, 101, 112, 111, 99, 104, 32]) (by simp only [List.length_append, List.length_cons, List.length_nil]; omega) ?_
  refine vs ?_
  refine x_callb J (specDigits_ok _ x.f_Reader.f_Epoch hE) fun w6 J => vs ?_
  refine ⟨kept_base J3 J, ?_⟩
  refine qx_sadd (a := [116, 105, 109, 101, 32] ++ Lib.itoa x.f_Post.f_Time ++ [32, 115, 101, 110, 116, 32] ++ Lib.itoa x.f_Count ++ [32, 107, 110, 111, 119, 110, 32] ++ Lib.itoa x.f_Known ++ [32, 101, 112, 111, 99, 104, 32]) (b := Lib.itoa x.f_Reader.f_Epoch) (by simp only [List.length_append, List.length_cons, List.length_nil]; omega) ?_
  refine vs ?_
  refine qx_sadd (a := [116, 105, 109, 101, 32] ++ Lib.itoa x.f_Post.f_Time ++ [32, 115, 101, 110, 116, 32] ++ Lib.itoa x.f_Count ++ [32, 107, 110, 111, 119, 110, 32] ++ Lib.itoa x.f_Known ++ [32, 101, 112, 111, 99, 104, 32] ++ Lib.itoa x.f_Reader.f_Epoch) (b := [32, 103, 111, 116, 32]) (by simp only [List.length_append, List.length_cons, List.length_nil]; omega) ?_
  refine vs ?_
  refine x_callb J (specDigits_ok _ (x.f_Reader.f_Got.length : Int) (by have := hsg.1; omega)) fun w7 J => vs ?_
  refine ⟨kept_base J3 J, ?_⟩
  refine qx_sadd (a := [116, 105, 109, 101, 32] ++ Lib.itoa x.f_Post.f_Time ++ [32, 115, 101, 110, 116, 32] ++ Lib.itoa x.f_Count ++ [32, 107, 110, 111, 119, 110, 32] ++ Lib.itoa x.f_Known ++ [32, 101, 112, 111, 99, 104, 32] ++ Lib.itoa x.f_Reader.f_Epoch ++ [32, 103, 111, 116, 32]) (b := Lib.itoa (x.f_Reader.f_Got.length : Int)) (by simp only [List.length_append, List.length_cons, List.length_nil]; omega) ?_
  refine vs ?_
  refine qx_sadd (a := [116, 105, 109, 101, 32] ++ Lib.itoa x.f_Post.f_Time ++ [32, 115, 101, 110, 116, 32] ++ Lib.itoa x.f_Count ++ [32, 107, 110, 111, 119, 110, 32] ++ Lib.itoa x.f_Known ++ [32, 101, 112, 111, 99, 104, 32] ++ Lib.itoa x.f_Reader.f_Epoch ++ [32, 103, 111, 116, 32] ++ Lib.itoa (x.f_Reader.f_Got.length : Int)) (b := [10]) (by simp only [List.length_append, List.length_cons, List.length_nil]; omega) ?_
  rw [show [116, 105, 109, 101, 32] ++ Lib.itoa x.f_Post.f_Time ++ [32, 115, 101, 110, 116, 32] ++ Lib.itoa x.f_Count ++ [32, 107, 110, 111, 119, 110, 32] ++ Lib.itoa x.f_Known ++ [32, 101, 112, 111, 99, 104, 32] ++ Lib.itoa x.f_Reader.f_Epoch ++ [32, 103, 111, 116, 32] ++ Lib.itoa (x.f_Reader.f_Got.length : Int) ++ [10] = numsText x from rfl]
  refine vs ?_
  have H := H.join J
  simp only [List.nil_append] at H
  refine loop_at (σ := Nat × List UInt8) (fun y => [(1, .pointer (some ⟨g1, 0, none⟩)), (3, .string ⟨y.2.toArray⟩), (4, .int .i64 (y.1 : Int))])
    (fun y w' => y.1 ≤ x.f_Post.f_Queue.length ∧ y.2 = numsText x ++ qText (x.f_Post.f_Queue.take y.1) ∧ Sep w.heap.size w w' [Ck.box g1 [v0, .int .i64 x.f_Count, .int .i64 x.f_Known, .slice A3 x.f_Post.f_Queue.length c3, .int .i64 x.f_Post.f_Time, v5, .int .i64 x.f_Post.f_Sure, v7, .int .i64 x.f_Reader.f_Epoch, v9, .slice A10 x.f_Reader.f_Got.length c10, v11, v12] 42]) (fun y => x.f_Post.f_Queue.length - y.1) (0, numsText x) (vs trivial) ⟨Nat.zero_le _, by rw [List.take_zero, show qText [] = [] from rfl, List.append_nil], H⟩ ?_
  rintro ⟨k, out⟩ s w8 ⟨hk, ho, H⟩
  dsimp only at hk ho H
  subst ho
  refine vs ?_
  refine x_ld H sc35 ?_
  refine vs (ways ?_ ?_)
  · refine vh fun hlt => ?_
    have hk2 : k < x.f_Post.f_Queue.length := by omega
    refine x_ld H sc35 ?_
    refine vs ?_
    refine x_ele H sl35 rfl k hk2 hqa rfl fun ad es hb1 hr hc => vs ?_
    have hr : kItem.rd w w.heap.size es x.f_Post.f_Queue[k] := hr
    refine x_lds st63 hc (Kd.len _ hr) (vs ?_)
    refine x_callb H (specItemText_ok _ es _ (H.rd hr) (hsq.2 _ (List.getElem_mem hk2)) (ht.below H.bel)) fun w11 H => vs ?_
    have hi := itemText_len (hsq.2 _ (List.getElem_mem hk2)) (hqr _ (List.getElem_mem hk2)).1 (hqr _ (List.getElem_mem hk2)).2
    have hqk := hq k
    refine x_sadd (a := numsText x ++ qText (x.f_Post.f_Queue.take k)) (b := itemText x.f_Post.f_Queue[k]) (by simp only [List.length_append, List.length_cons, List.length_nil]; omega) ?_
    refine vs ?_
    refine x_sadd (a := numsText x ++ qText (x.f_Post.f_Queue.take k) ++ itemText x.f_Post.f_Queue[k]) (b := [10]) (by simp only [List.length_append, List.length_cons, List.length_nil]; omega) ?_
    refine vs ?_
    refine ⟨(k + 1, _), ⟨rfl, i64_eq (w64_up hk2 hsq.1)⟩, ⟨hk2, ?_, H⟩, by dsimp only; omega⟩
    rw [qText_succ hk2, List.append_assoc (numsText x ++ qText (x.f_Post.f_Queue.take k)), List.append_assoc (numsText x)]
  · refine vh fun hlt => ?_
    obtain rfl : k = x.f_Post.f_Queue.length := by omega
    rw [List.take_length]
    have hqt := hq x.f_Post.f_Queue.length
    rw [List.take_length] at hqt
    refine loop_at (σ := Nat × List UInt8) (fun y => [(1, .pointer (some ⟨g1, 0, none⟩)), (3, .string ⟨y.2.toArray⟩), (5, .int .i64 (y.1 : Int))])
      (fun y w' => y.1 ≤ x.f_Reader.f_Got.length ∧ y.2 = numsText x ++ qText x.f_Post.f_Queue ++ gText (x.f_Reader.f_Got.take y.1) ∧ Sep w.heap.size w w' [Ck.box g1 [v0, .int .i64 x.f_Count, .int .i64 x.f_Known, .slice A3 x.f_Post.f_Queue.length c3, .int .i64 x.f_Post.f_Time, v5, .int .i64 x.f_Post.f_Sure, v7, .int .i64 x.f_Reader.f_Epoch, v9, .slice A10 x.f_Reader.f_Got.length c10, v11, v12] 42]) (fun y => x.f_Reader.f_Got.length - y.1) (0, numsText x ++ qText x.f_Post.f_Queue) (vs trivial) ⟨Nat.zero_le _, by rw [List.take_zero, show gText [] = [] from rfl, List.append_nil], H⟩ ?_
    rintro ⟨k, out⟩ s w12 ⟨hk, ho, H⟩
    dsimp only at hk ho H
    subst ho
    refine vs ?_
    refine x_ld H sc26 ?_
    refine vs (ways ?_ ?_)
    · refine vh fun hlt => ?_
      have hk2 : k < x.f_Reader.f_Got.length := by omega
      refine x_ld H sc26 ?_
      refine vs ?_
      refine x_ele H sl26 rfl k hk2 hga rfl fun ad es hb1 hr hc => vs ?_
      have hr : (bytes 5).rd w w.heap.size es x.f_Reader.f_Got[k] := hr
      have hr2 := hr
      obtain ⟨u, rfl⟩ : ∃ u, es = [u] := by
        have := Kd.len _ hr
        match es, this with
        | [u], _ => exact ⟨u, rfl⟩
      obtain ⟨Au, cu, rfl, _⟩ := sl_open hr
      refine x_load sc22 (hc 0 (by decide)) (vs ?_)
      refine x_str Tryd.underlying22 Tryd.underlying5 Tryd.underlying9 (H.rd hr2) (vs ?_)
      have hi := hsg.2 _ (List.getElem_mem hk2)
      have hgk := hg k
      refine x_sadd (a := numsText x ++ qText x.f_Post.f_Queue ++ gText (x.f_Reader.f_Got.take k)) (b := x.f_Reader.f_Got[k]) (by simp only [List.length_append, List.length_cons, List.length_nil]; omega) ?_
      refine vs ?_
      refine x_sadd (a := numsText x ++ qText x.f_Post.f_Queue ++ gText (x.f_Reader.f_Got.take k) ++ x.f_Reader.f_Got[k]) (b := [10]) (by simp only [List.length_append, List.length_cons, List.length_nil]; omega) ?_
      refine vs ?_
      refine ⟨(k + 1, _), ⟨rfl, i64_eq (w64_up hk2 hsg.1)⟩, ⟨hk2, ?_, H⟩, by dsimp only; omega⟩
      rw [gText_succ hk2, List.append_assoc (numsText x ++ qText x.f_Post.f_Queue ++ gText (x.f_Reader.f_Got.take k)), List.append_assoc (numsText x ++ qText x.f_Post.f_Queue)]
    · refine vh fun hlt => ?_
      obtain rfl : k = x.f_Reader.f_Got.length := by omega
      rw [List.take_length]
      exact ⟨rfl, H.bel⟩
end Go.Proofs.YticlmbnchldbfaaDoor.V
