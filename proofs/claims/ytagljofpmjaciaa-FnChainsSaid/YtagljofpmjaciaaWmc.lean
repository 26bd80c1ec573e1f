/- Stretched words: both sides. -/
import Derived.Test.YtagljofpmjaciaaWmb
import Derived.Test.YtagljofpmjaciaaVy
namespace Go.Proofs.Ytagljofpmjaciaa.V
open Go Go.RowKit
set_option maxRecDepth 100000
set_option maxHeartbeats 4000000
set_option linter.unusedSimpArgs false
set_option linter.unusedVariables false
set_option pp.deepTerms false
set_option pp.deepTerms.threshold 3

def strU (k b : List UInt8) : Nat → List UInt8
  | 0 => mac k b
  | n + 1 => mac k (strU k b n)
def strF (k b : List UInt8) : Nat → List UInt8
  | 0 => mac k b
  | n + 1 => xorB (strF k b n) (strU k b (n + 1))
theorem strU_len {k b : List UInt8} (hk : k.length ≤ 400) (hb : b.length ≤ 3936) : ∀ n, (strU k b n).length = 32
  | 0 => mac_len32 hb (by omega)
  | n + 1 => mac_len32 (by rw [strU_len hk hb n]; omega) (by omega)
theorem strF_len {k b : List UInt8} (hk : k.length ≤ 400) (hb : b.length ≤ 3936) : ∀ n, (strF k b n).length = 32
  | 0 => mac_len32 hb (by omega)
  | n + 1 => by rw [strF, xorB_len, strF_len hk hb n, strU_len hk hb (n + 1)]; rfl
def strO (k salt : List UInt8) (r : Nat) : Nat → List UInt8
  | 0 => []
  | n + 1 => strO k salt r n ++ strF k (salt ++ greatB ((n + 1 : Nat) : Int) 4) r
theorem salt_len {salt : List UInt8} (hs : salt.length ≤ 400) (n : Int) : (salt ++ greatB n 4).length ≤ 3936 := by
  have := greatB_len n 4
  rw [List.length_append]; omega
theorem strO_len {k salt : List UInt8} (hk : k.length ≤ 400) (hs : salt.length ≤ 400) (r : Nat) : ∀ n, (strO k salt r n).length = 32 * n
  | 0 => rfl
  | n + 1 => by rw [strO, List.length_append, strO_len hk hs r n, strF_len hk (salt_len hs _) r]; omega
def stretch (k salt : List UInt8) (rounds many : Int) : List UInt8 :=
  if (1 ≤ rounds ∧ rounds ≤ 50) ∧ (1 ≤ many ∧ many ≤ 96) ∧ k.length ≤ 400 ∧ salt.length ≤ 400 then (strO k salt (rounds.toNat - 1) ((many.toNat + 31) / 32)).take many.toNat else []
theorem stretch_len (k salt : List UInt8) (rounds many : Int) : (stretch k salt rounds many).length ≤ 96 := by
  unfold stretch
  split
  · rw [List.length_take]; omega
  · simp

theorem stretched_ok (w : World) (v : Value) (k : List UInt8) (u : Value) (salt : List UInt8) (r i : Nat) (h : (bytes 5).rd w w.heap.size [v] k) (h' : (bytes 5).rd w w.heap.size [u] salt)
    (hr : 1 ≤ r ∧ r ≤ 50) (hi : i ≤ 1000) (hk : k.length ≤ 400) (hs : salt.length ≤ 400) :
    ACalls Try.prog 98 #[v, u, .int .i64 (r : Int), .int .i64 (i : Int)] w fun x w' => ∃ fp, Sep w.heap.size w w' [Ck.own (bytes 5) fp [x] (strF k (salt ++ greatB (i : Int) 4) (r - 1))] := by
  have H := Sep.start w
  have hsl := salt_len hs (i : Int)
  refine body_of follows Try.func98 rfl rfl _ rfl (by kernel_rfl) (vs ?_)
  refine x_callf H (implGreat_ok w _ _ (by omega)) fun r1 f1 w1 H => vs ?_
  refine x_lstR (d := bytes 5) H sl31 rfl [_, _] [salt, greatB (i : Int) 4] ⟨H.rd h', H.own (.head _), trivial⟩ fun g2 w2 H hr2 => vs ?_
  have e2 : [salt, greatB (i : Int) 4].flatten = salt ++ greatB (i : Int) 4 := by simp
  refine x_callf H (joined_ok w2 _ _ hr2 (by rw [e2]; omega)) fun r3 f3 w3 H => vs ?_
  rw [e2] at H
  refine x_callf H (implMac_ok w3 _ k _ _ (H.rd h) (H.own (.head _))) fun r4 f4 w4 H => ?_
  have e5 : w64 ((r : Int) - 1) = ((r - 1 : Nat) : Int) := by unfold w64; omega
  refine ve e5 ?_
  have H := H.head
  generalize hb : salt ++ greatB (i : Int) 4 = b at H hsl ⊢
  refine loop_at (σ := Nat × (Value × List Nat) × Value) (fun x => [(0, v), (9, x.2.1.1), (10, x.2.2), (20, .int .i64 ((r - 1 : Nat) : Int)), (21, .int .i64 (x.1 : Int))])
    (fun x w' => x.1 ≤ r - 1 ∧ (bytes 5).rd w' w'.heap.size [x.2.1.1] (strU k b x.1) ∧ ∃ f, Sep w.heap.size w w' [Ck.own (bytes 5) f [x.2.2] (strF k b x.1)]) (fun x => r - 1 - x.1) (0, (r4, f4), r4) (vs ?_) ⟨Nat.zero_le _, H.own (.head _), _, H⟩ ?_
  · trivial
  rintro ⟨j, ⟨v9, f9⟩, v10⟩ s w5 ⟨hj, hu, f10, H⟩
  dsimp only at hj hu H
  by_cases hlt : j < r - 1
  · have e6 : ((j : Int) < ((r - 1 : Nat) : Int)) := by omega
    refine ve e6 ?_
    refine x_callf H (implMac_ok w5 _ k _ _ (H.rd h) hu) fun r6 f6 w6 H => vs ?_
    refine x_callf H (implXor_ok w6 _ (strF k b j) _ (strU k b (j + 1)) (H.own (.tail _ (.head _))) (H.own (.head _)) (by rw [strF_len hk hsl]; omega)) fun r7 f7 w7 H => vs ?_
    exact ⟨(j + 1, (r6, f6), r7), ⟨rfl, rfl, i64_eq (by show w64 ((j : Int) + 1) = ((j + 1 : Nat) : Int); exact w64_succ (b := 64) (by omega) (by omega))⟩, ⟨by show j + 1 ≤ r - 1; omega, H.own (.tail _ (.head _)), f7, H.head⟩, by show r - 1 - (j + 1) < r - 1 - j; omega⟩
  · obtain rfl : j = r - 1 := by omega
    have e6 : ¬ (((r - 1 : Nat) : Int) < ((r - 1 : Nat) : Int)) := by omega
    refine ve e6 ?_
    exact ⟨_, H⟩

theorem implStretch_ok (w : World) (v : Value) (k : List UInt8) (u : Value) (salt : List UInt8) (rounds many : Int) (h : (bytes 5).rd w w.heap.size [v] k) (h' : (bytes 5).rd w w.heap.size [u] salt) :
    ACalls Try.prog 39 #[v, u, .int .i64 rounds, .int .i64 many] w fun r w' => ∃ fp, Sep w.heap.size w w' [Ck.own (bytes 5) fp [r] (stretch k salt rounds many)] := by
  have h0 := h
  have h0' := h'
  obtain ⟨A, c, rfl, _, _, ha⟩ := sl_open h
  obtain ⟨B, d, rfl, _, _, hb⟩ := sl_open h'
  have H := Sep.start w
  refine body_of follows Try.func39 rfl rfl _ rfl (by kernel_rfl) (vs ?_)
  refine x_callw (in_ok w _ _ _) ?_
  by_cases q1 : 1 ≤ rounds ∧ rounds ≤ 50
  case neg =>
    refine ve q1 ?_
    have e : stretch k salt rounds many = [] := by unfold stretch; rw [if_neg (fun hh => q1 hh.1)]
    rw [e]; exact ⟨[], H.nothing (sl_zero w)⟩
  refine ve q1 ?_
  refine x_callw (in_ok w _ _ _) ?_
  by_cases q2 : 1 ≤ many ∧ many ≤ 96
  case neg =>
    refine ve q2 ?_
    have e : stretch k salt rounds many = [] := by unfold stretch; rw [if_neg (fun hh => q2 hh.2.1)]
    rw [e]; exact ⟨[], H.nothing (sl_zero w)⟩
  by_cases q3 : (400 : Int) < (k.length : Int)
  · refine ve (And.intro q2 q3) ?_
    have e : stretch k salt rounds many = [] := by unfold stretch; rw [if_neg (by omega)]
    rw [e]; exact ⟨[], H.nothing (sl_zero w)⟩
  by_cases q4 : (400 : Int) < (salt.length : Int)
  · refine ve (And.intro q2 (And.intro q3 q4)) ?_
    have e : stretch k salt rounds many = [] := by unfold stretch; rw [if_neg (by omega)]
    rw [e]; exact ⟨[], H.nothing (sl_zero w)⟩
  refine ve (And.intro q2 (And.intro q3 q4)) ?_
  have es : stretch k salt rounds many = (strO k salt (rounds.toNat - 1) ((many.toNat + 31) / 32)).take many.toNat := by unfold stretch; rw [if_pos ⟨q1, q2, by omega, by omega⟩]
  rw [es]
  have hk : k.length ≤ 400 := by omega
  have hs : salt.length ≤ 400 := by omega
  obtain ⟨r, rfl⟩ : ∃ q : Nat, rounds = (q : Int) := ⟨rounds.toNat, by omega⟩
  obtain ⟨m, rfl⟩ : ∃ q : Nat, many = (q : Int) := ⟨many.toNat, by omega⟩
  simp only [Int.toNat_natCast]
  have hO := strO_len hk hs (r - 1)
  refine x_emp H pl_u8 sl22 fun g w1 H => vs ?_
  refine loop_at (σ := Nat × Value × List Nat) (fun x => [(0, .slice A k.length c), (1, .slice B salt.length d), (2, .int .i64 (r : Int)), (3, .int .i64 (m : Int)), (9, x.2.1), (10, .int .i64 ((x.1 + 1 : Nat) : Int))])
    (fun x w' => x.1 ≤ (m + 31) / 32 ∧ Sep w.heap.size w w' [Ck.own (bytes 5) x.2.2 [x.2.1] (strO k salt (r - 1) x.1)]) (fun x => (m + 31) / 32 - x.1) (0, _, _) (vs ?_) ⟨Nat.zero_le _, H⟩ ?_
  · trivial
  rintro ⟨j, v9, f9⟩ s w5 ⟨hj, H⟩
  dsimp only at hj H
  have hv := own_val (show (bytes 5).ow w5 f9 [v9] (strO k salt (r - 1) j) from H.ok _ (.head _))
  obtain ⟨A3, c3, rfl, _⟩ := hv
  have hOj := hO j
  by_cases hlt : (((strO k salt (r - 1) j).length : Nat) : Int) < (m : Int)
  · refine ve hlt ?_
    refine x_callf H (stretched_ok w5 _ k _ salt r (j + 1) (H.rd h0) (H.rd h0') (by omega) (by omega) hk hs) fun r6 f6 w6 H => vs ?_
    have hF := strF_len hk (salt_len hs ((j + 1 : Nat) : Int)) (r - 1)
    refine x_app (l := strO k salt (r - 1) j) H pl_u8 sl22 (H.own (.head _)) ?_ ?_ fun f7 v7 w7 H => vs ?_
    · omega
    · omega
    exact ⟨(j + 1, v7, f7), ⟨rfl, i64_eq (by show w64 (((j + 1 : Nat) : Int) + 1) = ((j + 1 + 1 : Nat) : Int); exact w64_succ (b := 640) (by omega) (by omega))⟩, ⟨by show j + 1 ≤ (m + 31) / 32; omega, H.tail⟩, by show (m + 31) / 32 - (j + 1) < (m + 31) / 32 - j; omega⟩
  · have ej : j = (m + 31) / 32 := by omega
    refine ve hlt ?_
    refine x_to sl22 rfl (H.own (.head _)) (by omega) fun v7 hr7 => vs ?_
    refine x_lstR (d := bytes 5) H sl31 rfl [_] [(strO k salt (r - 1) j).take m] ⟨hr7, trivial⟩ fun g8 w8 H hr8 => vs ?_
    have e2 : [(strO k salt (r - 1) j).take m].flatten = (strO k salt (r - 1) j).take m := by simp
    refine x_callf H (joined_ok w8 _ _ hr8 (by rw [e2, List.length_take]; omega)) fun r9 f9 w9 H => vs ?_
    rw [e2, ej] at H
    exact ⟨_, H.head⟩

theorem specStretch_ok (w : World) (v : Value) (k : List UInt8) (u : Value) (salt : List UInt8) (rounds many : Int) (h : (bytes 5).rd w w.heap.size [v] k) (h' : (bytes 5).rd w w.heap.size [u] salt) :
    ACalls Try.prog 37 #[v, u, .int .i64 rounds, .int .i64 many] w fun r w' => ∃ fp, Sep w.heap.size w w' [Ck.own (bytes 5) fp [r] (stretch k salt rounds many)] := by
  have h0 := h
  have h0' := h'
  obtain ⟨A, c, rfl, _, _, ha⟩ := sl_open h
  obtain ⟨B, d, rfl, _, _, hb⟩ := sl_open h'
  have H := Sep.start w
  refine body_of follows Try.func37 rfl rfl _ rfl (by kernel_rfl) (vs ?_)
  refine x_emp H pl_u8 sl22 fun g w1 H => vs ?_
  refine x_callw (l1In_ok w1 _ _ _) ?_
  by_cases q1 : 1 ≤ rounds ∧ rounds ≤ 50
  case neg =>
    refine ve q1 ?_
    have e : stretch k salt rounds many = [] := by unfold stretch; rw [if_neg (fun hh => q1 hh.1)]
    rw [e]; exact ⟨_, H⟩
  refine ve q1 ?_
  refine x_callw (l1In_ok w1 _ _ _) ?_
  by_cases q2 : 1 ≤ many ∧ many ≤ 96
  case neg =>
    refine ve q2 ?_
    have e : stretch k salt rounds many = [] := by unfold stretch; rw [if_neg (fun hh => q2 hh.2.1)]
    rw [e]; exact ⟨_, H⟩
  by_cases q3 : (400 : Int) < (k.length : Int)
  · refine ve (And.intro q2 q3) ?_
    have e : stretch k salt rounds many = [] := by unfold stretch; rw [if_neg (by omega)]
    rw [e]; exact ⟨_, H⟩
  by_cases q4 : (400 : Int) < (salt.length : Int)
  · refine ve (And.intro q2 (And.intro q3 q4)) ?_
    have e : stretch k salt rounds many = [] := by unfold stretch; rw [if_neg (by omega)]
    rw [e]; exact ⟨_, H⟩
  refine ve (And.intro q2 (And.intro q3 q4)) ?_
  have es : stretch k salt rounds many = (strO k salt (rounds.toNat - 1) ((many.toNat + 31) / 32)).take many.toNat := by unfold stretch; rw [if_pos ⟨q1, q2, by omega, by omega⟩]
  rw [es]
  have hk : k.length ≤ 400 := by omega
  have hs : salt.length ≤ 400 := by omega
  obtain ⟨r, rfl⟩ : ∃ q : Nat, rounds = (q : Int) := ⟨rounds.toNat, by omega⟩
  obtain ⟨m, rfl⟩ : ∃ q : Nat, many = (q : Int) := ⟨many.toNat, by omega⟩
  simp only [Int.toNat_natCast]
  have hO := strO_len hk hs (r - 1)
  refine loop_at (σ := Nat × Value × List Nat) (fun x => [(0, .slice A k.length c), (1, .slice B salt.length d), (2, .int .i64 (r : Int)), (3, .int .i64 (m : Int)), (9, x.2.1), (10, .int .i64 ((x.1 + 1 : Nat) : Int))])
    (fun x w' => x.1 ≤ (m + 31) / 32 ∧ Sep w.heap.size w w' [Ck.own (bytes 5) x.2.2 [x.2.1] (strO k salt (r - 1) x.1)]) (fun x => (m + 31) / 32 - x.1) (0, _, _) (vs ?_) ⟨Nat.zero_le _, H⟩ ?_
  · trivial
  rintro ⟨j, v9, f9⟩ s w5 ⟨hj, H⟩
  dsimp only at hj H
  have hv := own_val (show (bytes 5).ow w5 f9 [v9] (strO k salt (r - 1) j) from H.ok _ (.head _))
  obtain ⟨A3, c3, rfl, _⟩ := hv
  have hOj := hO j
  by_cases hlt : (((strO k salt (r - 1) j).length : Nat) : Int) < (m : Int)
  · refine ve hlt ?_
    refine x_emp H pl_u8 sl22 fun g6 w6 H => vs ?_
    refine x_app (l := []) H pl_u8 sl22 (H.rd h0') ?_ ?_ fun f7 v7 w7 H => vs ?_
    · simp only [List.length_nil]; omega
    · simp only [List.length_nil]; omega
    rw [List.nil_append] at H
    refine x_callf H (specGreat_ok w7 _ _ (by omega)) fun r8 f8 w8 H => vs ?_
    have hg := greatB_len ((j + 1 : Nat) : Int) 4
    refine x_app (l := salt) H pl_u8 sl22 (H.own (.head _)) ?_ ?_ fun f9' v9 w9 H => vs ?_
    · omega
    · omega
    refine x_callf H (specMac_ok w9 _ k _ _ (H.rd h0) (H.own (.tail _ (.head _)))) fun r10 f10 w10 H => vs ?_
    have hsl := salt_len hs ((j + 1 : Nat) : Int)
    have H := H.two (c := Ck.own (bytes 5) f10 [r10] (mac k (salt ++ greatB ((j + 1 : Nat) : Int) 4))) (c' := Ck.own (bytes 5) f9 [.slice A3 (strO k salt (r - 1) j).length c3] (strO k salt (r - 1) j)) .here (.there (.there .here))
    generalize hbb : salt ++ greatB ((j + 1 : Nat) : Int) 4 = b at H hsl
    refine loop_at (σ := Nat × (Value × List Nat) × Value) (fun x => [(0, .slice A k.length c), (1, .slice B salt.length d), (2, .int .i64 (r : Int)), (3, .int .i64 (m : Int)), (9, .slice A3 (strO k salt (r - 1) j).length c3), (10, .int .i64 ((j + 1 : Nat) : Int)), (11, x.2.1.1), (12, x.2.2), (13, .int .i64 ((x.1 + 1 : Nat) : Int))])
      (fun x w' => x.1 ≤ r - 1 ∧ (bytes 5).rd w' w'.heap.size [x.2.1.1] (strU k b x.1) ∧ ∃ f, Sep w.heap.size w w' [Ck.own (bytes 5) f [x.2.2] (strF k b x.1), Ck.own (bytes 5) f9 [.slice A3 (strO k salt (r - 1) j).length c3] (strO k salt (r - 1) j)]) (fun x => r - 1 - x.1) (0, (r10, f10), r10) (vs ?_) ⟨Nat.zero_le _, H.own (.head _), _, H⟩ ?_
    · trivial
    rintro ⟨t, ⟨v11, f11⟩, v12⟩ s w11 ⟨ht, hu, f12, H⟩
    dsimp only at ht hu H
    by_cases hlt : t < r - 1
    · have e6 : (((t + 1 : Nat) : Int) < (r : Int)) := by omega
      refine ve e6 ?_
      refine x_callf H (specMac_ok w11 _ k _ _ (H.rd h0) hu) fun r6 f6 w6 H => vs ?_
      refine x_callf H (specXor_ok w6 _ (strF k b t) _ (strU k b (t + 1)) (H.own (.tail _ (.head _))) (H.own (.head _)) (by rw [strF_len hk hsl]; omega)) fun r7 f7 w7 H => vs ?_
      exact ⟨(t + 1, (r6, f6), r7), ⟨rfl, rfl, i64_eq (by show w64 (((t + 1 : Nat) : Int) + 1) = ((t + 1 + 1 : Nat) : Int); exact w64_succ (b := 64) (by omega) (by omega))⟩, ⟨by show t + 1 ≤ r - 1; omega, H.own (.tail _ (.head _)), f7, H.two .here (.there (.there .here))⟩, by show r - 1 - (t + 1) < r - 1 - t; omega⟩
    · obtain rfl : t = r - 1 := by omega
      have e6 : ¬ (((r - 1 + 1 : Nat) : Int) < (r : Int)) := by omega
      refine ve e6 ?_
      have hF := strF_len hk hsl (r - 1)
      refine x_app (l := strO k salt (r - 1) j) H pl_u8 sl22 (H.own (.head _)) ?_ ?_ fun f7 v7 w7 H => vs ?_
      · omega
      · omega
      refine ⟨(j + 1, v7, f7), ⟨rfl, i64_eq (by show w64 (((j + 1 : Nat) : Int) + 1) = ((j + 1 + 1 : Nat) : Int); exact w64_succ (b := 640) (by omega) (by omega))⟩, ⟨by show j + 1 ≤ (m + 31) / 32; omega, ?_⟩, by show (m + 31) / 32 - (j + 1) < (m + 31) / 32 - j; omega⟩
      show Sep _ _ _ [Ck.own (bytes 5) f7 [v7] (strO k salt (r - 1) j ++ strF k (salt ++ greatB ((j + 1 : Nat) : Int) 4) (r - 1))]
      rw [hbb]
      exact H.tail
  · have ej : j = (m + 31) / 32 := by omega
    refine ve hlt ?_
    refine x_emp H pl_u8 sl22 fun g6 w6 H => vs ?_
    refine x_to sl22 rfl (H.own (.tail _ (.head _))) (by omega) fun v7 hr7 => vs ?_
    refine x_app (l := []) H pl_u8 sl22 hr7 ?_ ?_ fun f8 v8 w8 H => vs ?_
    · simp only [List.length_nil, List.length_take]; omega
    · simp only [List.length_nil, List.length_take]; omega
    rw [List.nil_append, ej] at H
    exact ⟨_, H.head⟩
end Go.Proofs.Ytagljofpmjaciaa.V
