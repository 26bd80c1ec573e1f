/- Codes by a key, keys drawn out: both sides. -/
import Derived.Test.YtcmckbgiiclomaaGreatDoorWma
namespace Go.Proofs.YtcmckbgiiclomaaGreatDoor.V
open Go Go.RowKit
set_option maxRecDepth 100000
set_option maxHeartbeats 4000000
set_option linter.unusedSimpArgs false
set_option linter.unusedVariables false
set_option pp.deepTerms false
set_option pp.deepTerms.threshold 3

theorem xor_rep (k : List UInt8) (x : UInt8) (h : k.length = 64) : xorB k (List.replicate 64 x) = k.map (· ^^^ x) := by
  unfold xorB
  apply List.ext_getElem
  · simp; omega
  · intro i h1 h2
    simp only [List.getElem_zipWith, List.getElem_map, List.getElem_replicate]
theorem xorAll_ok (w : World) (v : Value) (k : List UInt8) (u : Value) (x : UInt8) (h : (bytes 5).rd w w.heap.size [v] k) (hx : u = encB x) (hl : k.length = 64) :
    ACalls Tryz.prog 43 #[v, u] w fun r w' => ∃ fp, Sep w.heap.size w w' [Ck.own (bytes 5) fp [r] (k.map (· ^^^ x))] := by
  subst hx
  have h0 := h
  obtain ⟨A, c, rfl, hc1, hc2, ha⟩ := sl_open h
  have H := Sep.start w
  have e0 : ((k.length : Nat) : Int) = 64 := by omega
  refine body_of follows Tryz.func43 rfl rfl _ rfl (by kernel_rfl) (vs ?_)
  refine x_lst H pl_u8 sl22 [x] (by simp) fun g1 w1 H => ve e0 ?_
  refine x_callf H (repeat_ok w1 _ x (H.own (.head _))) fun r2 f2 w2 H => vs ?_
  refine x_callf H (implXor_ok w2 _ k _ (List.replicate 64 x) (H.rd h0) (H.own (.head _)) (by omega)) fun r3 f3 w3 H => vs ?_
  rw [xor_rep k x hl] at H
  exact ⟨_, H.head⟩

def keyB (k : List UInt8) : List UInt8 := if 64 < k.length then hash k else k
theorem keyB_len (k : List UInt8) : (keyB k).length ≤ 64 := by
  unfold keyB
  split
  · have := hash_len k; omega
  · omega
def padK (k : List UInt8) : List UInt8 := keyB k ++ List.replicate (64 - (keyB k).length) 0
theorem padK_len (k : List UInt8) : (padK k).length = 64 := by
  unfold padK
  have := keyB_len k
  simp only [List.length_append, List.length_replicate]; omega
def mac (k b : List UInt8) : List UInt8 := if b.length ≤ 3936 ∧ k.length ≤ 3936 then hash ((padK k).map (· ^^^ 92) ++ hash ((padK k).map (· ^^^ 54) ++ b)) else []
theorem mac_len (k b : List UInt8) : (mac k b).length ≤ 32 := by
  unfold mac
  split
  · exact hash_len _
  · simp
theorem hash_len32 {b : List UInt8} (h : b.length ≤ 4000) : (hash b).length = 32 := by
  unfold hash
  rw [if_pos h, wordBytes_len, hashN_len]
theorem mac_len32 {k b : List UInt8} (h : b.length ≤ 3936) (h' : k.length ≤ 3936) : (mac k b).length = 32 := by
  unfold mac
  rw [if_pos ⟨h, h'⟩]
  apply hash_len32
  rw [List.length_append, List.length_map, padK_len, hash_len32 (by rw [List.length_append, List.length_map, padK_len]; omega)]
  omega

theorem implMac_ok (w : World) (v : Value) (k : List UInt8) (u : Value) (b : List UInt8) (h : (bytes 5).rd w w.heap.size [v] k) (h' : (bytes 5).rd w w.heap.size [u] b) :
    ACalls Tryz.prog 21 #[v, u] w fun r w' => ∃ fp, Sep w.heap.size w w' [Ck.own (bytes 5) fp [r] (mac k b)] := by
  have h0 := h
  have h0' := h'
  obtain ⟨A, c, rfl, _, _, ha⟩ := sl_open h
  obtain ⟨B, d, rfl, _, _, hb⟩ := sl_open h'
  have H := Sep.start w
  refine body_of follows Tryz.func21 rfl rfl _ rfl (by kernel_rfl) (vs ?_)
  have E0 : (mac k b : List UInt8) = [] ∨ (b.length ≤ 3936 ∧ k.length ≤ 3936) := by
    by_cases q : b.length ≤ 3936 ∧ k.length ≤ 3936
    · exact .inr q
    · exact .inl (by unfold mac; rw [if_neg q])
  by_cases q1 : (3936 : Int) < (b.length : Int)
  · refine ve q1 ?_
    rcases E0 with e | e
    · rw [e]; exact ⟨[], H.nothing (sl_zero w)⟩
    · omega
  by_cases q2 : (3936 : Int) < (k.length : Int)
  · refine ve (And.intro q1 q2) ?_
    rcases E0 with e | e
    · rw [e]; exact ⟨[], H.nothing (sl_zero w)⟩
    · omega
  refine ve (And.intro q1 q2) ?_
  have em : mac k b = hash ((padK k).map (· ^^^ 92) ++ hash ((padK k).map (· ^^^ 54) ++ b)) := by
    unfold mac; rw [if_pos (by omega)]
  rw [em]
  have hpl := padK_len k
  have hkl := keyB_len k
  -- the key of at most a block
  have rest : ∀ (V : Value) (w2 : World) (L : List Ck), Sep w.heap.size w w2 L → (bytes 5).rd w2 w2.heap.size [V] (keyB k) →
      ∃ A' c', V = .slice A' (keyB k).length c' := fun V w2 L H hr => by obtain ⟨A', c', e, _⟩ := sl_open hr; exact ⟨A', c', e⟩
  by_cases q3 : (64 : Int) < (k.length : Int)
  · refine ve q3 ?_
    refine x_callf H (implHash_ok w _ _ h0) fun r1 f1 w1 H => vs ?_
    have ek : hash k = keyB k := by unfold keyB; rw [if_pos (by omega)]
    rw [ek] at H
    have hr := H.own (.head _)
    obtain ⟨A', c', rfl⟩ := rest _ _ _ H hr
    have e1 : w64 (64 - ((keyB k).length : Int)) = ((64 - (keyB k).length : Nat) : Int) := by unfold w64; omega
    refine ve e1 ?_
    refine x_mk H pl_u8 (x := 0) sl22 trivial (by omega) (by omega) fun g w2 H => vs ?_
    refine x_lstR (d := bytes 5) H sl78 rfl [_, _] [keyB k, List.replicate (64 - (keyB k).length) 0] ⟨H.own (.tail _ (.head _)), H.own (.head _), trivial⟩ fun g3 w3 H hr => vs ?_
    have e2 : [keyB k, List.replicate (64 - (keyB k).length) 0].flatten = padK k := by simp [padK]
    refine x_callf H (joined_ok w3 _ _ hr (by rw [e2]; omega)) fun r4 f4 w4 H => vs ?_
    rw [e2] at H
    refine x_callf H (xorAll_ok w4 _ _ _ 92 (H.own (.head _)) rfl hpl) fun r5 f5 w5 H => vs ?_
    refine x_callf H (xorAll_ok w5 _ _ _ 54 (H.own (.tail _ (.head _))) rfl hpl) fun r6 f6 w6 H => vs ?_
    refine x_lstR (d := bytes 5) H sl78 rfl [_, _] [(padK k).map (· ^^^ 54), b] ⟨H.own (.head _), H.rd h0', trivial⟩ fun g7 w7 H hr => vs ?_
    have e3 : [(padK k).map (· ^^^ 54), b].flatten = (padK k).map (· ^^^ 54) ++ b := by simp
    refine x_callf H (joined_ok w7 _ _ hr (by rw [e3, List.length_append, List.length_map]; omega)) fun r8 f8 w8 H => vs ?_
    rw [e3] at H
    refine x_callf H (implHash_ok w8 _ _ (H.own (.head _))) fun r9 f9 w9 H => vs ?_
    refine x_lstR (d := bytes 5) H sl78 rfl [_, _] [(padK k).map (· ^^^ 92), hash ((padK k).map (· ^^^ 54) ++ b)] ⟨H.own (.tail _ (.tail _ (.tail _ (.tail _ (.head _))))), H.own (.head _), trivial⟩ fun g10 w10 H hr => vs ?_
    have hl := hash_len ((padK k).map (· ^^^ 54) ++ b)
    have e4 : [(padK k).map (· ^^^ 92), hash ((padK k).map (· ^^^ 54) ++ b)].flatten = (padK k).map (· ^^^ 92) ++ hash ((padK k).map (· ^^^ 54) ++ b) := by simp
    refine x_callf H (joined_ok w10 _ _ hr (by rw [e4, List.length_append, List.length_map]; omega)) fun r11 f11 w11 H => vs ?_
    rw [e4] at H
    refine x_callf H (implHash_ok w11 _ _ (H.own (.head _))) fun r12 f12 w12 H => vs ?_
    exact ⟨_, H.head⟩
  · refine ve q3 ?_
    have ek : keyB k = k := by unfold keyB; rw [if_neg (by omega)]
    have e1 : w64 (64 - (k.length : Int)) = ((64 - (keyB k).length : Nat) : Int) := by rw [ek]; unfold w64; omega
    refine ve e1 ?_
    rw [← ek] at h0
    refine x_mk H pl_u8 (x := 0) sl22 trivial (by omega) (by omega) fun g w2 H => vs ?_
    refine x_lstR (d := bytes 5) H sl78 rfl [_, _] [keyB k, List.replicate (64 - (keyB k).length) 0] ⟨by rw [ek]; rw [ek] at h0; exact H.rd h0, H.own (.head _), trivial⟩ fun g3 w3 H hr => vs ?_
    have e2 : [keyB k, List.replicate (64 - (keyB k).length) 0].flatten = padK k := by simp [padK]
    refine x_callf H (joined_ok w3 _ _ hr (by rw [e2]; omega)) fun r4 f4 w4 H => vs ?_
    rw [e2] at H
    refine x_callf H (xorAll_ok w4 _ _ _ 92 (H.own (.head _)) rfl hpl) fun r5 f5 w5 H => vs ?_
    refine x_callf H (xorAll_ok w5 _ _ _ 54 (H.own (.tail _ (.head _))) rfl hpl) fun r6 f6 w6 H => vs ?_
    refine x_lstR (d := bytes 5) H sl78 rfl [_, _] [(padK k).map (· ^^^ 54), b] ⟨H.own (.head _), H.rd h0', trivial⟩ fun g7 w7 H hr => vs ?_
    have e3 : [(padK k).map (· ^^^ 54), b].flatten = (padK k).map (· ^^^ 54) ++ b := by simp
    refine x_callf H (joined_ok w7 _ _ hr (by rw [e3, List.length_append, List.length_map]; omega)) fun r8 f8 w8 H => vs ?_
    rw [e3] at H
    refine x_callf H (implHash_ok w8 _ _ (H.own (.head _))) fun r9 f9 w9 H => vs ?_
    refine x_lstR (d := bytes 5) H sl78 rfl [_, _] [(padK k).map (· ^^^ 92), hash ((padK k).map (· ^^^ 54) ++ b)] ⟨H.own (.tail _ (.tail _ (.tail _ (.tail _ (.head _))))), H.own (.head _), trivial⟩ fun g10 w10 H hr => vs ?_
    have hl := hash_len ((padK k).map (· ^^^ 54) ++ b)
    have e4 : [(padK k).map (· ^^^ 92), hash ((padK k).map (· ^^^ 54) ++ b)].flatten = (padK k).map (· ^^^ 92) ++ hash ((padK k).map (· ^^^ 54) ++ b) := by simp
    refine x_callf H (joined_ok w10 _ _ hr (by rw [e4, List.length_append, List.length_map]; omega)) fun r11 f11 w11 H => vs ?_
    rw [e4] at H
    refine x_callf H (implHash_ok w11 _ _ (H.own (.head _))) fun r12 f12 w12 H => vs ?_
    exact ⟨_, H.head⟩

theorem zeros_step {k : List UInt8} {j : Nat} : k ++ List.replicate j 0 ++ [0] = k ++ List.replicate (j + 1) (0 : UInt8) := by
  rw [List.append_assoc, List.replicate_succ']
theorem map_step {k : List UInt8} {i : Nat} (f : UInt8 → UInt8) (h : i < k.length) : (k.take (i + 1)).map f = (k.take i).map f ++ [f k[i]] := by
  rw [List.take_succ_eq_append_getElem h, List.map_append]; rfl
/-- From the key of at most a block on. -/
theorem specMac_ok (w : World) (v : Value) (k : List UInt8) (u : Value) (b : List UInt8) (h : (bytes 5).rd w w.heap.size [v] k) (h' : (bytes 5).rd w w.heap.size [u] b) :
    ACalls Tryz.prog 30 #[v, u] w fun r w' => ∃ fp, Sep w.heap.size w w' [Ck.own (bytes 5) fp [r] (mac k b)] := by
  have h0 := h
  have h0' := h'
  obtain ⟨A, c, rfl, _, _, ha⟩ := sl_open h
  obtain ⟨B, d, rfl, _, _, hb⟩ := sl_open h'
  have H := Sep.start w
  refine body_of follows Tryz.func30 rfl rfl _ rfl (by kernel_rfl) (vs ?_)
  have E0 : (mac k b : List UInt8) = [] ∨ (b.length ≤ 3936 ∧ k.length ≤ 3936) := by
    by_cases q : b.length ≤ 3936 ∧ k.length ≤ 3936
    · exact .inr q
    · exact .inl (by unfold mac; rw [if_neg q])
  by_cases q1 : (3936 : Int) < (k.length : Int)
  · refine ve q1 ?_
    refine x_emp H pl_u8 sl22 fun g w1 H => vs ?_
    rcases E0 with e | e
    · rw [e]; exact ⟨_, H⟩
    · omega
  by_cases q2 : (3936 : Int) < (b.length : Int)
  · refine ve (And.intro q1 q2) ?_
    refine x_emp H pl_u8 sl22 fun g w1 H => vs ?_
    rcases E0 with e | e
    · rw [e]; exact ⟨_, H⟩
    · omega
  refine ve (And.intro q1 q2) ?_
  have em : mac k b = hash ((padK k).map (· ^^^ 92) ++ hash ((padK k).map (· ^^^ 54) ++ b)) := by
    unfold mac; rw [if_pos (by omega)]
  rw [em]
  have hpl := padK_len k
  have hkl := keyB_len k
  refine x_emp H pl_u8 sl22 fun g w1 H => vs ?_
  refine x_app (l := []) H pl_u8 sl22 (H.rd h0) ?_ ?_ fun f2 v2 w2 H => vs ?_
  · simp only [List.length_nil]; omega
  · simp only [List.length_nil]; omega
  rw [List.nil_append] at H
  have hv := own_val (show (bytes 5).ow w2 f2 [v2] k from H.ok _ (.head _))
  obtain ⟨A2, c2, rfl, _⟩ := hv
  refine vs ?_
  have S : ∃ kk, kk = keyB k := ⟨_, rfl⟩
  obtain ⟨kk, ekk⟩ := S
  rw [← ekk] at hkl
  have epk : padK k = kk ++ List.replicate (64 - kk.length) 0 := by rw [ekk]; rfl
  by_cases q3 : (64 : Int) < (k.length : Int)
  all_goals first
    | (refine ve q3 ?_
       refine x_callf H (specHash_ok w2 _ _ (H.own (.head _))) fun r1 f1 w3 H => vs ?_
       have ek : hash k = kk := by rw [ekk]; unfold keyB; rw [if_pos (by omega)]
       rw [ek] at H
       have H := H.head
       clear ek)
    | (refine ve q3 ?_
       have ek : k = kk := by rw [ekk]; unfold keyB; rw [if_neg (by omega)]
       generalize Value.slice A2 k.length c2 = r1 at H ⊢
       rw [ek] at H
       generalize hf1 : f2 = f1 at H
       generalize hw3 : w2 = w3 at H ⊢
       clear ek hf1 hw3)
  all_goals
    refine loop_at (σ := Nat × Value × List Nat) (fun x => [(0, .slice A k.length c), (1, .slice B b.length d), (5, x.2.1)])
      (fun x w' => kk.length + x.1 ≤ 64 ∧ Sep w.heap.size w w' [Ck.own (bytes 5) x.2.2 [x.2.1] (kk ++ List.replicate x.1 0)]) (fun x => 64 - (kk.length + x.1)) (0, r1, f1) (vs ?_) ⟨by show kk.length + 0 ≤ 64; omega, by show Sep _ _ _ [Ck.own (bytes 5) f1 [r1] (kk ++ List.replicate 0 0)]; rw [List.replicate_zero, List.append_nil]; exact H⟩ ?_
    · trivial
    rintro ⟨j, v3, f3⟩ s w4 ⟨hj, H⟩
    dsimp only at hj H
    have hv := own_val (show (bytes 5).ow w4 f3 [v3] (kk ++ List.replicate j 0) from H.ok _ (.head _))
    obtain ⟨A3, c3, rfl, _⟩ := hv
    have hl3 : (kk ++ List.replicate j (0 : UInt8)).length = kk.length + j := by simp
    by_cases q4 : (((kk ++ List.replicate j (0 : UInt8)).length : Nat) : Int) < 64
    · refine ve q4 ?_
      refine x_lst H pl_u8 sl22 [0] (by simp) fun g5 w5 H => vs ?_
      refine x_app (l := kk ++ List.replicate j 0) H pl_u8 sl22 (H.own (.head _)) ?_ ?_ fun f6 v6 w6 H => vs ?_
      · rw [hl3]; simp only [List.length_cons, List.length_nil]; omega
      · rw [hl3]; simp only [List.length_cons, List.length_nil]; omega
      rw [zeros_step] at H
      refine ⟨(j + 1, v6, f6), rfl, ⟨by show kk.length + (j + 1) ≤ 64; omega, H.tail⟩, by show 64 - (kk.length + (j + 1)) < 64 - (kk.length + j); omega⟩
    refine ve q4 ?_
    obtain rfl : j = 64 - kk.length := by omega
    rw [← epk] at H ⊢
    refine x_emp H pl_u8 sl22 fun g5 w5 H => vs ?_
    refine x_emp H pl_u8 sl22 fun g6 w6 H => vs ?_
    refine loop_at (σ := Nat × (Value × List Nat) × (Value × List Nat)) (fun x => [(0, .slice A k.length c), (1, .slice B b.length d), (5, .slice A3 (padK k).length c3), (6, x.2.1.1), (7, x.2.2.1), (8, .int .i64 (x.1 : Int))])
      (fun x w' => x.1 ≤ 64 ∧ Sep w.heap.size w w' [Ck.own (bytes 5) x.2.2.2 [x.2.2.1] (((padK k).take x.1).map (· ^^^ 92)), Ck.own (bytes 5) x.2.1.2 [x.2.1.1] (((padK k).take x.1).map (· ^^^ 54)), Ck.own (bytes 5) f3 [.slice A3 (padK k).length c3] (padK k)]) (fun x => 64 - x.1) (0, (_, _), (_, _)) (vs trivial) ⟨Nat.zero_le _, H⟩ ?_
    rintro ⟨i, ⟨v7, f7⟩, ⟨v8, f8⟩⟩ s w7 ⟨hi, H⟩
    dsimp only at hi H
    by_cases q5 : ((i : Int) < 64)
    · have hi2 : i < (padK k).length := by omega
      refine ve q5 ?_
      have hp : ∀ (L : List Ck) (w9 : World), Sep w.heap.size w w9 L → Ck.own (bytes 5) f3 [.slice A3 (padK k).length c3] (padK k) ∈ L → Kd.sliceRd Kd.u8 w9 w9.heap.size A3 (padK k) := fun L w9 H hm => by
        obtain ⟨A', c', eA, _, _, hp⟩ := sl_open (H.own hm)
        injection eA with h1 h2 h3
        rw [h1]; exact hp
      refine x_elV pl_u8 sl22 i (hp _ _ H (.tail _ (.tail _ (.head _)))) (List.getElem?_eq_getElem hi2) rfl rfl fun ad hb1 hc1 _ => vs ?_
      refine x_load sc5 hc1 (vs ?_)
      rw [show (54 : Int) = ((54 : UInt8).toNat : Int) from rfl, ixor_u8]
      refine x_lst H pl_u8 sl22 [(padK k)[i] ^^^ 54] (by simp) fun g8 w8 H => vs ?_
      have hl5 : ∀ x : UInt8, (((padK k).take i).map (· ^^^ x)).length ≤ 64 := fun x => by simp only [List.length_map, List.length_take]; omega
      have l1 := hl5 54
      have l2 := hl5 92
      refine x_app (l := ((padK k).take i).map (· ^^^ 54)) H pl_u8 sl22 (H.own (.head _)) ?_ ?_ fun f9 v9 w9 H => vs ?_
      · simp only [List.length_cons, List.length_nil]; omega
      · simp only [List.length_cons, List.length_nil]; omega
      refine x_elV pl_u8 sl22 i (hp _ _ H (.tail _ (.tail _ (.tail _ (.head _))))) (List.getElem?_eq_getElem hi2) rfl rfl fun ad hb1 hc1 _ => vs ?_
      refine x_load sc5 hc1 (vs ?_)
      rw [show (92 : Int) = ((92 : UInt8).toNat : Int) from rfl, ixor_u8]
      refine x_lst H pl_u8 sl22 [(padK k)[i] ^^^ 92] (by simp) fun g10 w10 H => vs ?_
      refine x_app (l := ((padK k).take i).map (· ^^^ 92)) H pl_u8 sl22 (H.own (.head _)) ?_ ?_ fun f11 v11 w11 H => vs ?_
      · simp only [List.length_cons, List.length_nil]; omega
      · simp only [List.length_cons, List.length_nil]; omega
      rw [← map_step (· ^^^ 54) hi2, ← map_step (· ^^^ 92) hi2] at H
      exact ⟨(i + 1, (v9, f9), (v11, f11)), ⟨rfl, rfl, i64_eq (by show w64 ((i : Int) + 1) = ((i + 1 : Nat) : Int); exact w64_succ (b := 64) (by omega) (by omega))⟩, ⟨by show i + 1 ≤ 64; omega, H.tail.tail⟩, by show 64 - (i + 1) < 64 - i; omega⟩
    refine ve q5 ?_
    obtain rfl : i = 64 := by omega
    rw [List.take_of_length_le (by omega)] at H
    have l1 : ∀ x : UInt8, ((padK k).map (· ^^^ x)).length = 64 := fun x => by rw [List.length_map, hpl]
    refine x_app (l := (padK k).map (· ^^^ 54)) H pl_u8 sl22 (H.rd h0') ?_ ?_ fun f9 v9 w9 H => vs ?_
    · have := l1 54; omega
    · have := l1 54; omega
    refine x_callf H (specHash_ok w9 _ _ (H.own (.tail _ (.head _)))) fun r10 f10 w10 H => vs ?_
    have lh := hash_len ((padK k).map (· ^^^ 54) ++ b)
    refine x_app (l := (padK k).map (· ^^^ 92)) H pl_u8 sl22 (H.own (.head _)) ?_ ?_ fun f11 v11 w11 H => vs ?_
    · have := l1 92; omega
    · have := l1 92; omega
    refine x_callf H (specHash_ok w11 _ _ (H.own (.tail _ (.head _)))) fun r12 f12 w12 H => vs ?_
    exact ⟨_, H.head⟩
end Go.Proofs.YtcmckbgiiclomaaGreatDoor.V
