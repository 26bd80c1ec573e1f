/- Keys drawn out: both sides. -/
import Derived.Test.YtfhbglaigjekpaaWmb
import Derived.Test.YtfhbglaigjekpaaVy
namespace Go.Proofs.Ytfhbglaigjekpaa.V
open Go Go.RowKit
set_option maxRecDepth 100000
set_option maxHeartbeats 4000000
set_option linter.unusedSimpArgs false
set_option linter.unusedVariables false
set_option pp.deepTerms false
set_option pp.deepTerms.threshold 3

def extract (salt b : List UInt8) : List UInt8 := mac (if salt.length = 0 then List.replicate 32 0 else salt) b
theorem extract_len (salt b : List UInt8) : (extract salt b).length ≤ 32 := mac_len _ _
theorem implExtract_ok (w : World) (v : Value) (salt : List UInt8) (u : Value) (b : List UInt8) (h : (bytes 5).rd w w.heap.size [v] salt) (h' : (bytes 5).rd w w.heap.size [u] b) :
    ACalls Try.prog 47 #[v, u] w fun r w' => ∃ fp, Sep w.heap.size w w' [Ck.own (bytes 5) fp [r] (extract salt b)] := by
  have h0 := h
  obtain ⟨A, c, rfl, _, _, ha⟩ := sl_open h
  have H := Sep.start w
  refine body_of follows Try.func47 rfl rfl _ rfl (by kernel_rfl) ?_
  by_cases q : ((salt.length : Int) = 0)
  · refine ve (eq_true q) ?_
    refine x_mk (m := 32) H pl_u8 (x := 0) sl22 trivial (by omega) (by omega) fun g w2 H => vs ?_
    refine x_callf H (implMac_ok w2 _ _ _ b (H.own (.head _)) (H.rd h')) fun r4 f4 w4 H => vs ?_
    have e : extract salt b = mac (List.replicate 32 0) b := by unfold extract; rw [if_pos (by omega)]
    rw [e]
    exact ⟨_, H.head⟩
  · refine ve (eq_false q) ?_
    refine x_callf H (implMac_ok w _ _ _ b h0 h') fun r4 f4 w4 H => vs ?_
    have e : extract salt b = mac salt b := by unfold extract; rw [if_neg (by omega)]
    rw [e]
    exact ⟨_, H.head⟩
theorem specExtract_ok (w : World) (v : Value) (salt : List UInt8) (u : Value) (b : List UInt8) (h : (bytes 5).rd w w.heap.size [v] salt) (h' : (bytes 5).rd w w.heap.size [u] b) :
    ACalls Try.prog 40 #[v, u] w fun r w' => ∃ fp, Sep w.heap.size w w' [Ck.own (bytes 5) fp [r] (extract salt b)] := by
  have h0 := h
  obtain ⟨A, c, rfl, _, _, ha⟩ := sl_open h
  have H := Sep.start w
  refine body_of follows Try.func40 rfl rfl _ rfl (by kernel_rfl) ?_
  by_cases q : ((salt.length : Int) = 0)
  · refine ve (eq_true q) ?_
    refine x_mk (m := 32) H pl_u8 (x := 0) sl22 trivial (by omega) (by omega) fun g w2 H => vs ?_
    refine x_callf H (specMac_ok w2 _ _ _ b (H.own (.head _)) (H.rd h')) fun r4 f4 w4 H => vs ?_
    have e : extract salt b = mac (List.replicate 32 0) b := by unfold extract; rw [if_pos (by omega)]
    rw [e]
    exact ⟨_, H.head⟩
  · refine ve (eq_false q) ?_
    refine x_callf H (specMac_ok w _ _ _ b h0 h') fun r4 f4 w4 H => vs ?_
    have e : extract salt b = mac salt b := by unfold extract; rw [if_neg (by omega)]
    rw [e]
    exact ⟨_, H.head⟩

def expT (key info : List UInt8) : Nat → List UInt8
  | 0 => []
  | n + 1 => mac key (expT key info n ++ info ++ [UInt8.ofNat ((n + 1) % 256)])
theorem expT_le (key info : List UInt8) : ∀ n, (expT key info n).length ≤ 32
  | 0 => by simp [expT]
  | n + 1 => mac_len _ _
theorem expT_len {key info : List UInt8} (hk : key.length ≤ 400) (hi : info.length ≤ 400) (n : Nat) : (expT key info (n + 1)).length = 32 := by
  rw [expT]
  have := expT_le key info n
  exact mac_len32 (by simp only [List.length_append, List.length_cons, List.length_nil]; omega) (by omega)
def expO (key info : List UInt8) : Nat → List UInt8
  | 0 => []
  | n + 1 => expO key info n ++ expT key info (n + 1)
theorem expO_len {key info : List UInt8} (hk : key.length ≤ 400) (hi : info.length ≤ 400) : ∀ n, (expO key info n).length = 32 * n
  | 0 => rfl
  | n + 1 => by rw [expO, List.length_append, expO_len hk hi n, expT_len hk hi n]; omega
def expand (key info : List UInt8) (many : Int) : List UInt8 :=
  if (1 ≤ many ∧ many ≤ 8160) ∧ info.length ≤ 400 ∧ key.length ≤ 400 then (expO key info ((many.toNat + 31) / 32)).take many.toNat else []
theorem expand_len (key info : List UInt8) (many : Int) : (expand key info many).length ≤ 8160 := by
  unfold expand
  split
  · rw [List.length_take]; omega
  · simp
theorem expand_len32 {key info : List UInt8} (hk : key.length ≤ 400) (hi : info.length ≤ 400) (many : Nat) (hm : 1 ≤ many ∧ many ≤ 8160) : (expand key info many).length = many := by
  unfold expand
  rw [if_pos ⟨by omega, by omega, by omega⟩, List.length_take, expO_len hk hi]
  simp only [Int.toNat_natCast]; omega

theorem implExpand_ok (w : World) (v : Value) (key : List UInt8) (u : Value) (info : List UInt8) (many : Int) (h : (bytes 5).rd w w.heap.size [v] key) (h' : (bytes 5).rd w w.heap.size [u] info) :
    ACalls Try.prog 46 #[v, u, .int .i64 many] w fun r w' => ∃ fp, Sep w.heap.size w w' [Ck.own (bytes 5) fp [r] (expand key info many)] := by
  have h0 := h
  have h0' := h'
  obtain ⟨A, c, rfl, _, _, ha⟩ := sl_open h
  obtain ⟨B, d, rfl, _, _, hb⟩ := sl_open h'
  have H := Sep.start w
  refine body_of follows Try.func46 rfl rfl _ rfl (by kernel_rfl) (vs ?_)
  refine x_callw (in_ok w _ _ _) ?_
  by_cases q1 : 1 ≤ many ∧ many ≤ 8160
  case neg =>
    refine ve q1 ?_
    have e : expand key info many = [] := by unfold expand; rw [if_neg (fun hh => q1 hh.1)]
    rw [e]; exact ⟨[], H.nothing (sl_zero w)⟩
  by_cases q3 : (400 : Int) < (info.length : Int)
  · refine ve (And.intro q1 q3) ?_
    have e : expand key info many = [] := by unfold expand; rw [if_neg (by omega)]
    rw [e]; exact ⟨[], H.nothing (sl_zero w)⟩
  by_cases q4 : (400 : Int) < (key.length : Int)
  · refine ve (And.intro q1 (And.intro q3 q4)) ?_
    have e : expand key info many = [] := by unfold expand; rw [if_neg (by omega)]
    rw [e]; exact ⟨[], H.nothing (sl_zero w)⟩
  refine ve (And.intro q1 (And.intro q3 q4)) ?_
  have es : expand key info many = (expO key info ((many.toNat + 31) / 32)).take many.toNat := by unfold expand; rw [if_pos ⟨q1, by omega, by omega⟩]
  rw [es]
  have hk : key.length ≤ 400 := by omega
  have hi : info.length ≤ 400 := by omega
  obtain ⟨m, rfl⟩ : ∃ q : Nat, many = (q : Int) := ⟨many.toNat, by omega⟩
  simp only [Int.toNat_natCast]
  have hO := expO_len hk hi
  refine x_emp H pl_u8 sl22 fun g w1 H => vs ?_
  refine x_emp H pl_u8 sl22 fun g' w2 H => vs ?_
  refine loop_at (σ := Nat × (Value × List Nat) × (Value × List Nat)) (fun x => [(0, .slice A key.length c), (1, .slice B info.length d), (2, .int .i64 (m : Int)), (7, x.2.2.1), (8, x.2.1.1), (9, .int .i64 ((x.1 + 1 : Nat) : Int))])
    (fun x w' => x.1 ≤ (m + 31) / 32 ∧ Sep w.heap.size w w' [Ck.own (bytes 5) x.2.1.2 [x.2.1.1] (expT key info x.1), Ck.own (bytes 5) x.2.2.2 [x.2.2.1] (expO key info x.1)]) (fun x => (m + 31) / 32 - x.1) (0, (_, _), (_, _)) (vs ?_) ⟨Nat.zero_le _, H⟩ ?_
  · trivial
  rintro ⟨j, ⟨v8, f8⟩, ⟨v9, f9⟩⟩ s w5 ⟨hj, H⟩
  dsimp only at hj H
  have hv := own_val (show (bytes 5).ow w5 f9 [v9] (expO key info j) from H.ok _ (.tail _ (.head _)))
  obtain ⟨A3, c3, rfl, _⟩ := hv
  have hOj := hO j
  by_cases hlt : (((expO key info j).length : Nat) : Int) < (m : Int)
  · refine ve hlt ?_
    rw [u8_of']
    refine x_lst H pl_u8 sl22 [UInt8.ofNat ((j + 1) % 256)] (by simp) fun g6 w6 H => vs ?_
    have H6 := H
    refine x_lstR (d := bytes 5) H sl26 rfl [_, _, _] [expT key info j, info, [UInt8.ofNat ((j + 1) % 256)]] ⟨H.own (.tail _ (.head _)), H.rd h0', H.own (.head _), trivial⟩ fun g7 w7 H hr => vs ?_
    have e2 : [expT key info j, info, [UInt8.ofNat ((j + 1) % 256)]].flatten = expT key info j ++ info ++ [UInt8.ofNat ((j + 1) % 256)] := by simp
    have hT := expT_le key info j
    refine x_callf H (joined_ok w7 _ _ hr (by rw [e2]; simp only [List.length_append, List.length_cons, List.length_nil]; omega)) fun r8 f8' w8 H => vs ?_
    rw [e2] at H
    refine x_callf H (implMac_ok w8 _ key _ _ (H.rd h0) (H.own (.head _))) fun r9 f10 w9 H => vs ?_
    have hT1 := expT_len hk hi j
    rw [expT] at hT1
    refine x_app (l := expO key info j) H pl_u8 sl22 (H.own (.head _)) ?_ ?_ fun f11 v11 w11 H => vs ?_
    · omega
    · omega
    refine ⟨(j + 1, (r9, f10), (v11, f11)), ⟨rfl, rfl, i64_eq (by show w64 (((j + 1 : Nat) : Int) + 1) = ((j + 1 + 1 : Nat) : Int); exact w64_succ (b := 640) (by omega) (by omega))⟩, ⟨by show j + 1 ≤ (m + 31) / 32; omega, ?_⟩, by show (m + 31) / 32 - (j + 1) < (m + 31) / 32 - j; omega⟩
    exact H.two (c := Ck.own (bytes 5) f10 [r9] (expT key info (j + 1))) (c' := Ck.own (bytes 5) f11 [v11] (expO key info (j + 1))) .here (by repeat (first | exact Out.here | apply Out.there))
  · have ej : j = (m + 31) / 32 := by omega
    refine ve hlt ?_
    have H := H.tail
    obtain ⟨_, _, eA, hcl, _⟩ := sl_open (H.own (.head _))
    injection eA with q1 q2 q3
    refine x_hiO sl22 (by omega) (vs ?_)
    have H := H.takeO (hi := m) pl_u8 (by omega)
    rw [ej] at H
    exact ⟨_, H⟩

theorem specExpand_ok (w : World) (v : Value) (key : List UInt8) (u : Value) (info : List UInt8) (many : Int) (h : (bytes 5).rd w w.heap.size [v] key) (h' : (bytes 5).rd w w.heap.size [u] info) :
    ACalls Try.prog 39 #[v, u, .int .i64 many] w fun r w' => ∃ fp, Sep w.heap.size w w' [Ck.own (bytes 5) fp [r] (expand key info many)] := by
  have h0 := h
  have h0' := h'
  obtain ⟨A, c, rfl, _, _, ha⟩ := sl_open h
  obtain ⟨B, d, rfl, _, _, hb⟩ := sl_open h'
  have H := Sep.start w
  refine body_of follows Try.func39 rfl rfl _ rfl (by kernel_rfl) (vs ?_)
  refine x_emp H pl_u8 sl22 fun g w1 H => vs ?_
  refine x_callw (l1In_ok w1 _ _ _) ?_
  by_cases q1 : 1 ≤ many ∧ many ≤ 8160
  case neg =>
    refine ve q1 ?_
    have e : expand key info many = [] := by unfold expand; rw [if_neg (fun hh => q1 hh.1)]
    rw [e]; exact ⟨_, H⟩
  by_cases q3 : (400 : Int) < (info.length : Int)
  · refine ve (And.intro q1 q3) ?_
    have e : expand key info many = [] := by unfold expand; rw [if_neg (by omega)]
    rw [e]; exact ⟨_, H⟩
  by_cases q4 : (400 : Int) < (key.length : Int)
  · refine ve (And.intro q1 (And.intro q3 q4)) ?_
    have e : expand key info many = [] := by unfold expand; rw [if_neg (by omega)]
    rw [e]; exact ⟨_, H⟩
  refine ve (And.intro q1 (And.intro q3 q4)) ?_
  have es : expand key info many = (expO key info ((many.toNat + 31) / 32)).take many.toNat := by unfold expand; rw [if_pos ⟨q1, by omega, by omega⟩]
  rw [es]
  have hk : key.length ≤ 400 := by omega
  have hi : info.length ≤ 400 := by omega
  obtain ⟨m, rfl⟩ : ∃ q : Nat, many = (q : Int) := ⟨many.toNat, by omega⟩
  simp only [Int.toNat_natCast]
  have hO := expO_len hk hi
  refine x_emp H pl_u8 sl22 fun g' w2 H => vs ?_
  refine loop_at (σ := Nat × (Value × List Nat) × (Value × List Nat)) (fun x => [(0, .slice A key.length c), (1, .slice B info.length d), (2, .int .i64 (m : Int)), (7, x.2.2.1), (8, x.2.1.1), (9, .int .i64 ((x.1 + 1 : Nat) : Int))])
    (fun x w' => x.1 ≤ (m + 31) / 32 ∧ Sep w.heap.size w w' [Ck.own (bytes 5) x.2.1.2 [x.2.1.1] (expT key info x.1), Ck.own (bytes 5) x.2.2.2 [x.2.2.1] (expO key info x.1)]) (fun x => (m + 31) / 32 - x.1) (0, (_, _), (_, _)) (vs ?_) ⟨Nat.zero_le _, H⟩ ?_
  · trivial
  rintro ⟨j, ⟨v8, f8⟩, ⟨v9, f9⟩⟩ s w5 ⟨hj, H⟩
  dsimp only at hj H
  have hv := own_val (show (bytes 5).ow w5 f9 [v9] (expO key info j) from H.ok _ (.tail _ (.head _)))
  obtain ⟨A3, c3, rfl, _⟩ := hv
  have hOj := hO j
  have hT := expT_le key info j
  by_cases hlt : (((expO key info j).length : Nat) : Int) < (m : Int)
  · refine ve hlt ?_
    refine x_emp H pl_u8 sl22 fun g6 w6 H => vs ?_
    refine x_app (l := []) H pl_u8 sl22 (H.own (.tail _ (.head _))) ?_ ?_ fun f7 v7 w7 H => vs ?_
    · simp only [List.length_nil]; omega
    · simp only [List.length_nil]; omega
    rw [List.nil_append] at H
    refine x_app (l := expT key info j) H pl_u8 sl22 (H.rd h0') ?_ ?_ fun f8' v8' w8 H => vs ?_
    · omega
    · omega
    rw [u8_of']
    refine x_lst H pl_u8 sl22 [UInt8.ofNat ((j + 1) % 256)] (by simp) fun g9 w9 H => vs ?_
    refine x_app (l := expT key info j ++ info) H pl_u8 sl22 (H.own (.head _)) ?_ ?_ fun f10 v10 w10 H => vs ?_
    · simp only [List.length_append, List.length_cons, List.length_nil]; omega
    · simp only [List.length_append, List.length_cons, List.length_nil]; omega
    refine x_callf H (specMac_ok w10 _ key _ _ (H.rd h0) (H.own (.tail _ (.head _)))) fun r9 f11 w11 H => vs ?_
    have hT1 := expT_len hk hi j
    rw [expT] at hT1
    refine x_app (l := expO key info j) H pl_u8 sl22 (H.own (.head _)) ?_ ?_ fun f12 v12 w12 H => vs ?_
    · omega
    · omega
    refine ⟨(j + 1, (r9, f11), (v12, f12)), ⟨rfl, rfl, i64_eq (by show w64 (((j + 1 : Nat) : Int) + 1) = ((j + 1 + 1 : Nat) : Int); exact w64_succ (b := 640) (by omega) (by omega))⟩, ⟨by show j + 1 ≤ (m + 31) / 32; omega, ?_⟩, by show (m + 31) / 32 - (j + 1) < (m + 31) / 32 - j; omega⟩
    exact H.two (c := Ck.own (bytes 5) f11 [r9] (expT key info (j + 1))) (c' := Ck.own (bytes 5) f12 [v12] (expO key info (j + 1))) .here (by repeat (first | exact Out.here | apply Out.there))
  · have ej : j = (m + 31) / 32 := by omega
    refine ve hlt ?_
    refine x_emp H pl_u8 sl22 fun g6 w6 H => vs ?_
    refine x_to sl22 rfl (H.own (.tail _ (.tail _ (.head _)))) (by omega) fun v7 hr7 => vs ?_
    refine x_app (l := []) H pl_u8 sl22 hr7 ?_ ?_ fun f8 v8 w8 H => vs ?_
    · simp only [List.length_nil, List.length_take]; omega
    · simp only [List.length_nil, List.length_take]; omega
    rw [List.nil_append, ej] at H
    exact ⟨_, H.head⟩

def derive (salt b info : List UInt8) (many : Int) : List UInt8 := expand (extract salt b) info many
theorem implDerive_ok (w : World) (v : Value) (salt : List UInt8) (u : Value) (b : List UInt8) (y : Value) (info : List UInt8) (many : Int) (h : (bytes 5).rd w w.heap.size [v] salt) (h' : (bytes 5).rd w w.heap.size [u] b) (h'' : (bytes 5).rd w w.heap.size [y] info) :
    ACalls Try.prog 25 #[v, u, y, .int .i64 many] w fun r w' => ∃ fp, Sep w.heap.size w w' [Ck.own (bytes 5) fp [r] (derive salt b info many)] := by
  have H := Sep.start w
  refine body_of follows Try.func25 rfl rfl _ rfl (by kernel_rfl) (vs ?_)
  refine x_callf H (implExtract_ok w _ _ _ b h h') fun r1 f1 w1 H => vs ?_
  refine x_callf H (implExpand_ok w1 _ _ _ info many (H.own (.head _)) (H.rd h'')) fun r2 f2 w2 H => vs ?_
  exact ⟨_, H.head⟩
theorem specDerive_ok (w : World) (v : Value) (salt : List UInt8) (u : Value) (b : List UInt8) (y : Value) (info : List UInt8) (many : Int) (h : (bytes 5).rd w w.heap.size [v] salt) (h' : (bytes 5).rd w w.heap.size [u] b) (h'' : (bytes 5).rd w w.heap.size [y] info) :
    ACalls Try.prog 18 #[v, u, y, .int .i64 many] w fun r w' => ∃ fp, Sep w.heap.size w w' [Ck.own (bytes 5) fp [r] (derive salt b info many)] := by
  have H := Sep.start w
  refine body_of follows Try.func18 rfl rfl _ rfl (by kernel_rfl) (vs ?_)
  refine x_callf H (specExtract_ok w _ _ _ b h h') fun r1 f1 w1 H => vs ?_
  refine x_callf H (specExpand_ok w1 _ _ _ info many (H.own (.head _)) (H.rd h'')) fun r2 f2 w2 H => vs ?_
  exact ⟨_, H.head⟩
end Go.Proofs.Ytfhbglaigjekpaa.V
