/- Letters as bytes; how many bytes letters have, both sides. -/
import Derived.Test.YtaaommmjpeedcaaWg
import Derived.Test.YtaaommmjpeedcaaWk
namespace Go.Proofs.Ytaaommmjpeedcaa.V
open Go Go.RowKit
set_option maxRecDepth 100000
set_option maxHeartbeats 4000000
set_option linter.unusedSimpArgs false
set_option linter.unusedVariables false
set_option pp.deepTerms false
set_option pp.deepTerms.threshold 3

theorem headOf_ok (w : World) (n : Int) (v : Value) (a : List UInt8) (hn : n < 9223372036854775808) (h : (bytes 5).rd w w.heap.size [v] a) (hl : a.length ≤ 1073741824) :
    ACalls Try.prog 102 #[.int .i64 n, v] w fun r w' => ∃ fp, Sep w.heap.size w w' [Ck.own (bytes 5) fp [r] ([1] ++ greatB n 2 ++ a)] := by
  have H := Sep.start w
  refine body_of follows Try.func102 rfl rfl _ rfl (by kernel_rfl) (vs ?_)
  refine x_lst H pl_u8 sl24 [1] (by simp) fun g1 w1 H => vs ?_
  refine x_callf H (implGreat_ok w1 n 2 hn) fun r2 f2 w2 H => vs ?_
  refine x_lstR (d := bytes 5) H sl37 rfl [_, _, _] [[1], greatB n 2, a] ⟨H.own (.tail _ (.head _)), H.own (.head _), H.rd h, trivial⟩ fun g3 w3 H hr => vs ?_
  have hg := greatB_len n 2
  have e : [[1], greatB n 2, a].flatten = [1] ++ greatB n 2 ++ a := by simp
  refine x_callf H (joined_ok w3 _ _ hr (by rw [e]; simp only [List.length_append, List.length_cons, List.length_nil]; omega)) fun r4 f4 w4 H => vs ?_
  rw [e] at H
  exact ⟨_, H.head⟩

def letterBytes (x : MLetter) : List UInt8 := if letterOk x = true then [1] ++ greatB x.f_Epoch 2 ++ x.f_From ++ x.f_Box else []

theorem implLetterBytes_ok (w : World) (cs : List Value) (x : MLetter) (h : kLetter.rd w w.heap.size cs x) :
    ACalls Try.prog 86 #[.agg cs.toArray] w fun r w' => ∃ fp, Sep w.heap.size w w' [Ck.own (bytes 5) fp [r] (letterBytes x)] := by
  obtain ⟨v1, v2, rfl, h0, h1, h2⟩ := kLetter_open h
  have H := Sep.start w
  refine body_of follows Try.func86 rfl rfl _ rfl (by kernel_rfl) (vs ?_)
  refine x_bx H [.int .i64 x.f_Epoch, v1, v2] fun g1 w1 H => vs ?_
  refine x_lda H st88 ?_
  refine vs ?_
  refine x_callb H (implLetterOk_ok w1 _ _ (H.rd h)) fun w2 H => ?_
  unfold letterBytes
  cases hok : letterOk x with
  | false =>
    refine vs ?_
    exact ⟨_, (H.nothing (sl_zero w2)).head⟩
  | true =>
    obtain ⟨_, hf, hb0, hb1⟩ := of_decide_eq_true hok
    refine vs ?_
    have J := Sep.start w2
    refine draw_of [(0, true), (1, true), (2, true), (3, true), (5, true), (6, true), (4, false), (7, false), (8, false), (9, true)] w2.heap.size [] fun w3 hh hb3 => vs ?_
    have J := J.go (hb3 _)
    have J3 := J
    refine q_ldB H J3 sc3 ?_
    refine vs ?_
    refine q_ldB H J3 sc24 ?_
    refine vs ?_
    refine q_ldB H J3 sc24 ?_
    refine vs ?_
    refine x_callf J (headOf_ok w3 _ v1 _ h0.2 (J.rd (H.rd h1)) (by omega)) fun r4 f4 w4 J => vs ?_
    refine ⟨kept_base J3 J, ?_⟩
    refine x_lstR (d := bytes 5) J sl37 rfl [_, _] [[1] ++ greatB x.f_Epoch 2 ++ x.f_From, x.f_Box] ⟨J.own (.head _), J.rd (H.rd h2), trivial⟩ fun g5 w5 J hr => vs ?_
    refine ⟨kept_base J3 J, ?_⟩
    have hg := greatB_len x.f_Epoch 2
    have e : [[1] ++ greatB x.f_Epoch 2 ++ x.f_From, x.f_Box].flatten = [1] ++ greatB x.f_Epoch 2 ++ x.f_From ++ x.f_Box := by simp
    refine x_callf J (joined_ok w5 _ _ hr (by rw [e]; simp only [List.length_append, List.length_cons, List.length_nil]; omega)) fun r6 f6 w6 J => vs ?_
    refine ⟨kept_base J3 J, ?_⟩
    rw [e] at J
    exact ⟨_, (H.join J).head⟩

theorem specLetterBytes_ok (w : World) (cs : List Value) (x : MLetter) (h : kLetter.rd w w.heap.size cs x) :
    ACalls Try.prog 85 #[.agg cs.toArray] w fun r w' => ∃ fp, Sep w.heap.size w w' [Ck.own (bytes 5) fp [r] (letterBytes x)] := by
  obtain ⟨v1, v2, rfl, h0, h1, h2⟩ := kLetter_open h
  have H := Sep.start w
  refine body_of follows Try.func85 rfl rfl _ rfl (by kernel_rfl) (vs ?_)
  refine x_bx H [.int .i64 x.f_Epoch, v1, v2] fun g1 w1 H => vs ?_
  refine x_lda H st88 ?_
  refine vs ?_
  refine x_callb H (specLetterOk_ok w1 _ _ (H.rd h)) fun w2 H => ?_
  unfold letterBytes
  cases hok : letterOk x with
  | false =>
    refine vs ?_
    refine x_emp H pl_u8 sl24 fun g3 w3 H => vs ?_
    exact ⟨_, H.head⟩
  | true =>
    obtain ⟨_, hf, hb0, hb1⟩ := of_decide_eq_true hok
    have hg := greatB_len x.f_Epoch 2
    refine vs ?_
    refine x_lst H pl_u8 sl24 [1] (by simp) fun g3 w3 H => vs ?_
    refine x_ld H sc3 ?_
    refine vs ?_
    refine x_callf H (specGreat_ok w3 x.f_Epoch 2 h0.2) fun r4 f4 w4 H => vs ?_
    refine x_app (l := [1]) H pl_u8 sl24 (H.own (.head _)) ?_ ?_ fun f5 v5 w5 H => vs ?_
    · simp only [List.length_cons, List.length_nil]; omega
    · simp only [List.length_cons, List.length_nil]; omega
    refine x_ld H sc24 ?_
    refine vs ?_
    refine x_app (l := [1] ++ greatB x.f_Epoch 2) H pl_u8 sl24 (H.rd h1) ?_ ?_ fun f6 v6 w6 H => vs ?_
    · simp only [List.length_append, List.length_cons, List.length_nil]; omega
    · simp only [List.length_append, List.length_cons, List.length_nil]; omega
    refine x_ld H sc24 ?_
    refine vs ?_
    refine x_app (l := [1] ++ greatB x.f_Epoch 2 ++ x.f_From) H pl_u8 sl24 (H.rd h2) ?_ ?_ fun f7 v7 w7 H => vs ?_
    · simp only [List.length_append, List.length_cons, List.length_nil]; omega
    · simp only [List.length_append, List.length_cons, List.length_nil]; omega
    exact ⟨_, H.only⟩

def fanSz (l : List MLetter) : Int := l.foldl (fun n x => w64 (n + ((letterBytes x).length : Int))) 0
theorem fanSz_succ (l : List MLetter) (k : Nat) (h : k < l.length) : fanSz (l.take (k + 1)) = w64 (fanSz (l.take k) + ((letterBytes l[k]).length : Int)) := by
  unfold fanSz
  rw [List.take_succ_eq_append_getElem h, List.foldl_append]; rfl

theorem specFanSize_ok (w : World) (v : Value) (l : List MLetter) (h : (Kd.slice 88 kLetter).rd w w.heap.size [v] l) :
    ACalls Try.prog 51 #[v] w fun r w' => r = .int .i64 (fanSz l) ∧ Below w.heap.size w w' := by
  have hlm := sl_len h
  obtain ⟨A, c, rfl, hc1, hc2, ha⟩ := sl_open h
  refine body_of follows Try.func51 rfl rfl _ rfl (by kernel_rfl) (vs ?_)
  refine loop_at (σ := Nat) (fun k => [(0, .slice A l.length c), (3, .int .i64 (fanSz (l.take k))), (4, .int .i64 (k : Int))])
    (fun k w' => k ≤ l.length ∧ Sep w.heap.size w w' []) (fun k => l.length - k) 0 (vs ?_) ⟨Nat.zero_le _, Sep.start w⟩ ?_
  · rfl
  rintro k s w2 ⟨hk, H⟩
  refine vs (ways ?_ ?_)
  · refine vh fun hlt => ?_
    have hk2 : k < l.length := by omega
    refine x_ele H sl53 rfl k hk2 ha rfl fun ad es hb hr hc => vs ?_
    refine x_lds st88 hc (Kd.len _ hr) (vs ?_)
    refine x_callf H (specLetterBytes_ok w2 es _ (H.rd hr)) fun r3 f3 w3 H => ?_
    obtain ⟨B, b, rfl, _⟩ := sl_open (H.own (.head _))
    refine vs ?_
    exact ⟨k + 1, ⟨i64_eq (fanSz_succ l k hk2).symm, i64_eq (w64_succ hk2 hlm)⟩, ⟨hk2, H.tail⟩, by omega⟩
  · refine vh fun hlt => ?_
    obtain rfl : k = l.length := by omega
    rw [List.take_length]
    exact ⟨rfl, H.bel⟩
theorem implFanSize_ok (w : World) (v : Value) (l : List MLetter) (h : (Kd.slice 88 kLetter).rd w w.heap.size [v] l) :
    ACalls Try.prog 52 #[v] w fun r w' => r = .int .i64 (fanSz l) ∧ Below w.heap.size w w' := by
  have hlm := sl_len h
  obtain ⟨A, c, rfl, hc1, hc2, ha⟩ := sl_open h
  refine body_of follows Try.func52 rfl rfl _ rfl (by kernel_rfl) (vs ?_)
  refine loop_at (σ := Nat) (fun k => [(3, .int .i64 (fanSz (l.take k))), (6, .slice A l.length c), (7, .int .i64 (l.length : Int)), (8, .int .i64 (k : Int))])
    (fun k w' => k ≤ l.length ∧ Sep w.heap.size w w' []) (fun k => l.length - k) 0 (vs ?_) ⟨Nat.zero_le _, Sep.start w⟩ ?_
  · rfl
  rintro k s w2 ⟨hk, H⟩
  refine vs (ways ?_ ?_)
  · refine vh fun hlt => ?_
    have hk2 : k < l.length := by omega
    refine x_ele H sl53 rfl k hk2 ha rfl fun ad es hb hr hc => vs ?_
    refine x_lds st88 hc (Kd.len _ hr) (vs ?_)
    have hone := Kd.one _ hr
    obtain ⟨u1, u2, rfl, _⟩ := kLetter_open hr
    refine x_al H st88 fun g w3 H => vs ?_
    refine x_sta H st88 (h1 := hone) fun w4 H => vs ?_
    refine x_lda H st88 ?_
    refine vs ?_
    refine x_callf H (implLetterBytes_ok w4 _ _ (H.rd hr)) fun r3 f3 w3 H => ?_
    obtain ⟨B, b, rfl, _⟩ := sl_open (H.own (.head _))
    refine vs ?_
    exact ⟨k + 1, ⟨i64_eq (fanSz_succ l k hk2).symm, i64_eq (w64_succ hk2 hlm)⟩, ⟨hk2, H.tail.tail⟩, by omega⟩
  · refine vh fun hlt => ?_
    obtain rfl : k = l.length := by omega
    rw [List.take_length]
    exact ⟨rfl, H.bel⟩
end Go.Proofs.Ytaaommmjpeedcaa.V
