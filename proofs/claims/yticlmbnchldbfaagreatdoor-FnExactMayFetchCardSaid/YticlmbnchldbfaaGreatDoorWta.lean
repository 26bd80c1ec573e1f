/- Tokens issued: both sides. Laid by a program. -/
import Derived.Test.YticlmbnchldbfaaGreatDoorWqx
import Derived.Test.YticlmbnchldbfaaGreatDoorWmb
import Derived.Test.YticlmbnchldbfaaGreatDoorWb
import Derived.Test.YticlmbnchldbfaaGreatDoorWsb
namespace Go.Proofs.YticlmbnchldbfaaGreatDoor.V
open Go Go.RowKit
set_option maxRecDepth 100000
set_option maxHeartbeats 2000000
set_option linter.unusedSimpArgs false
set_option linter.unusedVariables false
set_option pp.deepTerms false
set_option pp.deepTerms.threshold 3

def issue (k : List UInt8) (x : MToken) : List UInt8 := if tokenText x ≠ [] ∧ k.length = 32 then tokenText x ++ [46] ++ sixes (mac k (tokenText x)) else []
theorem issue_no {k : List UInt8} {x : MToken} (h : ¬ (tokenText x ≠ [] ∧ k.length = 32)) : issue k x = [] := by unfold issue; rw [if_neg h]
theorem issue_ok {k : List UInt8} {x : MToken} (h : tokenText x ≠ []) (h2 : k.length = 32) : issue k x = tokenText x ++ [46] ++ sixes (mac k (tokenText x)) := by unfold issue; rw [if_pos ⟨h, h2⟩]
theorem issue_len (k : List UInt8) (x : MToken) : (issue k x).length ≤ 104 := by
  unfold issue
  split
  · have h1 := tokenText_len x
    have h2 := sixes_len (mac k (tokenText x))
    have h3 := mac_len k (tokenText x)
    simp only [List.length_append, List.length_cons, List.length_nil]; omega
  · simp
theorem implIssue_ok (w : World) (v : Value) (k : List UInt8) (cs : List Value) (x : MToken) (hk : (bytes 5).rd w w.heap.size [v] k) (h : kToken.rd w w.heap.size cs x) (hs : smToken x) (ht : Tab w) :
    ACalls Tryz.prog 9 #[v, .agg cs.toArray] w fun r w' => r = .string ⟨(issue k x).toArray⟩ ∧ Below w.heap.size w w' := by
  have hk9 := hk
  have hkm := sl_len hk
  have h9 := h
  have h1 := tokenText_len x
  have h2 := sixes_len (mac k (tokenText x))
  have h3 := mac_len k (tokenText x)
  obtain ⟨A, c, rfl, _⟩ := sl_open hk
  obtain ⟨_, rfl, _⟩ := kToken_open h
  have H := Sep.start w
  refine body_of follows Tryz.func9 rfl rfl _ rfl (by kernel_rfl) (vs ?_)
  refine x_bx H [.string ⟨x.f_Route.toArray⟩, .int .i64 x.f_Until] fun g1 w1 H => vs ?_
  refine x_lda H st25 ?_
  refine vs ?_
  refine x_callb H (implTokenText_ok w1 _ x (H.rd h9) hs (ht.below H.bel)) fun w2 H => vs ?_
  generalize hT : tokenText x = T at *
  have hz : (Value.string (⟨#[]⟩ : ByteArray)) = .string ⟨([] : List UInt8).toArray⟩ := rfl
  by_cases he : T = []
  · have et := issue_no (k := k) (x := x) (fun hh => hh.1 (by rw [hT]; exact he))
    refine ve he ?_
    rw [et]
    exact ⟨rfl, H.bel⟩
  refine ve he ?_
  by_cases hl : (k.length : Int) = 32
  rotate_left
  · have et := issue_no (k := k) (x := x) (fun hh => hl (by omega))
    refine ve hl ?_
    rw [et]
    exact ⟨rfl, H.bel⟩
  have et := issue_ok (k := k) (x := x) (by rw [hT]; exact he) (by omega)
  rw [hT] at et
  refine ve hl ?_
  refine x_sadd (a := T) (b := [46]) (by simp only [List.length_cons, List.length_nil]; omega) ?_
  refine vs ?_
  refine x_sbytes Tryz.underlying9 Tryz.underlying22 Tryz.underlying5 H (by omega) fun v3 w3 H hv3 => vs ?_
  refine x_callf H (implMac_ok w3 _ k _ T (H.rd hk9) hv3) fun r4 f4 w4 H => vs ?_
  refine x_callb H (implSixes_ok w4 _ (mac k T) (H.own (.head _)) (by omega)) fun w5 H => vs ?_
  refine x_sadd (a := T ++ [46]) (b := sixes (mac k T)) (by simp only [List.length_append, List.length_cons, List.length_nil]; omega) ?_
  refine vs ?_
  rw [et]
  exact ⟨rfl, H.bel⟩
theorem specIssue_ok (w : World) (v : Value) (k : List UInt8) (cs : List Value) (x : MToken) (hk : (bytes 5).rd w w.heap.size [v] k) (h : kToken.rd w w.heap.size cs x) (hs : smToken x) (ht : Tab w) :
    ACalls Tryz.prog 15 #[v, .agg cs.toArray] w fun r w' => r = .string ⟨(issue k x).toArray⟩ ∧ Below w.heap.size w w' := by
  have hk9 := hk
  have hkm := sl_len hk
  have h9 := h
  have h1 := tokenText_len x
  have h2 := sixes_len (mac k (tokenText x))
  have h3 := mac_len k (tokenText x)
  obtain ⟨A, c, rfl, _⟩ := sl_open hk
  obtain ⟨_, rfl, _⟩ := kToken_open h
  have H := Sep.start w
  refine body_of follows Tryz.func15 rfl rfl _ rfl (by kernel_rfl) (vs ?_)
  refine x_bx H [.string ⟨x.f_Route.toArray⟩, .int .i64 x.f_Until] fun g1 w1 H => vs ?_
  refine x_lda H st25 ?_
  refine vs ?_
  refine x_callb H (specTokenText_ok w1 _ x (H.rd h9) hs (ht.below H.bel)) fun w2 H => vs ?_
  generalize hT : tokenText x = T at *
  have hz : (Value.string (⟨#[]⟩ : ByteArray)) = .string ⟨([] : List UInt8).toArray⟩ := rfl
  by_cases he : T = []
  · have et := issue_no (k := k) (x := x) (fun hh => hh.1 (by rw [hT]; exact he))
    refine ve he ?_
    rw [et]
    exact ⟨rfl, H.bel⟩
  refine ve he ?_
  by_cases hl : (k.length : Int) = 32
  rotate_left
  · have et := issue_no (k := k) (x := x) (fun hh => hl (by omega))
    refine ve hl ?_
    rw [et]
    exact ⟨rfl, H.bel⟩
  have et := issue_ok (k := k) (x := x) (by rw [hT]; exact he) (by omega)
  rw [hT] at et
  refine ve hl ?_
  refine x_sadd (a := T) (b := [46]) (by simp only [List.length_cons, List.length_nil]; omega) ?_
  refine vs ?_
  refine x_sbytes Tryz.underlying9 Tryz.underlying22 Tryz.underlying5 H (by omega) fun v3 w3 H hv3 => vs ?_
  refine x_callf H (specMac_ok w3 _ k _ T (H.rd hk9) hv3) fun r4 f4 w4 H => vs ?_
  refine x_callb H (specSixes_ok w4 _ (mac k T) (H.own (.head _)) (by omega)) fun w5 H => vs ?_
  refine x_sadd (a := T ++ [46]) (b := sixes (mac k T)) (by simp only [List.length_append, List.length_cons, List.length_nil]; omega) ?_
  refine vs ?_
  rw [et]
  exact ⟨rfl, H.bel⟩
end Go.Proofs.YticlmbnchldbfaaGreatDoor.V
