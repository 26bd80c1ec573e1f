/- The law of growths that are proved, walked. -/
import Derived.Test.YtlkplnioaiahhaaWdn
import Derived.Test.YtlkplnioaiahhaaWdd
import Derived.Test.YtlkplnioaiahhaaLha
namespace Go.Proofs.Ytlkplnioaiahhaa.V
open Go Go.RowKit
set_option maxRecDepth 100000
set_option maxHeartbeats 8000000
set_option linter.unusedSimpArgs false
set_option linter.unusedVariables false
set_option pp.deepTerms false
set_option pp.deepTerms.threshold 3

theorem xor_ne {a c : UInt8} (h : c ≠ 0) : ¬ (a ^^^ c) = a := fun e => h (by
  have h1 : a ^^^ (a ^^^ c) = a ^^^ a := by rw [e]
  rw [← UInt8.xor_assoc, UInt8.xor_self, UInt8.zero_xor] at h1
  exact h1)
theorem ofNat_ne {k : Nat} (h0 : 0 < k) (h1 : k < 256) : UInt8.ofNat k ≠ 0 := fun e => by
  have := congrArg UInt8.toNat e
  rw [UInt8.toNat_ofNat'] at this
  simp at this
  omega
theorem set_ne {l : List UInt8} {j : Nat} (hj : j < l.length) {x : UInt8} (h : ¬ x = l[j]) : ¬ l = l.set j x := fun e => h (by
  have : (l.set j x)[j]? = l[j]? := by rw [← e]
  rw [List.getElem?_set_self hj, List.getElem?_eq_getElem hj] at this
  exact Option.some.inj this)

theorem w64_1p {j : Nat} (h : j < 255) : w64 (1 + (j : Int)) = ((1 + j : Nat) : Int) := by rw [w64_id (by omega) (by omega)]; omega
theorem u8_low1 {j : Nat} (h : j < 255) : ((1 + j : Nat) : Int) % 256 = ((UInt8.ofNat (1 + j)).toNat : Int) := u8_low (by omega)
theorem root33 (l : List (List UInt8)) : (rootOf l).length ≤ 33 := by have := rootOf_len l; omega
theorem app_lim {p : List ShV} (h : p.length ≤ 1000) : (([] : List ShV).length + p.length) * 24 ≤ 140737488355328 := by simp only [List.length_nil]; omega
theorem app_lim2 {p : List ShV} (h : p.length ≤ 1000) : ([] : List ShV).length + p.length ≤ 9223372036854775807 := by simp only [List.length_nil]; omega
theorem app_lim3 {p : List ShV} {x : ShV} (h : p.length ≤ 1000) : (p.length + [x].length) * 24 ≤ 140737488355328 := by simp only [List.length_cons, List.length_nil]; omega
theorem app_lim4 {p : List ShV} {x : ShV} (h : p.length ≤ 1000) : p.length + [x].length ≤ 9223372036854775807 := by simp only [List.length_cons, List.length_nil]; omega
theorem q_rem {P : Program} {m : Nat} {G : List (Nat × Nat)} {w0 : World} {K : Value → Prop} {tg : Tg (m, G, w0, K)} {t : TypeId} {x y : Operand} {k : IntKind} {a b : Int} (h : K (.int k (a.tmod b))) (hb : b ≠ 0) : QBin P m G w0 K tg .rem t x y (.int k a) (.int k b) := by
  unfold QBin; exact QS_of (fun w _ => (run_div hb).2) h
theorem own_at2 {n : Nat} {w0 w : World} {L : List Ck} {α : Type} {d : Kd α} {e : TypeId} {fp : List Nat} {A : Option Addr} {m c : Nat} {l : List α} (H : Sep n w0 w (Ck.own (Kd.slice e d) fp [.slice A m c] l :: L)) (hl : 0 < l.length) : ∃ g, A = some ⟨g, 0, none⟩ := by
  obtain ⟨v', rows, fs, hv, hr⟩ := (show (Kd.slice e d).ow w fp [.slice A m c] l from H.ok _ (.head _))
  simp only [List.cons.injEq, and_true] at hv
  subst hv
  rcases hr.row.2 with ⟨h1, h2⟩ | ⟨g', cap, cur, h1, _⟩
  · omega
  · cases h1; exact ⟨g', rfl⟩
theorem FnGrown_ok (w : World) (v0 : Value) (x0 : List UInt8) (h0 : (bytes 5).rd w w.heap.size [v0] x0) :
    ACalls Try.prog 3 #[v0] w fun r w' => r = .bool true ∧ Below w.heap.size w w' := by
  refine body_of follows Try.func3 rfl rfl _ rfl (by kernel_rfl) (vs ?_)
  refine x_callw (big_ok w v0 x0 h0) ?_
  by_cases q0 : 1048576 < (x0.length : Int)
  · refine ve q0 ?_
    exact Below.refl ..
  refine ve q0 ?_
  have hx0 : x0.length ≤ 1048576 := by omega
  refine x_call (drawGrownOf_ok w v0 x0 h0) fun _ w1 ⟨u, l, f1, m, e, hd, hm, H⟩ => ?_
  subst e
  refine vs ?_
  refine x_callf H (implGrownOf_ok w1 u l m (H.own (.head _)) hd.few) fun r5 f5 w2 H => vs ?_
  refine x_call (drawGrownOk_ok w2 v0 x0 (H.rd h0)) fun _ w3 ⟨v6, v7, v10, old, root, p, m2, n2, e, ⟨hol, hrl⟩, hpf, hb3, R6, R7, R10⟩ => ?_
  subst e
  have H := H.go hb3
  refine vs ?_
  have R3 := H.own (d := lists) (fp := f1) (cs := [u]) (x := l) (by simp)
  have R5 := H.own (d := lists) (fp := f5) (cs := [r5]) (x := grownOf l m) (by simp)
  obtain ⟨A3, c3, rfl, _, _, _⟩ := sl_open R3
  obtain ⟨A5, c5, rfl, _⟩ := sl_open R5
  have J := Sep.start w3
  refine x_callf J (specGrownOf_ok w3 _ l m R3 hd.few) fun r35 f35 w4 J => vs ?_
  refine x_callb J (sameLists_ok w4 _ _ (grownOf l m) (J.rd R5) (J.own (.head _))) fun w5 J => vs ?_
  refine x_callb J (implGrownOk_ok w5 v6 old v7 root m2 n2 v10 p (J.rd R6) (J.rd R7) (J.rd R10) (by omega) hpf) fun w6 J => vs ?_
  refine x_callb J (specGrownOk_ok w6 v6 old v7 root m2 n2 v10 p (J.rd R6) (J.rd R7) (J.rd R10) (by omega) hpf) fun w7 J => ?_
  refine vs ?_
  have hl := hd.1
  by_cases q1 : m < 1
  · refine ve q1 ?_
    exact ⟨by unfold grownOf; rw [if_neg (by omega)]; rfl, (H.join J).bel⟩
  refine ve q1 ?_
  by_cases q2 : (l.length : Int) < m
  · refine ve q2 ?_
    exact ⟨by unfold grownOf; rw [if_neg (by omega)]; rfl, (H.join J).bel⟩
  refine ve q2 ?_
  by_cases q3 : 40 < (l.length : Int)
  · refine ve q3 ?_
    exact ⟨by unfold grownOf; rw [if_neg (by omega)]; rfl, (H.join J).bel⟩
  refine ve q3 ?_
  clear R6 R7 R10
  obtain ⟨k, rfl⟩ : ∃ k : Nat, m = (k : Int) := ⟨m.toNat, by omega⟩
  have hk : k ≤ l.length := by omega
  have h40 : l.length ≤ 40 := by omega
  have h32 : (rootOf l).length = 32 := rootOf_32 l.length l (Nat.le_refl _) h40 fun a ha => by have := hd.2 a ha; omega
  refine x_to (wr := w7) sl24 rfl (J.rd R3) hk fun v71 hv71 => ?_
  refine vs ?_
  refine x_callf J (implRootOf_ok w7 v71 (l.take k) hv71 (hd.few.take k)) fun r11 f11 w8 J => vs ?_
  refine x_callf J (implRootOf_ok w8 _ l (J.rd R3) hd.few) fun r12 f12 w9 J => vs ?_
  obtain ⟨A12, c12, rfl, _⟩ := sl_open (J.own (.head _))
  refine x_emp J pl_u8 sl22 fun g13 w10 J => vs ?_
  refine x_app (l := []) J pl_u8 sl22 (J.own (.tail _ (.head _))) ?_ ?_ fun f13 v13 w11 J => vs ?_
  · simp only [List.length_nil]; omega
  · simp only [List.length_nil]; omega
  rw [List.nil_append] at J
  obtain ⟨A13, c13, rfl, _, _, _⟩ := sl_open (J.own (.head _))
  obtain ⟨gb, rfl⟩ := own_at2 J (by omega)
  refine draw_zat [(0, true), (1, true), (6, true), (2, false), (3, true), (4, true), (5, true), (7, false), (8, true), (9, true), (10, true), (11, true), (12, true)] 13 [13] [] fun w12 hh hb12 => vs ?_
  have J := J.go (hb12 _)
  have Q := Sep.start w12
  have hx12 : (bytes 5).rd w12 w12.heap.size [v0] x0 := (H.join J).rd h0
  have Rb := J.own (.head _)
  obtain ⟨Ab, cb, eb, _, _, hba⟩ := sl_open Rb
  simp only [List.cons.injEq, Value.slice.injEq, and_true] at eb
  obtain ⟨rfl, _, _⟩ := eb
  obtain ⟨_, hbc⟩ := pl_u8.slRd.1 hba
  refine x_call (at_ok w12 v0 x0 1 hx12 (by omega) hx0) fun _ w13 ⟨k1, e, hk1, e2⟩ => ?_
  subst e
  rw [e2]
  clear e2
  refine vs ?_
  refine ⟨Kept.refl .., ?_⟩
  refine q_rem (h := ?_) (hb := by decide)
  rw [show ((32 : Int)) = ((32 : Nat) : Int) from rfl, tmod_nat]
  obtain ⟨j, hj⟩ : ∃ j, j = k1 % 32 := ⟨_, rfl⟩
  have hj32 : j < 32 := by rw [hj]; exact Nat.mod_lt _ (by omega)
  rw [← hj]
  clear hj
  have hjl : j < (rootOf l).length := by omega
  refine vs ?_
  refine qx_index sl22 rfl (by omega) (by omega) ?_
  refine vs ?_
  obtain ⟨_, hlt5, hc5⟩ := hbc j hjl
  rw [adA_some] at hlt5
  rw [adA_some, Kd.add_at, Nat.zero_add] at hc5
  refine qx_load sc5 hc5 hlt5 (by simp) ?_
  refine vs ?_
  refine x_call (at_ok w12 v0 x0 2 hx12 (by omega) hx0) fun _ w14 ⟨k2, e, hk2, e3⟩ => ?_
  subst e
  rw [e3]
  clear e3
  refine vs ?_
  refine ⟨Kept.refl .., ?_⟩
  refine q_rem (h := ?_) (hb := by decide)
  rw [show ((255 : Int)) = ((255 : Nat) : Int) from rfl, tmod_nat]
  obtain ⟨j2, hj2⟩ : ∃ j, j = k2 % 255 := ⟨_, rfl⟩
  have hj255 : j2 < 255 := by rw [hj2]; exact Nat.mod_lt _ (by omega)
  rw [← hj2]
  clear hj2
  have e1 := w64_1p hj255
  have e2 := u8_low1 hj255
  have e3 := ixor_u8 (a := (rootOf l)[j]) (b := UInt8.ofNat (1 + j2))
  refine vs ?_
  refine qx_index sl22 rfl (by omega) (by omega) ?_
  refine vs ?_
  refine dl_cons ⟨_, rfl, ve (And.intro e1 (And.intro e2 e3)) ?_⟩
  clear e1 e2 e3
  refine x_set J pl_u8 sc5 (x := (rootOf l)[j] ^^^ UInt8.ofNat (1 + j2)) hjl trivial fun w15 J => ?_
  refine dl_nil (vs ?_)
  have Q := Sep.start w15
  have Rbent := J.own (.head _)
  have Rold := J.own (d := bytes 5) (fp := f11) (cs := [r11]) (x := rootOf (l.take k)) (by simp)
  have Rroot := J.own (d := bytes 5) (fp := f12) (cs := [.slice A12 (rootOf l).length c12]) (x := rootOf l) (by simp)
  have R5b := J.rd R5
  have hbel := (H.join J).bel
  obtain ⟨bent, hbe⟩ : ∃ x, x = (rootOf l).set j ((rootOf l)[j] ^^^ UInt8.ofNat (1 + j2)) := ⟨_, rfl⟩
  have hbne : ¬ rootOf l = bent := by rw [hbe]; exact set_ne hjl (xor_ne (ofNat_ne (by omega) (by omega)))
  have hblen : bent.length ≤ 1073741824 := by rw [hbe, List.length_set]; omega
  rw [← hbe] at Rbent
  obtain ⟨g1, g2, g3⟩ := grownOk_right (l := l) (m := (k : Int)) ⟨by omega, by omega, h40⟩ bent (rootOf l) hbne
  simp only [Int.toNat_natCast] at g1 g2 g3
  have ho : (rootOf (l.take k)).length ≤ 1073741824 := by have := rootOf_len (l.take k); omega
  have hf5 := (grownOf_few l (k : Int)).2
  refine x_callb Q (implGrownOk_ok w15 r11 (rootOf (l.take k)) _ (rootOf l) (k : Int) (l.length : Int) _ (grownOf l (k : Int)) Rold Rroot R5b ho hf5) fun w16 Q => ?_
  refine ve g1 ?_
  refine x_callb Q (implGrownOk_ok w16 r11 (rootOf (l.take k)) _ bent (k : Int) (l.length : Int) _ (grownOf l (k : Int)) (Q.rd Rold) (Q.rd Rbent) (Q.rd R5b) ho hf5) fun w17 Q => ?_
  refine ve g2 ?_
  obtain ⟨p', hp', hpm⟩ := toSh (Q.rd R5b)
  have Rr17 := Q.rd Rroot
  have Ro17 := Q.rd Rold
  have T := Sep.start w17
  refine x_empO (d := shB w17 w17.heap.size) T sl24 fun g20 w20 T => vs ?_
  have hplen : p'.length ≤ 1000 := by
    have := (grownOf_few l (k : Int)).1
    rw [← hpm, List.length_map] at this
    exact this
  refine x_app (l := []) T (pl_sh w17 w17.heap.size) sl24 (T.rd hp') (app_lim hplen) (app_lim2 hplen) fun f21 v21 w21 T => vs ?_
  rw [List.nil_append] at T
  refine x_lst T (pl_sh w17 w17.heap.size) sl24 [(A12, c12, rootOf l)] (fun x hx => by rw [List.mem_singleton.1 hx]; exact Rr17) fun g22 w22 T => vs ?_
  refine x_app T (pl_sh w17 w17.heap.size) sl24 (T.own (.head _)) (app_lim3 hplen) (app_lim4 hplen) fun f23 v23 w23 T => vs ?_
  have Rp := ofSh (T.own (.tail _ (.head _))) T.bel T.ns
  rw [List.map_append, hpm] at Rp
  have Rp : lists.rd w23 w23.heap.size [v23] (grownOf l (k : Int) ++ [rootOf l]) := Rp
  refine x_callb T (implGrownOk_ok w23 r11 (rootOf (l.take k)) _ (rootOf l) (k : Int) (l.length : Int) v23 (grownOf l (k : Int) ++ [rootOf l]) (T.rd Ro17) (T.rd Rr17) Rp ho (few_app hf5 (root33 l))) fun w24 T => ?_
  refine ve g3 ?_
  exact (H.join (J.join (Q.join T))).bel
end Go.Proofs.Ytlkplnioaiahhaa.V
