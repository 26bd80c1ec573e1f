/- The law of ways that lead to the root, walked. -/
import Derived.Test.YtlkplnioaiahhaaWdi
import Derived.Test.YtlkplnioaiahhaaLha
namespace Go.Proofs.Ytlkplnioaiahhaa.V
open Go Go.RowKit
set_option maxRecDepth 100000
set_option maxHeartbeats 8000000
set_option linter.unusedSimpArgs false
set_option linter.unusedVariables false
set_option pp.deepTerms false
set_option pp.deepTerms.threshold 3

theorem pathOf_few (l : List (List UInt8)) (i : Int) : Few' (pathOf l i) := fun a ha => by have := (pathOf_len l.length l i (Nat.le_refl _)).2 a ha; omega
theorem FnProofs_ok (w : World) (v0 : Value) (x0 : List UInt8) (h0 : (bytes 5).rd w w.heap.size [v0] x0) :
    ACalls Try.prog 12 #[v0] w fun r w' => r = .bool true ∧ Below w.heap.size w w' := by
  refine body_of follows Try.func12 rfl rfl _ rfl (by kernel_rfl) (vs ?_)
  refine x_callw (big_ok w v0 x0 h0) ?_
  by_cases q0 : 1048576 < (x0.length : Int)
  · refine ve q0 ?_
    exact Below.refl ..
  refine ve q0 ?_
  refine x_call (drawPathOf_ok w v0 x0 h0) fun _ w1 ⟨u, l, f1, i, e, hd, hi, H⟩ => ?_
  subst e
  refine vs ?_
  refine x_callf H (implPathOf_ok w1 u l i (H.own (.head _)) hd.few) fun r5 f5 w2 H => vs ?_
  refine x_call (drawRootOf_ok w2 v0 x0 (H.rd h0)) fun r6 w3 ⟨l6, f6, hd6, S⟩ => vs ?_
  have H := H.join S
  simp only [List.cons_append, List.nil_append] at H
  refine x_call (drawNodeOf_ok w3 v0 x0 (H.rd h0)) fun _ w4 ⟨ua, ub, ba, bb, fa, fb, e, ⟨hba, hbb⟩, S⟩ => ?_
  subst e
  have H := H.join S
  simp only [List.cons_append, List.nil_append] at H
  refine vs ?_
  refine x_call (drawLeafOf_ok w4 v0 x0 (H.rd h0)) fun r9 w5 ⟨b9, f9, hb9, S⟩ => vs ?_
  have H := H.join S
  simp only [List.cons_append, List.nil_append] at H
  refine x_call (drawRootBy_ok w5 v0 x0 (H.rd h0)) fun _ w6 ⟨v10, v13, leaf, path, i11, n12, e, hlf, hfw, hb6, R10, R13⟩ => ?_
  subst e
  have H := H.go hb6
  refine vs ?_
  have R3 := H.own (d := lists) (fp := f1) (cs := [u]) (x := l) (by simp)
  have R5 := H.own (d := lists) (fp := f5) (cs := [r5]) (x := pathOf l i) (by simp)
  have R6 := H.own (d := lists) (fp := f6) (cs := [r6]) (x := l6) (by simp)
  have Ra := H.own (d := bytes 5) (fp := fa) (cs := [ua]) (x := ba) (by simp)
  have Rb := H.own (d := bytes 5) (fp := fb) (cs := [ub]) (x := bb) (by simp)
  have R9 := H.own (d := bytes 5) (fp := f9) (cs := [r9]) (x := b9) (by simp)
  obtain ⟨A3, c3, rfl, _, _, ha3⟩ := sl_open R3
  obtain ⟨A5, c5, rfl, _⟩ := sl_open R5
  have J := Sep.start w6
  refine x_call (implRootBy_ok w6 v10 leaf i11 n12 v13 path R10 R13 (by omega) hfw) fun _ w7 ⟨v14, f14, e, S⟩ => ?_
  subst e
  have J := J.join S
  simp only [List.append_nil] at J
  refine vs ?_
  refine x_call (specRootBy_ok w7 v10 leaf i11 n12 v13 path (J.rd R10) (J.rd R13) (by omega) hfw) fun _ w8 ⟨v16, f16, e, S⟩ => ?_
  subst e
  have J := J.join S
  simp only [List.cons_append, List.nil_append] at J
  refine vs ?_
  refine x_callf J (specPathOf_ok w8 _ l i (J.rd R3) hd.few) fun r67 f67 w9 J => vs ?_
  refine x_callb J (sameLists_ok w9 _ _ (pathOf l i) (J.rd R5) (J.own (.head _))) fun w10 J => vs ?_
  refine x_callf J (implRootOf_ok w10 _ l6 (J.rd R6) hd6.few) fun r72 f72 w11 J => vs ?_
  refine x_callf J (specRootOf_ok w11 _ l6 (J.rd R6) hd6.few) fun r74 f74 w12 J => vs ?_
  refine x_callw (implSame_ok w12 _ _ (rootOf l6) (rootOf l6) (J.own (.tail _ (.head _))) (J.own (.head _))) (vs ?_)
  refine x_callf J (implNodeOf_ok w12 _ ba _ bb (J.rd Ra) (J.rd Rb) (by omega)) fun r81 f81 w13 J => vs ?_
  refine x_callf J (specNodeOf_ok w13 _ ba _ bb (J.rd Ra) (J.rd Rb) (by omega)) fun r84 f84 w14 J => vs ?_
  refine x_callw (implSame_ok w14 _ _ (nodeOf ba bb) (nodeOf ba bb) (J.own (.tail _ (.head _))) (J.own (.head _))) (vs ?_)
  refine x_callf J (implLeafOf_ok w14 _ b9 (J.rd R9) (by omega)) fun r90 f90 w15 J => vs ?_
  refine x_callf J (specLeafOf_ok w15 _ b9 (J.rd R9) (by omega)) fun r92 f92 w16 J => vs ?_
  refine x_callw (implSame_ok w16 _ _ (leafOf b9) (leafOf b9) (J.own (.tail _ (.head _))) (J.own (.head _))) (vs ?_)
  have R14 := J.own (d := bytes 5) (fp := f14) (cs := [v14]) (x := (rootBy leaf i11 n12 path).getD []) (by simp)
  have R16 := J.own (d := bytes 5) (fp := f16) (cs := [v16]) (x := (rootBy leaf i11 n12 path).getD []) (by simp)
  refine x_callw (implSame_ok w16 _ _ _ _ R14 R16) (vs ?_)
  have HJ : ∀ {w' L'}, Sep w6.heap.size w6 w' L' → Below w.heap.size w w' := fun J => (H.join J).bel
  have hl := hd.1
  by_cases q1 : i < 0
  · refine ve q1 ?_
    exact ⟨by rw [pathOf_no (by omega)]; rfl, HJ J⟩
  refine ve q1 ?_
  by_cases q2 : (l.length : Int) ≤ i
  · refine ve q2 ?_
    exact ⟨by rw [pathOf_no (by omega)]; rfl, HJ J⟩
  refine ve q2 ?_
  by_cases q3 : 40 < (l.length : Int)
  · refine ve q3 ?_
    exact ⟨by rw [pathOf_no (by omega)]; rfl, HJ J⟩
  refine ve q3 ?_
  clear R14 R16
  obtain ⟨k, rfl⟩ : ∃ k : Nat, i = (k : Int) := ⟨i.toNat, by omega⟩
  have hk : k < l.length := by omega
  have h40 : l.length ≤ 40 := by omega
  have hgk : l.getD k [] = l[k] := by rw [List.getD_eq_getElem?_getD, List.getElem?_eq_getElem hk]; rfl
  have hlk : (l[k]).length ≤ 1099511627000 := hd.few _ (List.getElem_mem hk)
  refine x_ele J sl24 rfl k hk ha3 rfl fun ad es hb hr hc => vs ?_
  obtain ⟨uu, rfl⟩ := sl_one hr
  refine x_ld1 sc22 hc rfl (vs ?_)
  refine x_callf J (implLeafOf_ok w16 uu (l[k]) (J.rd hr) hlk) fun r128 f128 w17 J => vs ?_
  have hlf2 : (leafOf l[k]).length ≤ 1073741824 := by have := leafOf_len (l[k]); omega
  refine x_call (implRootBy_ok w17 r128 (leafOf l[k]) (k : Int) (l.length : Int) _ (pathOf l (k : Int)) (J.own (.head _)) (J.rd R5) hlf2 (pathOf_few _ _)) fun _ w18 ⟨v18, f18, e, S⟩ => ?_
  have hr1 := (rootBy_right (l := l) (i := (k : Int)) ⟨by omega, by omega⟩ h40 (rootOf l)).1
  have hr2 := (rootBy_right (l := l) (i := (k : Int)) ⟨by omega, by omega⟩ h40 (rootOf l)).2
  simp only [Int.toNat_natCast] at hr1 hr2
  rw [hgk] at hr1 hr2
  rw [hr1] at e S
  simp only [Option.isSome_some, Option.getD_some] at e S
  subst e
  have J := J.join S
  simp only [List.cons_append, List.nil_append] at J
  refine vs ?_
  obtain ⟨A18, c18, rfl, _⟩ := sl_open (J.own (.head _))
  refine x_ele J sl24 rfl k hk ha3 rfl fun ad es hb hr hc => vs ?_
  obtain ⟨u2, rfl⟩ := sl_one hr
  refine x_ld1 sc22 hc rfl (vs ?_)
  refine x_callf J (implLeafOf_ok w18 u2 (l[k]) (J.rd hr) hlk) fun r141 f141 w19 J => vs ?_
  -- the way with one more
  have R18 := J.own (d := bytes 5) (fp := f18) (cs := [.slice A18 (rootOf l).length c18]) (x := rootOf l) (by simp)
  have R141 := J.own (.head _)
  have Q := Sep.start w19
  obtain ⟨p', hp', hpm⟩ := toSh (J.rd R5)
  refine x_empO (d := shB w19 w19.heap.size) Q sl24 fun g20 w20 Q => vs ?_
  have hplen : p'.length ≤ 41 := by
    have := (pathOf_len l.length l (k : Int) (Nat.le_refl _)).1
    rw [← hpm, List.length_map] at this
    omega
  refine x_app (l := []) Q (pl_sh w19 w19.heap.size) sl24 (Q.rd hp') ?_ ?_ fun f21 v21 w21 Q => vs ?_
  · simp only [List.length_nil]; omega
  · simp only [List.length_nil]; omega
  rw [List.nil_append] at Q
  refine x_lst Q (pl_sh w19 w19.heap.size) sl24 [(A18, c18, rootOf l)] (fun x hx => by rw [List.mem_singleton.1 hx]; exact R18) fun g22 w22 Q => vs ?_
  refine x_app Q (pl_sh w19 w19.heap.size) sl24 (Q.own (.head _)) ?_ ?_ fun f23 v23 w23 Q => vs ?_
  · simp only [List.length_cons, List.length_nil]; omega
  · simp only [List.length_cons, List.length_nil]; omega
  have Rp := ofSh (Q.own (.tail _ (.head _))) Q.bel Q.ns
  rw [List.map_append, hpm] at Rp
  have Rp : lists.rd w23 w23.heap.size [v23] (pathOf l (k : Int) ++ [rootOf l]) := Rp
  refine x_call (implRootBy_ok w23 r141 (leafOf l[k]) (k : Int) (l.length : Int) v23 (pathOf l (k : Int) ++ [rootOf l]) (Q.rd R141) Rp hlf2 (few_app (pathOf_few _ _) (by have := rootOf_len l; omega))) fun _ w24 ⟨v24, f24, e, S⟩ => ?_
  rw [hr2] at e S
  simp only [Option.isSome_none, Option.getD_none] at e S
  subst e
  have Q := Q.join S
  refine vs ?_
  refine x_callf Q (implRootOf_ok w24 _ l (Q.rd (J.rd R3)) hd.few) fun r25 f25 w25 Q => vs ?_
  refine x_callw (implSame_ok w25 _ _ (rootOf l) (rootOf l) (Q.rd R18) (Q.own (.head _))) (vs ?_)
  exact HJ (J.join Q)
end Go.Proofs.Ytlkplnioaiahhaa.V
