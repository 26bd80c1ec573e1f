/- Texts laid by programs, part 12. -/
import Derived.Test.YtcmckbgiiclomabGreatDoorU11
import Derived.Test.YtcmckbgiiclomabGreatDoorU06
import Derived.Test.YtcmckbgiiclomabGreatDoorU07
namespace Go.Proofs.YtcmckbgiiclomabGreatDoor.V
open Go Go.RowKit
set_option maxRecDepth 100000
set_option maxHeartbeats 16000000
set_option linter.unusedSimpArgs false
set_option linter.unusedVariables false
set_option pp.deepTerms false
set_option pp.deepTerms.threshold 3
theorem shr_3 (n : Nat) : ishr .i64 (n : Int) 3 = ((n / 8 : Nat) : Int) := by rw [ishr_nat (by decide), Nat.shiftRight_eq_div_pow]
theorem and_7 {n : Nat} (h : n < 256) : iand .i64 (n : Int) 7 = ((n % 8 : Nat) : Int) := by
  have e : iand .i64 (n : Int) 7 = iand .i64 (n : Int) ((7 : Nat) : Int) := rfl; rw [e, iand_nat (by omega), show (7 : Nat) = 2 ^ 3 - 1 from rfl, Nat.and_two_pow_sub_one_eq_mod]
theorem l9Ladder_ok (w : World) (v : Value) (b : List UInt8) (x : List Int) (hv : (bytes 5).rd w w.heap.size [v] b) (hb : b.length = 32) (hx : x.length = 16) :
    ACalls Tryz.prog 130 #[v, .agg (aI x).toArray] w fun r w' => ∃ (c : List UInt8) (fp : List Nat), c.length = 32 ∧ Sep w.heap.size w w' [Ck.own (bytes 5) fp [r] c] := by
  obtain ⟨A, cp, rfl, hc1, hc2, hA⟩ := sl_open hv; have H := Sep.start w; refine body_of follows Tryz.func130 rfl rfl _ rfl (by kernel_rfl) (vs ?_); refine x_bx H (aI x) fun g3 w1 H => vs ?_; refine x_alA H ar16 fun g5 w2 H => vs ?_; refine x_alA H ar16 fun g6 w3 H => vs ?_; refine x_alA H ar16 fun g7 w4 H => vs ?_; refine x_alA H ar16 fun g8 w5 H => vs ?_; refine x_alA H ar16 fun g9 w6 H => vs ?_; refine x_ldaA (l := x) H ar16 hx ?_; refine vs ?_; refine x_staU (l0 := List.replicate 16 0) H ar16 hx len16 fun w7 H => vs ?_; refine x_ixA ar16 0 (by decide) rfl (by decide) ?_; refine vs ?_; refine x_stU (l := List.replicate 16 0) H sc3 (by rw [len16]; decide) fun w8 a0 ha0 H => vs ?_; refine x_ixA ar16 0 (by decide) rfl (by decide) ?_; refine vs ?_; refine x_stU (l := List.replicate 16 0) H sc3 (by rw [len16]; decide) fun w9 d0 hd0 H => vs ?_; refine x_ixA ar16 0 (by decide) rfl (by decide) ?_; refine vs ?_; refine x_stU (l := List.replicate 16 0) H sc3 (by rw [len16]; decide) fun w10 m0 hm0 H => vs ?_; refine x_ixA ar16 1 (by decide) rfl (by decide) ?_; refine vs ?_; refine x_stU (l := m0) H sc3 (by rw [hm0, len16]; decide) fun w11 m hm H => vs ?_; have hm16 : m.length = 16 := by rw [hm, hm0]; rfl
  refine loop_at (σ := Int × Int × List Int × List Int × List Int × List Int) (fun y => [(0, .slice A b.length cp), (3, .pointer (some ⟨g3, 0, none⟩)), (5, .pointer (some ⟨g5, 0, none⟩)), (6, .pointer (some ⟨g6, 0, none⟩)), (7, .pointer (some ⟨g7, 0, none⟩)), (8, .pointer (some ⟨g8, 0, none⟩)), (9, .pointer (some ⟨g9, 0, none⟩)), (10, .int .i64 y.2.1), (11, .int .i64 y.1)])
    (fun y w' => (-1 ≤ y.1 ∧ y.1 ≤ 254) ∧ (y.2.2.1.length = 16 ∧ y.2.2.2.1.length = 16 ∧ y.2.2.2.2.1.length = 16 ∧ y.2.2.2.2.2.length = 16) ∧ Sep w.heap.size w w' [Ck.box g9 (aI m) 175, Ck.box g8 (aI y.2.2.2.2.2) 175, Ck.box g7 (aI y.2.2.2.2.1) 175, Ck.box g6 (aI y.2.2.2.1) 175, Ck.box g5 (aI y.2.2.1) 175, Ck.box g3 (aI x) 175]) (fun y => (y.1 + 1).toNat) (254, 0, a0, x, List.replicate 16 0, d0) (vs trivial) ⟨⟨by show (-1 : Int) ≤ 254; decide, by show (254 : Int) ≤ 254; decide⟩, ⟨by show a0.length = 16; rw [ha0]; rfl, hx, len16, by show d0.length = 16; rw [hd0]; rfl⟩, H⟩ ?_
  rintro ⟨i, last, la, lb, lc, ld⟩ s w12 ⟨hr, ⟨hla, hlb, hlc, hld⟩, H⟩; dsimp only at hr hla hlb hlc hld H; refine vs ?_
  by_cases hlt : 0 ≤ i
  rotate_left
  · refine ve hlt ?_
    by_cases ql : last = 1
    · refine ve (eq_true ql) ?_
      refine x_ldaA (l := lb) H ar16 hlb ?_; refine vs ?_; refine x_staU (l0 := la) (g := g5) H ar16 hlb hla fun w101 H => vs ?_; refine x_ldaA (l := ld) H ar16 hld ?_; refine vs ?_; refine x_staU (l0 := lc) (g := g7) H ar16 hld hlc fun w102 H => vs ?_; refine draw_at [(0, true), (1, true), (2, false), (3, false), (4, false), (5, true)] fun w103 hh hbd => vs ?_; have H := H.go (hbd _); have J0 := Sep.start w103; refine q_ldaA (l := lb) H ar16 hlb ?_; refine vs ?_; refine q_ldaA (l := ld) H ar16 hld ?_; refine vs ?_; refine x_call (l8Inv_ok w103 ld hld) fun _ w104 ⟨li, e, hli, hbw⟩ => ?_; subst e; have H := H.go hbw; have J1 := J0.go hbw; refine vs ?_; refine ⟨kept_base J0 J1, ?_⟩; refine x_call (l8Mul_ok w104 lb li hlb hli) fun _ w105 ⟨lm, e, hlm, hbw⟩ => ?_; subst e; have H := H.go hbw; have J1 := J1.go hbw; refine vs ?_; refine ⟨kept_base J0 J1, ?_⟩; refine x_call (l8Bytes_ok w105 lm hlm) fun r w106 ⟨bb, fp, hbb, S⟩ => ?_; have H := H.join S; have J1 := J1.join S; refine vs ?_; refine ⟨kept_base J0 J1, ?_⟩; exact ⟨bb, fp, hbb, H.only (c := Ck.own (bytes 5) fp [r] bb)⟩
    refine ve ql ?_; refine draw_at [(0, true), (1, true), (2, false), (3, false), (4, false), (5, true)] fun w107 hh hbd => vs ?_; have H := H.go (hbd _); have J0 := Sep.start w107; refine q_ldaA (l := la) H ar16 hla ?_; refine vs ?_; refine q_ldaA (l := lc) H ar16 hlc ?_; refine vs ?_; refine x_call (l8Inv_ok w107 lc hlc) fun _ w108 ⟨li, e, hli, hbw⟩ => ?_; subst e; have H := H.go hbw; have J1 := J0.go hbw; refine vs ?_; refine ⟨kept_base J0 J1, ?_⟩; refine x_call (l8Mul_ok w108 la li hla hli) fun _ w109 ⟨lm, e, hlm, hbw⟩ => ?_; subst e; have H := H.go hbw; have J1 := J1.go hbw; refine vs ?_; refine ⟨kept_base J0 J1, ?_⟩; refine x_call (l8Bytes_ok w109 lm hlm) fun r w110 ⟨bb, fp, hbb, S⟩ => ?_; have H := H.join S; have J1 := J1.join S; refine vs ?_; refine ⟨kept_base J0 J1, ?_⟩; exact ⟨bb, fp, hbb, H.only (c := Ck.own (bytes 5) fp [r] bb)⟩
  obtain ⟨n, rfl⟩ : ∃ n : Nat, i = (n : Int) := ⟨i.toNat, by omega⟩; have hk : 0 ≤ (n : Int) ∧ (n : Int) ≤ 254 := ⟨hlt, hr.2⟩; have hdec : ((n : Int) - 1 + 1).toNat < ((n : Int) + 1).toNat := by omega
  have hr2 : -1 ≤ (n : Int) - 1 ∧ (n : Int) - 1 ≤ 254 := by omega
  have hn8 : n / 8 < b.length := by omega
  refine ve (And.intro hlt (shr_3 n)) ?_; refine x_elV pl_u8 sl22 (x := b[n / 8]) (n / 8) (hA.mono H.bel) (List.getElem?_eq_getElem _) rfl rfl fun ad hd hc _ => ?_; refine vs ?_; refine x_load sc5 hc ?_; refine ve (and_7 (n := n) (by omega)) ?_; generalize iand .i64 (ishr .i64 _ _) 1 = bit
  by_cases qb : bit = last
  · refine ve (eq_true qb) ?_
    refine x_ldaA (l := la) H ar16 hla ?_; refine vs ?_; refine x_ldaA (l := lc) H ar16 hlc ?_; refine vs ?_; refine x_call (l8Add_ok w12 la lc hla hlc) fun _ w13 ⟨le, e, hle, hbw⟩ => ?_; subst e; have H := H.go hbw; refine vs ?_; refine x_alA H ar16 fun ge w14 H => vs ?_; refine x_staU (l0 := List.replicate 16 0) (g := ge) H ar16 hle len16 fun w15 H => vs ?_; refine x_ldaA (l := la) H ar16 hla ?_; refine vs ?_; refine x_ldaA (l := lc) H ar16 hlc ?_; refine vs ?_; refine x_call (l8Sub_ok w15 la lc hla hlc) fun _ w16 ⟨lf, e, hlf, hbw⟩ => ?_; subst e; have H := H.go hbw; refine vs ?_; refine x_alA H ar16 fun gf w17 H => vs ?_; refine x_staU (l0 := List.replicate 16 0) (g := gf) H ar16 hlf len16 fun w18 H => vs ?_; refine x_ldaA (l := lb) H ar16 hlb ?_; refine vs ?_; refine x_ldaA (l := ld) H ar16 hld ?_; refine vs ?_; refine x_call (l8Add_ok w18 lb ld hlb hld) fun _ w19 ⟨lg, e, hlg, hbw⟩ => ?_; subst e; have H := H.go hbw; refine vs ?_; refine x_alA H ar16 fun gg w20 H => vs ?_; refine x_staU (l0 := List.replicate 16 0) (g := gg) H ar16 hlg len16 fun w21 H => vs ?_; refine x_ldaA (l := lb) H ar16 hlb ?_; refine vs ?_; refine x_ldaA (l := ld) H ar16 hld ?_; refine vs ?_; refine x_call (l8Sub_ok w21 lb ld hlb hld) fun _ w22 ⟨lh, e, hlh, hbw⟩ => ?_; subst e; have H := H.go hbw; refine vs ?_; refine x_alA H ar16 fun gh w23 H => vs ?_; refine x_staU (l0 := List.replicate 16 0) (g := gh) H ar16 hlh len16 fun w24 H => vs ?_; refine x_ldaA (l := le) H ar16 hle ?_; refine vs ?_; refine x_ldaA (l := le) H ar16 hle ?_; refine vs ?_; refine x_call (l8Mul_ok w24 le le hle hle) fun _ w25 ⟨lee, e, hlee, hbw⟩ => ?_; subst e; have H := H.go hbw; refine vs ?_; refine x_alA H ar16 fun gee w26 H => vs ?_
    refine x_staU (l0 := List.replicate 16 0) (g := gee) H ar16 hlee len16 fun w27 H => vs ?_; refine x_ldaA (l := lf) H ar16 hlf ?_; refine vs ?_; refine x_ldaA (l := lf) H ar16 hlf ?_; refine vs ?_; refine x_call (l8Mul_ok w27 lf lf hlf hlf) fun _ w28 ⟨lff, e, hlff, hbw⟩ => ?_; subst e; have H := H.go hbw; refine vs ?_; refine x_alA H ar16 fun gff w29 H => vs ?_; refine x_staU (l0 := List.replicate 16 0) (g := gff) H ar16 hlff len16 fun w30 H => vs ?_; refine x_ldaA (l := lh) H ar16 hlh ?_; refine vs ?_; refine x_ldaA (l := le) H ar16 hle ?_; refine vs ?_; refine x_call (l8Mul_ok w30 lh le hlh hle) fun _ w31 ⟨lhe, e, hlhe, hbw⟩ => ?_; subst e; have H := H.go hbw; refine vs ?_; refine x_alA H ar16 fun ghe w32 H => vs ?_; refine x_staU (l0 := List.replicate 16 0) (g := ghe) H ar16 hlhe len16 fun w33 H => vs ?_; refine x_ldaA (l := lg) H ar16 hlg ?_; refine vs ?_; refine x_ldaA (l := lf) H ar16 hlf ?_; refine vs ?_; refine x_call (l8Mul_ok w33 lg lf hlg hlf) fun _ w34 ⟨lgf, e, hlgf, hbw⟩ => ?_; subst e; have H := H.go hbw; refine vs ?_; refine x_alA H ar16 fun ggf w35 H => vs ?_; refine x_staU (l0 := List.replicate 16 0) (g := ggf) H ar16 hlgf len16 fun w36 H => vs ?_; refine x_ldaA (l := lhe) H ar16 hlhe ?_; refine vs ?_; refine x_ldaA (l := lgf) H ar16 hlgf ?_; refine vs ?_; refine x_call (l8Add_ok w36 lhe lgf hlhe hlgf) fun _ w37 ⟨ls, e, hls, hbw⟩ => ?_; subst e; have H := H.go hbw; refine vs ?_; refine x_alA H ar16 fun gs w38 H => vs ?_; refine x_staU (l0 := List.replicate 16 0) (g := gs) H ar16 hls len16 fun w39 H => vs ?_; refine x_ldaA (l := lhe) H ar16 hlhe ?_; refine vs ?_; refine x_ldaA (l := lgf) H ar16 hlgf ?_; refine vs ?_; refine x_call (l8Sub_ok w39 lhe lgf hlhe hlgf) fun _ w40 ⟨lu, e, hlu, hbw⟩ => ?_; subst e; have H := H.go hbw; refine vs ?_
    refine x_alA H ar16 fun gu w41 H => vs ?_; refine x_staU (l0 := List.replicate 16 0) (g := gu) H ar16 hlu len16 fun w42 H => vs ?_; refine x_ldaA (l := ls) H ar16 hls ?_; refine vs ?_; refine x_ldaA (l := ls) H ar16 hls ?_; refine vs ?_; refine x_call (l8Mul_ok w42 ls ls hls hls) fun _ w43 ⟨b2, e, hb2, hbw⟩ => ?_; subst e; have H := H.go hbw; refine vs ?_; refine x_staU (l0 := lb) (g := g6) H ar16 hb2 hlb fun w44 H => vs ?_; refine draw_zat [(0, true), (1, true), (2, true), (3, false), (4, false)] 5 [5] [] fun w45 hh hbd => vs ?_; have H := H.go (hbd _); have J0 := Sep.start w45; refine q_ldaA (l := x) H ar16 hx ?_; refine vs ?_; refine q_ldaA (l := lu) H ar16 hlu ?_; refine vs ?_; refine q_ldaA (l := lu) H ar16 hlu ?_; refine vs ?_; refine x_call (l8Mul_ok w45 lu lu hlu hlu) fun _ w46 ⟨luu, e, hluu, hbw⟩ => ?_; subst e; have H := H.go hbw; have J1 := J0.go hbw; refine vs ?_; refine ⟨kept_base J0 J1, ?_⟩; refine x_call (l8Mul_ok w46 x luu hx hluu) fun _ w47 ⟨d2, e, hd2, hbw⟩ => ?_; subst e; have H := H.go hbw; have J1 := J1.go hbw; refine vs ?_; refine ⟨kept_base J0 J1, ?_⟩; refine dl_cons ⟨_, rfl, vs ?_⟩; refine x_staU (l0 := ld) (g := g8) H ar16 hd2 hld fun w48 H => ?_; refine dl_nil (vs ?_); refine x_ldaA (l := lee) H ar16 hlee ?_; refine vs ?_; refine x_ldaA (l := lff) H ar16 hlff ?_; refine vs ?_; refine x_call (l8Sub_ok w48 lee lff hlee hlff) fun _ w49 ⟨lw, e, hlw, hbw⟩ => ?_; subst e; have H := H.go hbw; refine vs ?_; refine x_alA H ar16 fun gw w50 H => vs ?_; refine x_staU (l0 := List.replicate 16 0) (g := gw) H ar16 hlw len16 fun w51 H => vs ?_; refine x_ldaA (l := lee) H ar16 hlee ?_; refine vs ?_; refine x_ldaA (l := lff) H ar16 hlff ?_; refine vs ?_; refine x_call (l8Mul_ok w51 lee lff hlee hlff) fun _ w52 ⟨a2, e, ha2, hbw⟩ => ?_; subst e
    have H := H.go hbw; refine vs ?_; refine x_staU (l0 := la) (g := g5) H ar16 ha2 hla fun w53 H => vs ?_; refine draw_zat [(0, true), (1, true), (2, true), (3, true), (4, false), (5, false), (6, false)] 7 [7] [] fun w54 hh hbd => vs ?_; have H := H.go (hbd _); have J0 := Sep.start w54; refine q_ldaA (l := lw) H ar16 hlw ?_; refine vs ?_; refine q_ldaA (l := lee) H ar16 hlee ?_; refine vs ?_; refine q_ldaA (l := lw) H ar16 hlw ?_; refine vs ?_; refine q_ldaA (l := m) H ar16 hm16 ?_; refine vs ?_; refine x_call (l8Mul_ok w54 lw m hlw hm16) fun _ w55 ⟨lwm, e, hlwm, hbw⟩ => ?_; subst e; have H := H.go hbw; have J1 := J0.go hbw; refine vs ?_; refine ⟨kept_base J0 J1, ?_⟩; refine x_call (l8Add_ok w55 lee lwm hlee hlwm) fun _ w56 ⟨lew, e, hlew, hbw⟩ => ?_; subst e; have H := H.go hbw; have J1 := J1.go hbw; refine vs ?_; refine ⟨kept_base J0 J1, ?_⟩; refine x_call (l8Mul_ok w56 lw lew hlw hlew) fun _ w57 ⟨c2, e, hc2, hbw⟩ => ?_; subst e; have H := H.go hbw; have J1 := J1.go hbw; refine vs ?_; refine ⟨kept_base J0 J1, ?_⟩; refine dl_cons ⟨_, rfl, vs ?_⟩; refine x_staU (l0 := lc) (g := g7) H ar16 hc2 hlc fun w58 H => ?_; refine dl_nil (vs ?_); have H := H.front (c := Ck.box g3 (aI x) 175); have H := H.front (c := Ck.box g5 (aI a2) 175); have H := H.front (c := Ck.box g6 (aI b2) 175); have H := H.front (c := Ck.box g7 (aI c2) 175); have H := H.front (c := Ck.box g8 (aI d2) 175); have H := H.front (c := Ck.box g9 (aI m) 175); exact ⟨((n : Int) - 1, _, a2, b2, c2, d2), ⟨rfl, i64_eq (dn_254 hk)⟩, ⟨hr2, ⟨ha2, hb2, hc2, hd2⟩, Sep.left (L := [_, _, _, _, _, _]) H⟩, hdec⟩
  refine ve qb ?_; refine x_ldaA (l := la) H ar16 hla ?_; refine vs ?_; refine x_alA H ar16 fun g13 w59 H => vs ?_; refine x_staU (l0 := List.replicate 16 0) (g := g13) H ar16 hla len16 fun w60 H => vs ?_; refine x_ldaA (l := lb) H ar16 hlb ?_; refine vs ?_; refine x_staU (l0 := la) (g := g5) H ar16 hlb hla fun w61 H => vs ?_; refine x_ldaA (l := la) H ar16 hla ?_; refine vs ?_; refine x_staU (l0 := lb) (g := g6) H ar16 hla hlb fun w62 H => vs ?_; refine x_ldaA (l := lc) H ar16 hlc ?_; refine vs ?_; refine x_staU (l0 := la) (g := g13) H ar16 hlc hla fun w63 H => vs ?_; refine x_ldaA (l := ld) H ar16 hld ?_; refine vs ?_; refine x_staU (l0 := lc) (g := g7) H ar16 hld hlc fun w64 H => vs ?_; refine x_ldaA (l := lc) H ar16 hlc ?_; refine vs ?_; refine x_staU (l0 := ld) (g := g8) H ar16 hlc hld fun w65 H => vs ?_; refine x_ldaA (l := lb) H ar16 hlb ?_; refine vs ?_; refine x_ldaA (l := ld) H ar16 hld ?_; refine vs ?_; refine x_call (l8Add_ok w65 lb ld hlb hld) fun _ w66 ⟨le, e, hle, hbw⟩ => ?_; subst e; have H := H.go hbw; refine vs ?_; refine x_alA H ar16 fun ge w67 H => vs ?_; refine x_staU (l0 := List.replicate 16 0) (g := ge) H ar16 hle len16 fun w68 H => vs ?_; refine x_ldaA (l := lb) H ar16 hlb ?_; refine vs ?_; refine x_ldaA (l := ld) H ar16 hld ?_; refine vs ?_; refine x_call (l8Sub_ok w68 lb ld hlb hld) fun _ w69 ⟨lf, e, hlf, hbw⟩ => ?_; subst e; have H := H.go hbw; refine vs ?_; refine x_alA H ar16 fun gf w70 H => vs ?_; refine x_staU (l0 := List.replicate 16 0) (g := gf) H ar16 hlf len16 fun w71 H => vs ?_; refine x_ldaA (l := la) H ar16 hla ?_; refine vs ?_; refine x_ldaA (l := lc) H ar16 hlc ?_; refine vs ?_; refine x_call (l8Add_ok w71 la lc hla hlc) fun _ w72 ⟨lg, e, hlg, hbw⟩ => ?_; subst e; have H := H.go hbw; refine vs ?_
  refine x_alA H ar16 fun gg w73 H => vs ?_; refine x_staU (l0 := List.replicate 16 0) (g := gg) H ar16 hlg len16 fun w74 H => vs ?_; refine x_ldaA (l := la) H ar16 hla ?_; refine vs ?_; refine x_ldaA (l := lc) H ar16 hlc ?_; refine vs ?_; refine x_call (l8Sub_ok w74 la lc hla hlc) fun _ w75 ⟨lh, e, hlh, hbw⟩ => ?_; subst e; have H := H.go hbw; refine vs ?_; refine x_alA H ar16 fun gh w76 H => vs ?_; refine x_staU (l0 := List.replicate 16 0) (g := gh) H ar16 hlh len16 fun w77 H => vs ?_; refine x_ldaA (l := le) H ar16 hle ?_; refine vs ?_; refine x_ldaA (l := le) H ar16 hle ?_; refine vs ?_; refine x_call (l8Mul_ok w77 le le hle hle) fun _ w78 ⟨lee, e, hlee, hbw⟩ => ?_; subst e; have H := H.go hbw; refine vs ?_; refine x_alA H ar16 fun gee w79 H => vs ?_; refine x_staU (l0 := List.replicate 16 0) (g := gee) H ar16 hlee len16 fun w80 H => vs ?_; refine x_ldaA (l := lf) H ar16 hlf ?_; refine vs ?_; refine x_ldaA (l := lf) H ar16 hlf ?_; refine vs ?_; refine x_call (l8Mul_ok w80 lf lf hlf hlf) fun _ w81 ⟨lff, e, hlff, hbw⟩ => ?_; subst e; have H := H.go hbw; refine vs ?_; refine x_alA H ar16 fun gff w82 H => vs ?_; refine x_staU (l0 := List.replicate 16 0) (g := gff) H ar16 hlff len16 fun w83 H => vs ?_; refine x_ldaA (l := lh) H ar16 hlh ?_; refine vs ?_; refine x_ldaA (l := le) H ar16 hle ?_; refine vs ?_; refine x_call (l8Mul_ok w83 lh le hlh hle) fun _ w84 ⟨lhe, e, hlhe, hbw⟩ => ?_; subst e; have H := H.go hbw; refine vs ?_; refine x_alA H ar16 fun ghe w85 H => vs ?_; refine x_staU (l0 := List.replicate 16 0) (g := ghe) H ar16 hlhe len16 fun w86 H => vs ?_; refine x_ldaA (l := lg) H ar16 hlg ?_; refine vs ?_; refine x_ldaA (l := lf) H ar16 hlf ?_; refine vs ?_; refine x_call (l8Mul_ok w86 lg lf hlg hlf) fun _ w87 ⟨lgf, e, hlgf, hbw⟩ => ?_; subst e; have H := H.go hbw
  refine vs ?_; refine x_alA H ar16 fun ggf w88 H => vs ?_; refine x_staU (l0 := List.replicate 16 0) (g := ggf) H ar16 hlgf len16 fun w89 H => vs ?_; refine x_ldaA (l := lhe) H ar16 hlhe ?_; refine vs ?_; refine x_ldaA (l := lgf) H ar16 hlgf ?_; refine vs ?_; refine x_call (l8Add_ok w89 lhe lgf hlhe hlgf) fun _ w90 ⟨ls, e, hls, hbw⟩ => ?_; subst e; have H := H.go hbw; refine vs ?_; refine x_alA H ar16 fun gs w91 H => vs ?_; refine x_staU (l0 := List.replicate 16 0) (g := gs) H ar16 hls len16 fun w92 H => vs ?_; refine x_ldaA (l := lhe) H ar16 hlhe ?_; refine vs ?_; refine x_ldaA (l := lgf) H ar16 hlgf ?_; refine vs ?_; refine x_call (l8Sub_ok w92 lhe lgf hlhe hlgf) fun _ w93 ⟨lu, e, hlu, hbw⟩ => ?_; subst e; have H := H.go hbw; refine vs ?_; refine x_alA H ar16 fun gu w94 H => vs ?_; refine x_staU (l0 := List.replicate 16 0) (g := gu) H ar16 hlu len16 fun w95 H => vs ?_; refine x_ldaA (l := ls) H ar16 hls ?_; refine vs ?_; refine x_ldaA (l := ls) H ar16 hls ?_; refine vs ?_; refine x_call (l8Mul_ok w95 ls ls hls hls) fun _ w96 ⟨b2, e, hb2, hbw⟩ => ?_; subst e; have H := H.go hbw; refine vs ?_; refine x_staU (l0 := la) (g := g6) H ar16 hb2 hla fun w97 H => vs ?_; refine draw_zat [(0, true), (1, true), (2, true), (3, false), (4, false)] 5 [5] [] fun w98 hh hbd => vs ?_; have H := H.go (hbd _); have J0 := Sep.start w98; refine q_ldaA (l := x) H ar16 hx ?_; refine vs ?_; refine q_ldaA (l := lu) H ar16 hlu ?_; refine vs ?_; refine q_ldaA (l := lu) H ar16 hlu ?_; refine vs ?_; refine x_call (l8Mul_ok w98 lu lu hlu hlu) fun _ w99 ⟨luu, e, hluu, hbw⟩ => ?_; subst e; have H := H.go hbw; have J1 := J0.go hbw; refine vs ?_; refine ⟨kept_base J0 J1, ?_⟩; refine x_call (l8Mul_ok w99 x luu hx hluu) fun _ w100 ⟨d2, e, hd2, hbw⟩ => ?_; subst e; have H := H.go hbw; have J1 := J1.go hbw
  refine vs ?_; refine ⟨kept_base J0 J1, ?_⟩; refine dl_cons ⟨_, rfl, vs ?_⟩; refine x_staU (l0 := lc) (g := g8) H ar16 hd2 hlc fun w101 H => ?_; refine dl_nil (vs ?_); refine x_ldaA (l := lee) H ar16 hlee ?_; refine vs ?_; refine x_ldaA (l := lff) H ar16 hlff ?_; refine vs ?_; refine x_call (l8Sub_ok w101 lee lff hlee hlff) fun _ w102 ⟨lw, e, hlw, hbw⟩ => ?_; subst e; have H := H.go hbw; refine vs ?_; refine x_alA H ar16 fun gw w103 H => vs ?_; refine x_staU (l0 := List.replicate 16 0) (g := gw) H ar16 hlw len16 fun w104 H => vs ?_; refine x_ldaA (l := lee) H ar16 hlee ?_; refine vs ?_; refine x_ldaA (l := lff) H ar16 hlff ?_; refine vs ?_; refine x_call (l8Mul_ok w104 lee lff hlee hlff) fun _ w105 ⟨a2, e, ha2, hbw⟩ => ?_; subst e; have H := H.go hbw; refine vs ?_; refine x_staU (l0 := lb) (g := g5) H ar16 ha2 hlb fun w106 H => vs ?_; refine draw_zat [(0, true), (1, true), (2, true), (3, true), (4, false), (5, false), (6, false)] 7 [7] [] fun w107 hh hbd => vs ?_; have H := H.go (hbd _); have J0 := Sep.start w107; refine q_ldaA (l := lw) H ar16 hlw ?_; refine vs ?_; refine q_ldaA (l := lee) H ar16 hlee ?_; refine vs ?_; refine q_ldaA (l := lw) H ar16 hlw ?_; refine vs ?_; refine q_ldaA (l := m) H ar16 hm16 ?_; refine vs ?_; refine x_call (l8Mul_ok w107 lw m hlw hm16) fun _ w108 ⟨lwm, e, hlwm, hbw⟩ => ?_; subst e; have H := H.go hbw; have J1 := J0.go hbw; refine vs ?_; refine ⟨kept_base J0 J1, ?_⟩; refine x_call (l8Add_ok w108 lee lwm hlee hlwm) fun _ w109 ⟨lew, e, hlew, hbw⟩ => ?_; subst e; have H := H.go hbw; have J1 := J1.go hbw; refine vs ?_; refine ⟨kept_base J0 J1, ?_⟩; refine x_call (l8Mul_ok w109 lw lew hlw hlew) fun _ w110 ⟨c2, e, hc2, hbw⟩ => ?_; subst e; have H := H.go hbw; have J1 := J1.go hbw; refine vs ?_; refine ⟨kept_base J0 J1, ?_⟩
  refine dl_cons ⟨_, rfl, vs ?_⟩; refine x_staU (l0 := ld) (g := g7) H ar16 hc2 hld fun w111 H => ?_; refine dl_nil (vs ?_); have H := H.front (c := Ck.box g3 (aI x) 175); have H := H.front (c := Ck.box g5 (aI a2) 175); have H := H.front (c := Ck.box g6 (aI b2) 175); have H := H.front (c := Ck.box g7 (aI c2) 175); have H := H.front (c := Ck.box g8 (aI d2) 175); have H := H.front (c := Ck.box g9 (aI m) 175); exact ⟨((n : Int) - 1, _, a2, b2, c2, d2), ⟨rfl, i64_eq (dn_254 hk)⟩, ⟨hr2, ⟨ha2, hb2, hc2, hd2⟩, Sep.left (L := [_, _, _, _, _, _]) H⟩, hdec⟩
section
variable {P : Program} {n : Nat} {w0 w : World} {L : List Ck} {K : Value → World → Prop} {α : Type} {d : Kd α} {f : α → Value} {R : α → Prop}
theorem x_setU {tg : Tg K} (H : Sep n w0 w L) (hp : IsPlain d f R) {e : TypeId} {z : Value} (HS : ScT P e z) {fp : List Nat} {g c j : Nat} {l : List α} {x : α} {F : Ck → List Ck} (hj : j < l.length) (hx : R x)
    (h : ∀ w' l', l'.length = l.length → Sep n w0 w' (F (Ck.own (Kd.slice e d) fp [.slice (some ⟨g, 0, none⟩) l'.length c] l')) → K undef w') (hm : Hole (Ck.own (Kd.slice e d) fp [.slice (some ⟨g, 0, none⟩) l.length c] l) L F := by repeat (first | exact Hole.here | apply Hole.there)) :
    VU P K tg (Instr.storeAt e (.pointer (some ⟨g, j, none⟩)) (f x)) w :=
  x_set H hp HS hj hx (fun w' H' => h w' (l.set j x) (List.length_set ..) (by rw [List.length_set]; exact H')) hm
end
theorem and_248 (x : UInt8) : iand .u8 (x.toNat : Int) 248 = ((x &&& 248).toNat : Int) := iand_u8 (b := 248)
theorem and_127 (x : UInt8) : iand .u8 (x.toNat : Int) 127 = ((x &&& 127).toNat : Int) := iand_u8 (b := 127)
theorem or_64 (x : UInt8) : ior .u8 (x.toNat : Int) 64 = ((x ||| 64).toNat : Int) := ior_u8 (b := 64)
theorem clamp_ok (w : World) (v : Value) (b : List UInt8) (hv : (bytes 5).rd w w.heap.size [v] b) (hb : b.length = 32) :
    ACalls Tryz.prog 131 #[v] w fun r w' => ∃ (c : List UInt8) (fp : List Nat), c.length = 32 ∧ Sep w.heap.size w w' [Ck.own (bytes 5) fp [r] c] := by
  have h9 := hv; obtain ⟨A, cp, rfl, hc1, hc2, hA⟩ := sl_open hv; have H := Sep.start w; refine body_of follows Tryz.func131 rfl rfl _ rfl (by kernel_rfl) (vs ?_); have hb2 : (b.length : Int) = 32 := by omega
  refine ve hb2 ?_; refine x_emp H pl_u8 sl22 fun g1 w1 H => vs ?_; refine x_app H pl_u8 sl22 (H.rd h9) ?_ ?_ fun f2 v2 w2 H => vs ?_
  · simp only [List.length_nil]; omega
  · simp only [List.length_nil]; omega
  rw [List.nil_append] at H; obtain ⟨B, c, rfl, hB⟩ := own_val (show (bytes 5).ow w2 f2 [v2] b from H.ok _ (.head _)); obtain ⟨g, rfl⟩ := hB (by omega); obtain ⟨B', c', e', _, _, hR⟩ := sl_open (H.own (.head _)); simp only [Value.slice.injEq] at e'; obtain ⟨rfl, _, rfl⟩ := e'; refine x_elV pl_u8 sl22 (x := b[0]'(by omega)) 0 hR (List.getElem?_eq_getElem _) rfl rfl fun ad hd hc _ => vs ?_; refine x_load sc5 hc ?_; refine ve (and_248 (b[0]'(by omega))) ?_; refine x_index sl22 rfl (by omega) (by omega) (vs ?_); refine x_setU (l := b) (x := b[0]'(by omega) &&& 248) H pl_u8 sc5 (j := 0) (by omega) trivial fun w3 b2 hb2' H => vs ?_; have h2 : b2.length = 32 := by omega
  have hs : Value.slice (some ⟨g, 0, none⟩) b.length c = .slice (some ⟨g, 0, none⟩) b2.length c := by rw [hb2']
  rw [hs]; obtain ⟨B', c', e', _, _, hR⟩ := sl_open (H.own (.head _)); simp only [Value.slice.injEq] at e'; obtain ⟨rfl, _, rfl⟩ := e'; refine x_elV pl_u8 sl22 (x := b2[31]'(by omega)) 31 hR (List.getElem?_eq_getElem _) rfl rfl fun ad hd hc _ => vs ?_; refine x_load sc5 hc ?_; refine ve (And.intro (and_127 (b2[31]'(by omega))) (or_64 (b2[31]'(by omega) &&& 127))) ?_; refine x_index sl22 rfl (by omega) (by omega) (vs ?_); refine x_setU (l := b2) (x := (b2[31]'(by omega) &&& 127) ||| 64) H pl_u8 sc5 (j := 31) (by omega) trivial fun w4 b3 hb3 H => vs ?_; have hs : Value.slice (some ⟨g, 0, none⟩) b2.length c = .slice (some ⟨g, 0, none⟩) b3.length c := by rw [hb3]
  rw [hs]; exact ⟨b3, f2, by omega, H⟩
theorem l1Max_ok (w : World) (a b : Int) : ACalls Tryz.prog 35 #[.int .i64 a, .int .i64 b] w fun r w' => r = .int .i64 (max a b) ∧ w' = w := by
  refine body_of follows Tryz.func35 rfl rfl _ rfl (by kernel_rfl) (vs ?_)
  by_cases q : b < a
  · refine ve q ?_
    congr 1; omega
  · refine ve q ?_
    congr 1; omega
theorem littleB_8 {n : Int} (h : 0 ≤ n) : (littleB n 8).length = 8 := by
  unfold littleB; rw [if_pos ⟨h, by decide, by decide⟩]
  simp
theorem fieldNum_ok (w : World) (n : Int) (hn : 0 ≤ n ∧ n < 9223372036854775808) :
    ACalls Tryz.prog 119 #[.int .i64 n] w fun r w' => ∃ (c : List UInt8) (fp : List Nat), c.length = 32 ∧ Sep w.heap.size w w' [Ck.own (bytes 5) fp [r] c] := by
  have H := Sep.start w; refine body_of follows Tryz.func119 rfl rfl _ rfl (by kernel_rfl) (vs ?_); refine x_emp H pl_u8 sl22 fun g1 w1 H => vs ?_; refine x_callw (l1Max_ok w1 _ _) ?_; refine ve (Int.max_eq_left hn.1) ?_; refine x_callf H (specLittle_ok w1 n 8 hn.2) fun r2 f2 w2 H => vs ?_; have hl8 := littleB_8 hn.1; refine x_app H pl_u8 sl22 (H.own (.head _)) ?_ ?_ (fun f3 v3 w3 H => vs ?_) (hm := .there .here)
  · simp only [List.length_nil]; omega
  · simp only [List.length_nil]; omega
  rw [List.nil_append] at H
  refine loop_at (σ := Value × List UInt8 × List Nat) (fun y => [(3, y.1)])
    (fun y w' => y.2.1.length ≤ 32 ∧ Sep w.heap.size w w' [Ck.own (bytes 5) y.2.2 [y.1] y.2.1]) (fun y => 32 - y.2.1.length) (v3, littleB n 8, f3) (vs trivial) ⟨by show (littleB n 8).length ≤ 32; omega, H.only (c := Ck.own (bytes 5) f3 [v3] (littleB n 8))⟩ ?_
  rintro ⟨u, b, fp⟩ s w4 ⟨hb, H⟩; dsimp only at hb H; obtain ⟨A, c, rfl, _⟩ := sl_open (H.own (.head _)); refine vs (ways ?_ ?_)
  · refine vh fun hlt => ?_
    refine x_lst H pl_u8 sl22 [0] (by simp) fun g5 w5 H => vs ?_; refine x_app H pl_u8 sl22 (H.own (.head _)) ?_ ?_ (fun f6 v6 w6 H => vs ?_) (hm := .there .here)
    · simp only [List.length_cons, List.length_nil]; omega
    · simp only [List.length_cons, List.length_nil]; omega
    exact ⟨(v6, b ++ [0], f6), rfl, ⟨by show (b ++ [0]).length ≤ 32; rw [List.length_append, List.length_singleton]; omega, H.tail⟩, by show 32 - (b ++ [0]).length < 32 - b.length; rw [List.length_append, List.length_singleton]; omega⟩
  · refine vh fun hlt => ?_
    exact ⟨b, fp, by omega, H⟩
theorem point_ok (w : World) (v u : Value) (k b : List UInt8) (hk : (bytes 5).rd w w.heap.size [v] k) (hb : (bytes 5).rd w w.heap.size [u] b) :
    ACalls Tryz.prog 118 #[v, u] w fun r w' => ∃ (c : List UInt8) (fp : List Nat), c.length ≤ 32 ∧ Sep w.heap.size w w' [Ck.own (bytes 5) fp [r] c] := by
  have hk9 := hk; have hb9 := hb; obtain ⟨A, cp, rfl, _⟩ := sl_open hk; obtain ⟨B, cq, rfl, _⟩ := sl_open hb; have H := Sep.start w; refine body_of follows Tryz.func118 rfl rfl _ rfl (by kernel_rfl) (vs ?_)
  by_cases q1 : (k.length : Int) = 32
  rotate_left
  · refine ve q1 ?_
    refine x_emp H pl_u8 sl22 fun g1 w1 H => vs ?_; exact ⟨[], _, Nat.zero_le _, H⟩
  by_cases q2 : (b.length : Int) = 32
  rotate_left
  · refine ve (And.intro q1 q2) ?_
    refine x_emp H pl_u8 sl22 fun g1 w1 H => vs ?_; exact ⟨[], _, Nat.zero_le _, H⟩
  refine ve (And.intro q1 q2) ?_; refine x_call (clamp_ok w _ k hk9 (by omega)) fun r1 w1 ⟨c1, f1, hc1, S⟩ => vs ?_; have H := H.join S; simp only [List.cons_append, List.nil_append] at H; refine x_call (l8Of_ok w1 _ b (H.rd hb9) (by omega)) fun _ w2 ⟨x, e, hx, hbw⟩ => ?_; subst e; have H := H.go hbw; refine vs ?_; refine x_call (l9Ladder_ok w2 r1 c1 x (H.own (.head _)) hc1 hx) fun r3 w3 ⟨c3, f3, hc3, S⟩ => vs ?_; have H := H.join S; exact ⟨c3, f3, by omega, H.only (c := Ck.own (bytes 5) f3 [r3] c3)⟩
theorem public_ok (w : World) (v : Value) (k : List UInt8) (hk : (bytes 5).rd w w.heap.size [v] k) :
    ACalls Tryz.prog 96 #[v] w fun r w' => ∃ (c : List UInt8) (fp : List Nat), c.length ≤ 32 ∧ Sep w.heap.size w w' [Ck.own (bytes 5) fp [r] c] := by
  have H := Sep.start w; refine body_of follows Tryz.func96 rfl rfl _ rfl (by kernel_rfl) (vs ?_); refine x_call (fieldNum_ok w 9 (by decide)) fun r1 w1 ⟨c1, f1, hc1, S⟩ => vs ?_; have H := H.join S; simp only [List.cons_append, List.nil_append] at H; refine x_call (point_ok w1 v r1 k c1 (H.rd hk) (H.own (.head _))) fun r2 w2 ⟨c2, f2, hc2, S⟩ => vs ?_; have H := H.join S; exact ⟨c2, f2, hc2, H.only (c := Ck.own (bytes 5) f2 [r2] c2)⟩
theorem up_32 {k m : Nat} (h : k < m) (hm : m ≤ 32) : w64 ((k : Int) + 1) = ((k + 1 : Nat) : Int) ∧ m - (k + 1) < m - k := by unfold w64; omega
theorem agreed_ok (w : World) (v u : Value) (k b : List UInt8) (hk : (bytes 5).rd w w.heap.size [v] k) (hb : (bytes 5).rd w w.heap.size [u] b) :
    ACalls Tryz.prog 97 #[v, u] w fun r w' => ∃ (x : Value) (ok : Bool) (c : List UInt8) (fp : List Nat), r = .tuple #[x, .bool ok] ∧ c.length ≤ 32 ∧ Sep w.heap.size w w' [Ck.own (bytes 5) fp [x] c] := by
  have H := Sep.start w; refine body_of follows Tryz.func97 rfl rfl _ rfl (by kernel_rfl) (vs ?_); refine x_call (point_ok w v u k b hk hb) fun r1 w1 ⟨c1, f1, hc1, S⟩ => ?_; have H := S; obtain ⟨A, c, rfl, _, _, _⟩ := sl_open (H.own (.head _)); refine vs ?_
  refine loop_at (σ := Nat × UInt8) (fun y => [(6, .slice A c1.length c), (7, .int .u8 (y.2.toNat : Int)), (8, .int .i64 (y.1 : Int))])
    (fun y w' => y.1 ≤ c1.length ∧ Sep w.heap.size w w' [Ck.own (bytes 5) f1 [.slice A c1.length c] c1]) (fun y => c1.length - y.1) (0, 0) (vs ?_) ⟨Nat.zero_le _, H⟩ ?_
  · rfl
  rintro ⟨j, x⟩ s w2 ⟨hj, H⟩; dsimp only at hj H; refine vs (ways ?_ ?_)
  · refine vh fun hlt => ?_
    have hj2 : j < c1.length := by omega
    obtain ⟨ej, hdec⟩ := up_32 hj2 hc1; obtain ⟨A', c', e', _, _, hR⟩ := sl_open (H.own (.head _)); simp only [Value.slice.injEq] at e'; obtain ⟨rfl, _, rfl⟩ := e'; refine x_elV pl_u8 sl22 (x := c1[j]) j hR (List.getElem?_eq_getElem _) rfl rfl fun ad hd hc _ => vs ?_; refine x_load sc5 hc ?_; refine ve (ior_u8 (a := x) (b := c1[j])) ?_; exact ⟨(j + 1, x ||| c1[j]), ⟨rfl, i64_eq ej⟩, ⟨hj2, H⟩, hdec⟩
  · refine vh fun hlt => ?_
    by_cases q : (x.toNat : Int) = 0
    · refine ve q ?_
      refine x_emp H pl_u8 sl22 fun g3 w3 H => vs ?_; exact ⟨_, _, [], _, rfl, Nat.zero_le _, H.only (c := Ck.own (bytes 5) [g3] [.slice (some ⟨g3, 0, none⟩) 0 0] [])⟩
    · refine ve q ?_
      exact ⟨_, _, c1, f1, rfl, hc1, H⟩
theorem Words.i64 {l : List Int} (h : Words l) : ∀ x ∈ l, -9223372036854775808 ≤ x ∧ x < 9223372036854775808 := fun x hx => by have := h x hx; omega
theorem word_i64 (n : Int) : ∀ x ∈ [word n], -9223372036854775808 ≤ x ∧ x < 9223372036854775808 := (Words.one n).i64
theorem specSched_ok (w : World) (v : Value) (b : List UInt8) (h : (bytes 5).rd w w.heap.size [v] b) (hl : b.length = 64) :
    ACalls Tryz.prog 153 #[v] w fun r w' => ∃ fp, Sep w.heap.size w w' [Ck.own ints fp [r] (sched b 48)] := by
  have H := Sep.start w; refine body_of follows Tryz.func153 rfl rfl _ rfl (by kernel_rfl) (vs ?_); refine x_callf H (specWords_ok w v b 16 h hl (by omega)) fun r f0 w1 H => vs ?_
  refine loop_at (σ := Nat × Value × List Nat) (fun x => [(3, x.2.1), (4, .int .i64 ((16 + x.1 : Nat) : Int))])
    (fun x w' => x.1 ≤ 48 ∧ Sep w.heap.size w w' [Ck.own ints x.2.2 [x.2.1] (sched b x.1)]) (fun x => 48 - x.1) (0, _, _) (vs ?_) ⟨Nat.zero_le _, H⟩ ?_
  · rfl
  rintro ⟨k, v', fp⟩ s w2 ⟨hk, H⟩; dsimp only at hk H
  by_cases hlt : k < 48
  · have e0 : ((16 + k : Nat) : Int) < 64 := by omega
    have e2 : w64 (((16 + k : Nat) : Int) - 2) = ((14 + k : Nat) : Int) := by unfold w64; omega
    have e7 : w64 (((16 + k : Nat) : Int) - 7) = ((9 + k : Nat) : Int) := by unfold w64; omega
    have e15 : w64 (((16 + k : Nat) : Int) - 15) = ((1 + k : Nat) : Int) := by unfold w64; omega
    have e16 : w64 (((16 + k : Nat) : Int) - 16) = ((k : Nat) : Int) := by unfold w64; omega
    have hlen := sched_len b k; have hw := sched_words b k
    have hmore : more (sched b k) = word (w64 (w64 (w64 (mix ((sched b k).getD (14 + k) 0) 17 19 10 true + (sched b k).getD (9 + k) 0) + mix ((sched b k).getD (1 + k) 0) 7 18 3 true) + (sched b k).getD k 0)) := by
      unfold more; rw [hlen, show 16 + k - 2 = 14 + k by omega, show 16 + k - 7 = 9 + k by omega, show 16 + k - 15 = 1 + k by omega, show 16 + k - 16 = k by omega]
    have hsucc : sched b (k + 1) = sched b k ++ [more (sched b k)] := rfl; generalize sched b k = L at *; obtain ⟨A, c, rfl, hA⟩ := own_val (show ints.ow w2 fp [v'] L from H.ok _ (.head _)); obtain ⟨g, rfl⟩ := hA (by omega); refine ve e0 ?_; refine draw_of [(0, true), (1, true), (2, true), (3, true), (4, true), (5, true), (7, true), (8, true), (9, true), (10, true), (11, true), (13, true), (14, true), (15, true), (16, true), (17, true), (20, true), (21, true), (22, true), (23, true), (24, true), (6, false), (12, true), (18, false), (19, true), (25, true), (26, false), (27, false), (28, false), (29, true)] w2.heap.size [(g, 16 + k)] fun w3 hh hb3 => ve (And.intro e2 (And.intro e7 (And.intro e15 e16))) ?_; have H := H.go (hb3 _); have J3 : Sep w2.heap.size w3 w3 [] := Sep.begin (Nat.le_of_eq (by rw [hh])); obtain ⟨A', c', he, _, _, ha⟩ := sl_open (H.own (.head _))
    cases he
    have hgl : g < w2.heap.size := by
      have := ((pl_i64.slRd.1 ha).2 0 (by omega)).2.1; rw [adA_some, hh] at this; exact this
    have cell : ∀ j, j < L.length → w3.cell? ⟨g, j, none⟩ = some (.int .i64 (L.getD j 0)) := fun j hj => by
      have := ((pl_i64.slRd.1 ha).2 j hj).2.2; rw [adA_some, Kd.add_plain] at this; rw [this, List.getD_eq_getElem?_getD, List.getElem?_eq_getElem hj, Option.getD_some]
    have hE := And.intro e2 (And.intro e7 (And.intro e15 e16)); refine qx_index sl55 rfl (by omega) (by omega) (vs ?_); refine qx_loadG (t := 16 + k) sc3 (cell (14 + k) (by omega)) hgl (by simp) (by omega) (ve hE ?_); refine qx_index sl55 rfl (by omega) (by omega) (vs ?_); refine qx_loadG (t := 16 + k) sc3 (cell (9 + k) (by omega)) hgl (by simp) (by omega) (ve hE ?_); refine qx_index sl55 rfl (by omega) (by omega) (vs ?_); refine qx_loadG (t := 16 + k) sc3 (cell (1 + k) (by omega)) hgl (by simp) (by omega) (ve hE ?_); refine qx_index sl55 rfl (by omega) (by omega) (vs ?_); refine qx_loadG (t := 16 + k) sc3 (cell k (by omega)) hgl (by simp) (by omega) (ve hE ?_); refine x_call (specMix_ok w3 (L.getD (14 + k) 0) 17 19 10 true (by omega) (by omega) (by omega)) fun _ w4 ⟨e, hb4⟩ => ?_; subst e; have J4 := J3.go hb4; have H := H.go hb4; refine vs ?_; refine ⟨kept_baseG J3 J4, ?_⟩; refine x_call (specMix_ok w4 (L.getD (1 + k) 0) 7 18 3 true (by omega) (by omega) (by omega)) fun _ w5 ⟨e, hb5⟩ => ?_; subst e; have J5 := J4.go hb5; have H := H.go hb5; refine vs ?_; refine ⟨kept_baseG J3 J5, ?_⟩; refine x_callw (specWord_ok w5 _) (vs ?_); refine ⟨kept_baseG J3 J5, ?_⟩; rw [← hmore]; refine x_lst (Sep.start w5) pl_i64 sl55 [more L] (by rw [hmore]; exact word_i64 _) fun g6 w6 JJ => vs ?_; have J6 := J5.join JJ; have H := H.join JJ; simp only [List.cons_append, List.nil_append] at H; refine ⟨kept_baseG J3 J6, ?_⟩; refine x_appC H pl_i64 sl55 (H.own (.head _)) ?_ ?_ fun fp5 v5 w7 H hchg hkk => vs ?_
    · simp only [List.length_cons, List.length_nil]; omega
    · simp only [List.length_cons, List.length_nil]; omega
    refine ⟨kept_app (kept_baseG J3 J6) hchg (fun b hb => by simpa [Value.ownBlock] using hb) J6.ns (fun j hj => hkk g j rfl (by omega)), ?_⟩; refine ⟨(k + 1, v5, fp5), ⟨rfl, i64_eq (by show w64 (((16 + k : Nat) : Int) + 1) = ((16 + (k + 1) : Nat) : Int); unfold w64; omega)⟩, ⟨hlt, ?_⟩, by show 48 - (k + 1) < 48 - k; omega⟩; dsimp only; rw [hsucc]; exact H.tail
  · have e0 : ¬ ((16 + k : Nat) : Int) < 64 := by omega
    refine ve e0 ?_; obtain rfl : k = 48 := by omega
    exact ⟨_, H⟩
theorem specTable_ok (w : World) : ACalls Tryz.prog 154 #[] w fun r w' => ∃ fp, Sep w.heap.size w w' [Ck.own ints fp [r] table64] := by
  refine body_of follows Tryz.func154 rfl rfl _ rfl (by kernel_rfl) (vs ?_); refine x_lst (Sep.start w) pl_i64 sl55 table64 table64_words.i64 fun g w1 H => vs ?_; exact ⟨_, H⟩
theorem specStart_ok (w : World) : ACalls Tryz.prog 138 #[] w fun r w' => ∃ fp, Sep w.heap.size w w' [Ck.own ints fp [r] start8] := by
  refine body_of follows Tryz.func138 rfl rfl _ rfl (by kernel_rfl) (vs ?_); refine x_lst (Sep.start w) pl_i64 sl55 start8 start8_words.i64 fun g w1 H => vs ?_; exact ⟨_, H⟩
theorem S8.len (s : S8) : s.list.length = 8 := rfl
def outN (st : List Int) (S : S8) (k : Nat) : List Int := (List.range k).map fun i => word (w64 (S.list.getD i 0 + word (st.getD i 0)))
theorem outN_succ (st : List Int) (S : S8) (k : Nat) : outN st S (k + 1) = outN st S k ++ [word (w64 (S.list.getD k 0 + word (st.getD k 0)))] := by
  unfold outN; rw [List.range_succ, List.map_append]; rfl
theorem outN_len (st : List Int) (S : S8) (k : Nat) : (outN st S k).length = k := by simp [outN]
theorem specHashBlock_ok (w : World) (v u : Value) (st : List Int) (b : List UInt8) (h : ints.rd w w.heap.size [v] st) (h' : (bytes 5).rd w w.heap.size [u] b) (hs : st.length = 8) (hl : b.length = 64) :
    ACalls Tryz.prog 139 #[v, u] w fun r w' => ∃ fp, Sep w.heap.size w w' [Ck.own ints fp [r] (hashBlock st b)] := by
  have h0 := h'; obtain ⟨A, c, rfl, hc1, hc2, ha⟩ := sl_open h; obtain ⟨B, cb, rfl, _, _, _⟩ := sl_open h'; have H := Sep.start w; have eb : ((b.length : Int) = 64) = True := eq_true (by omega); have es : ((st.length : Int) = 8) = True := eq_true (by omega); refine body_of follows Tryz.func139 rfl rfl _ rfl (by kernel_rfl) (ve (And.intro es eb) ?_); refine x_callf H (specSched_ok w _ b h0 hl) fun rw_ fw w2 H => ?_; obtain ⟨Aw, cw, rfl, _, _, _⟩ := sl_open (H.own (.head _)); have hwl := sched_len b 48; have hhb : hashBlock st b = outN st ((S8.of st).run (sched b 48) 64) 8 := rfl; rw [hhb]; generalize hW : sched b 48 = W at *; refine vs ?_; refine x_callf H (specTable_ok w2) fun rk fk w3 H => ?_; obtain ⟨Ak, ck, rfl, _, _, _⟩ := sl_open (H.own (.head _)); refine vs ?_; refine draw_of [(0, true), (1, true), (2, true), (4, true), (5, true), (6, true), (8, true), (9, true), (10, true), (12, true), (13, true), (14, true), (3, false), (7, false), (11, false), (15, false), (16, true), (17, true), (18, true), (19, true)] w.heap.size [] fun w4 hh hb3 => vs ?_; have H := H.go (hb3 _); have hq0 := ha.mono H.bel; refine q_elV pl_i64 sl55 0 hq0 (getD_at (z := 0) (by omega)) rfl rfl fun ad hb hc _ => vs ?_; refine qx_load sc3 hc hb (by simp) (vs ?_); refine q_elV pl_i64 sl55 1 hq0 (getD_at (z := 0) (by omega)) rfl rfl fun ad hb hc _ => vs ?_; refine qx_load sc3 hc hb (by simp) (vs ?_); refine q_elV pl_i64 sl55 2 hq0 (getD_at (z := 0) (by omega)) rfl rfl fun ad hb hc _ => vs ?_; refine qx_load sc3 hc hb (by simp) (vs ?_); refine q_elV pl_i64 sl55 3 hq0 (getD_at (z := 0) (by omega)) rfl rfl fun ad hb hc _ => vs ?_; refine qx_load sc3 hc hb (by simp) (vs ?_); refine x_callw (specWord_ok w4 _) (vs ?_); refine ⟨kept_base H H, ?_⟩; refine x_callw (specWord_ok w4 _) (vs ?_)
  refine ⟨kept_base H H, ?_⟩; refine x_callw (specWord_ok w4 _) (vs ?_); refine ⟨kept_base H H, ?_⟩; refine x_callw (specWord_ok w4 _) (vs ?_); refine ⟨kept_base H H, ?_⟩; refine draw_of [(0, true), (1, true), (2, true), (4, true), (5, true), (6, true), (8, true), (9, true), (10, true), (12, true), (13, true), (14, true), (3, false), (7, false), (11, false), (15, false), (16, true), (17, true), (18, true), (19, true)] w.heap.size [] fun w5 hh hb3 => vs ?_; have H := H.go (hb3 _); have hq1 := ha.mono H.bel; refine q_elV pl_i64 sl55 4 hq1 (getD_at (z := 0) (by omega)) rfl rfl fun ad hb hc _ => vs ?_; refine qx_load sc3 hc hb (by simp) (vs ?_); refine q_elV pl_i64 sl55 5 hq1 (getD_at (z := 0) (by omega)) rfl rfl fun ad hb hc _ => vs ?_; refine qx_load sc3 hc hb (by simp) (vs ?_); refine q_elV pl_i64 sl55 6 hq1 (getD_at (z := 0) (by omega)) rfl rfl fun ad hb hc _ => vs ?_; refine qx_load sc3 hc hb (by simp) (vs ?_); refine q_elV pl_i64 sl55 7 hq1 (getD_at (z := 0) (by omega)) rfl rfl fun ad hb hc _ => vs ?_; refine qx_load sc3 hc hb (by simp) (vs ?_); refine x_callw (specWord_ok w5 _) (vs ?_); refine ⟨kept_base H H, ?_⟩; refine x_callw (specWord_ok w5 _) (vs ?_); refine ⟨kept_base H H, ?_⟩; refine x_callw (specWord_ok w5 _) (vs ?_); refine ⟨kept_base H H, ?_⟩; refine x_callw (specWord_ok w5 _) (vs ?_); refine ⟨kept_base H H, ?_⟩
  refine loop_at (σ := Nat) (fun t => [(0, .slice A st.length c), (5, .slice Aw W.length cw), (6, .slice Ak table64.length ck), (7, .int .i64 ((S8.of st).run W t).a), (8, .int .i64 ((S8.of st).run W t).b), (9, .int .i64 ((S8.of st).run W t).c), (10, .int .i64 ((S8.of st).run W t).d), (11, .int .i64 ((S8.of st).run W t).e), (12, .int .i64 ((S8.of st).run W t).f), (13, .int .i64 ((S8.of st).run W t).g), (14, .int .i64 ((S8.of st).run W t).h), (15, .int .i64 (t : Int))])
    (fun t w' => t ≤ 64 ∧ Sep w.heap.size w w' [Ck.own ints fk [.slice Ak table64.length ck] table64, Ck.own ints fw [.slice Aw W.length cw] W]) (fun t => 64 - t) 0 (vs ?_) ⟨Nat.zero_le _, H⟩ ?_
  · exact ⟨rfl, rfl, rfl, rfl, rfl, rfl, rfl, rfl⟩
  rintro t s w6 ⟨ht, H⟩
  by_cases hlt : t < 64
  · have e0 : ((t : Int) < 64) := by omega
    have hrun : (S8.of st).run W (t + 1) = ((S8.of st).run W t).round (table64.getD t 0) (W.getD t 0) := rfl; have hSw := S8.run_words (S8.of_words st) W t; obtain ⟨_, _, hew, _, _, hw5⟩ := sl_open (H.own (.tail _ (.head _)))
    cases hew
    obtain ⟨_, _, hek, _, _, hk5⟩ := sl_open (H.own (.head _))
    cases hek
    refine ve e0 ?_; generalize (S8.of st).run W t = S at *; refine draw_at [(0, true), (1, true), (4, true), (6, true), (7, true), (8, true), (9, true), (11, true), (12, true), (13, true), (14, true), (2, false), (3, true), (5, true), (10, true), (15, true), (16, true)] fun w7 hh hb3 => vs ?_; have H := H.go (hb3 _); have hw5 := (hw5.mono (hb3 _)).le (hb3 w6.heap.size).size; have hk5 := (hk5.mono (hb3 _)).le (hb3 w6.heap.size).size; refine q_elV pl_i64 sl55 t hk5 (getD_at (z := 0) (by rw [table64_len]; exact hlt)) rfl rfl fun ad hb hc _ => vs ?_; refine qx_load sc3 hc hb (by simp) (vs ?_); refine q_elV pl_i64 sl55 t hw5 (getD_at (z := 0) (by omega)) rfl rfl fun ad hb hc _ => vs ?_; refine qx_load sc3 hc hb (by simp) (vs ?_); refine x_call (specMix_ok w7 S.e 6 11 25 false (by omega) (by omega) (by omega)) fun _ w8 ⟨e, hb8⟩ => ?_; subst e; have H := H.go hb8; refine vs ?_; refine ⟨kept_of hb8 (Nat.le_refl _), ?_⟩; refine x_call (specMix_ok w8 S.a 2 13 22 false (by omega) (by omega) (by omega)) fun _ w9 ⟨e, hb9⟩ => ?_; subst e; have H := H.go hb9; refine vs ?_; refine x_callw (specWord_ok w9 _) (vs ?_); refine x_callw (specWord_ok w9 _) (vs ?_); refine ⟨t + 1, ⟨?_, ?_, ?_, ?_, ?_, ?_, ?_, ?_, i64_eq (by unfold w64; omega)⟩, ⟨hlt, H⟩, by omega⟩
    all_goals (rw [hrun]; rfl)
  · have e0 : ¬ ((t : Int) < 64) := by omega
    obtain rfl : t = 64 := by omega
    refine ve e0 ?_; have hSw := S8.run_words (S8.of_words st) W 64; generalize (S8.of st).run W 64 = S at *; refine x_lst H pl_i64 sl55 S.list hSw.i64 fun g7 w7 H => vs ?_; obtain ⟨A7, c7, e7, _, _, h7⟩ := sl_open (H.own (.head _)); have ha7 := (ha.mono H.bel).le H.ns; refine x_emp (Sep.start w7) pl_i64 sl55 fun g8 w8 J => vs ?_
    refine loop_at (σ := Nat × Value × List Nat) (fun x => [(0, .slice A st.length c), (20, .slice (some ⟨g7, 0, none⟩) 8 8), (21, x.2.1), (22, .int .i64 (x.1 : Int))])
      (fun x w' => x.1 ≤ 8 ∧ Sep w7.heap.size w7 w' [Ck.own ints x.2.2 [x.2.1] (outN st S x.1)]) (fun x => 8 - x.1) (0, _, _) (vs trivial) ⟨Nat.zero_le _, J⟩ ?_
    cases e7
    rintro ⟨k, v', fp⟩ s w9 ⟨hk, J⟩; dsimp only at hk J
    by_cases hk8 : k < 8
    · have e0 : ((k : Int) < 8) := by omega
      refine ve e0 ?_; refine draw_of [(0, true), (1, true), (2, true), (3, true), (4, true), (5, true), (6, true), (7, true), (8, true), (9, false), (10, true), (11, false), (12, false), (13, false), (14, true)] w7.heap.size [] fun w10 hh hb3 => vs ?_; have J := J.go (hb3 _); have J3 := J; refine q_elV pl_i64 sl55 k (h7.mono J.bel) (getD_at (z := 0) (by rw [S8.len]; exact hk8)) rfl rfl fun ad hb hc _ => vs ?_; refine qx_load sc3 hc hb (by simp) (vs ?_); refine q_elV pl_i64 sl55 k (ha7.mono J.bel) (getD_at (z := 0) (by omega)) rfl rfl fun ad hb hc _ => vs ?_; refine qx_load sc3 hc hb (by simp) (vs ?_); refine x_callw (specWord_ok w10 _) (vs ?_); refine ⟨kept_base J3 J3, ?_⟩; refine x_callw (specWord_ok w10 _) (vs ?_); refine ⟨kept_base J3 J3, ?_⟩; refine x_lst J pl_i64 sl55 [word (w64 (S.list.getD k 0 + word (st.getD k 0)))] (word_i64 _) fun g11 w11 J => vs ?_; refine ⟨kept_base J3 J, ?_⟩; refine x_app J pl_i64 sl55 (J.own (.head _)) ?_ ?_ fun fp9 v9 w12 J => vs ?_
      · simp only [List.length_cons, List.length_nil, outN_len]; omega
      · simp only [List.length_cons, List.length_nil, outN_len]; omega
      refine ⟨kept_base J3 J, (k + 1, v9, fp9), ⟨rfl, i64_eq (by show w64 ((k : Int) + 1) = ((k + 1 : Nat) : Int); unfold w64; omega)⟩, ⟨hk8, ?_⟩, by show 8 - (k + 1) < 8 - k; omega⟩; dsimp only; rw [outN_succ]; exact J.tail
    · have e0 : ¬ ((k : Int) < 8) := by omega
      obtain rfl : k = 8 := by omega
      refine ve e0 ?_; exact ⟨_, (H.join J).head⟩
def padB (b : List UInt8) : List UInt8 := b ++ [128] ++ List.replicate (zerosFor b.length) 0 ++ greatB (8 * (b.length : Int)) 8
theorem greatB_len' {n many : Int} (h : 0 ≤ n) (h1 : 1 ≤ many) (h2 : many ≤ 8) : (greatB n many).length = many.toNat := by
  unfold greatB littleB; rw [if_pos ⟨h, h1, h2⟩]; simp
theorem padB_len (b : List UInt8) : ∃ m, (padB b).length = 64 * m ∧ m ≤ b.length + 2 := by
  have hg := greatB_len' (n := 8 * (b.length : Int)) (many := 8) (by omega) (by omega) (by omega); refine ⟨(b.length + 1 + zerosFor b.length + 8) / 64, ?_, ?_⟩
  · unfold padB
    simp only [List.length_append, List.length_cons, List.length_nil, List.length_replicate, hg]; unfold zerosFor
    omega
  · unfold zerosFor; omega
theorem tmod64 (L : Nat) : ((L : Int).tmod 64) = ((L % 64 : Nat) : Int) := by
  rw [Int.tmod_eq_emod_of_nonneg (by omega)]; omega
theorem pad_step (n k : Nat) (hk : k ≤ zerosFor n) : ((((n + 1 + k) % 64 : Nat) : Int) = 56) ↔ k = zerosFor n := by unfold zerosFor at *; omega
theorem specHashPad_ok (w : World) (v : Value) (b : List UInt8) (h : (bytes 5).rd w w.heap.size [v] b) (hl : b.length ≤ 4000) :
    ACalls Tryz.prog 137 #[v] w fun r w' => ∃ fp, Sep w.heap.size w w' [Ck.own (bytes 5) fp [r] (padB b)] := by
  have h0 := h; obtain ⟨A, c, rfl, hc1, hc2, ha⟩ := sl_open h; have H := Sep.start w; have el : ¬ ((4000 : Int) < (b.length : Int)) := by omega
  refine body_of follows Tryz.func137 rfl rfl _ rfl (by kernel_rfl) (ve el ?_); refine x_emp H pl_u8 sl22 fun g1 w1 H => vs ?_; refine x_app H pl_u8 sl22 (H.rd h0) ?_ ?_ fun f2 v2 w2 H => vs ?_
  · simp only [List.length_nil]; omega
  · simp only [List.length_nil]; omega
  refine x_lst H pl_u8 sl22 [128] (by simp) fun g3 w3 H => vs ?_; refine x_app (l := [] ++ b) H pl_u8 sl22 (H.own (.head _)) ?_ ?_ fun f4 v4 w4 H => vs ?_
  · simp only [List.length_append, List.length_cons, List.length_nil]; omega
  · simp only [List.length_append, List.length_cons, List.length_nil]; omega
  have H := H.tail; rw [List.nil_append] at H
  refine loop_at (σ := Nat × Value × List Nat) (fun x => [(0, .slice A b.length c), (3, x.2.1)])
    (fun x w' => x.1 ≤ zerosFor b.length ∧ Sep w.heap.size w w' [Ck.own (bytes 5) x.2.2 [x.2.1] (b ++ [128] ++ List.replicate x.1 0)]) (fun x => zerosFor b.length - x.1) (0, v4, f4) (vs trivial) ⟨Nat.zero_le _, by simpa using H⟩ ?_
  rintro ⟨k, v4, f4⟩ s w4 ⟨hk, H⟩; dsimp only at hk H; have hz : zerosFor b.length < 64 := by unfold zerosFor; omega
  have hp := pad_step b.length k hk; have hlen : (b ++ [128] ++ List.replicate k (0 : UInt8)).length = b.length + 1 + k := by simp only [List.length_append, List.length_cons, List.length_nil, List.length_replicate]
  obtain ⟨A4, c4, rfl, _, _, _⟩ := sl_open (H.own (.head _)); refine vs ?_; refine x_rem ?_; rw [tmod64]
  by_cases hkz : k = zerosFor b.length
  · have e0 : ((((b ++ [128] ++ List.replicate k (0 : UInt8)).length % 64 : Nat) : Int) = 56) = True := by rw [hlen]; exact eq_true (hp.2 hkz)
    refine ve e0 ?_; have e1 : w64 (8 * (b.length : Int)) = 8 * (b.length : Int) := w64_id (by omega) (by omega); rw [e1]; refine x_callf H (specGreat_ok w4 _ 8 (by omega)) fun r5 f5 w5 H => vs ?_; have hg := greatB_len (8 * (b.length : Int)) 8; refine x_app (l := b ++ [128] ++ List.replicate k 0) H pl_u8 sl22 (H.own (.head _)) ?_ ?_ fun f6 v6 w6 H => vs ?_
    · rw [hlen]; omega
    · rw [hlen]; omega
    refine ⟨f6, ?_⟩; unfold padB; rw [← hkz]; exact H.only
  · have e0 : ((((b ++ [128] ++ List.replicate k (0 : UInt8)).length % 64 : Nat) : Int) = 56) = False := by rw [hlen]; exact eq_false (fun h => hkz (hp.1 h))
    refine ve e0 ?_; refine x_lst H pl_u8 sl22 [0] (by simp) fun g5 w5 H => vs ?_; refine x_app (l := b ++ [128] ++ List.replicate k 0) H pl_u8 sl22 (H.own (.head _)) ?_ ?_ fun f6 v6 w6 H => vs ?_
    · rw [hlen]; simp only [List.length_cons, List.length_nil]; omega
    · rw [hlen]; simp only [List.length_cons, List.length_nil]; omega
    refine ⟨(k + 1, v6, f6), rfl, ⟨by show k + 1 ≤ _; omega, ?_⟩, by show zerosFor b.length - (k + 1) < zerosFor b.length - k; omega⟩; dsimp only; rw [List.replicate_succ', ← List.append_assoc]; exact H.tail
def wordBytes : List Int → List UInt8
  | [] => []
  | x :: l => greatB (word x) 4 ++ wordBytes l
theorem wordBytes_app (l : List Int) (x : Int) : wordBytes (l ++ [x]) = wordBytes l ++ greatB (word x) 4 := by
  induction l with
  | nil => simp [wordBytes]
  | cons y l ih => simp [wordBytes, ih]
theorem wordBytes_len (l : List Int) : (wordBytes l).length = 4 * l.length := by
  induction l with
  | nil => rfl
  | cons y l ih =>
    have := greatB_len' (n := word y) (many := 4) (word_range y).1 (by omega) (by omega); simp only [wordBytes, List.length_append, List.length_cons, ih, this]; omega
theorem specWordBytes_ok (w : World) (v : Value) (l : List Int) (h : ints.rd w w.heap.size [v] l) (hl : l.length ≤ 1073741824) :
    ACalls Tryz.prog 140 #[v, .bool true] w fun r w' => ∃ fp, Sep w.heap.size w w' [Ck.own (bytes 5) fp [r] (wordBytes l)] := by
  obtain ⟨A, c, rfl, hc1, hc2, ha⟩ := sl_open h; have H := Sep.start w; refine body_of follows Tryz.func140 rfl rfl _ rfl (by kernel_rfl) (vs ?_); refine x_emp H pl_u8 sl22 fun g w1 H => vs ?_
  refine loop_at (σ := Nat × Value × List Nat) (fun x => [(0, .slice A l.length c), (1, .bool true), (5, x.2.1), (6, .int .i64 (x.1 : Int))])
    (fun x w' => x.1 ≤ l.length ∧ Sep w.heap.size w w' [Ck.own (bytes 5) x.2.2 [x.2.1] (wordBytes (l.take x.1))]) (fun x => l.length - x.1) (0, _, _) (vs trivial) ⟨Nat.zero_le _, H⟩ ?_
  rintro ⟨k, v', fp⟩ s w2 ⟨hk, H⟩; dsimp only at hk H; refine vs (ways ?_ ?_)
  · refine vh fun hlt => ?_
    have hk2 : k < l.length := by omega
    refine x_elV pl_i64 sl55 k (ha.mono H.bel) (getD_at (z := 0) hk2) rfl rfl fun ad hb hc _ => vs ?_; refine x_load sc3 hc (vs ?_); refine x_callw (specWord_ok w2 _) (vs ?_); have hw := word_range (l.getD k 0); refine x_callf H (specGreat_ok w2 _ 4 (by omega)) fun r3 f3 w3 H => vs ?_; have hg := greatB_len (word (l.getD k 0)) 4; have hwl := wordBytes_len (l.take k); rw [List.length_take] at hwl; refine x_app (l := wordBytes (l.take k)) H pl_u8 sl22 (H.own (.head _)) ?_ ?_ fun fp5 v5 w5 H => vs ?_
    · omega
    · omega
    refine ⟨(k + 1, v5, fp5), ⟨rfl, i64_eq (by show w64 ((k : Int) + 1) = ((k + 1 : Nat) : Int); unfold w64; omega)⟩, ⟨hk2, ?_⟩, by show l.length - (k + 1) < l.length - k; omega⟩; dsimp only; have e : l.take (k + 1) = l.take k ++ [l.getD k 0] := by rw [List.take_succ_eq_append_getElem hk2, List.getD_eq_getElem?_getD, List.getElem?_eq_getElem hk2, Option.getD_some]
    rw [e, wordBytes_app]; exact H.tail
  · refine vh fun hlt => ?_
    obtain rfl : k = l.length := by omega
    rw [List.take_length] at H; exact ⟨_, H⟩
def hashN (p : List UInt8) : Nat → List Int
  | 0 => start8
  | k + 1 => hashBlock (hashN p k) ((p.drop (64 * k)).take 64)
theorem hashN_len (p : List UInt8) : ∀ k, (hashN p k).length = 8
  | 0 => rfl
  | k + 1 => hashBlock_len ..
def hash (b : List UInt8) : List UInt8 := if b.length ≤ 4000 then wordBytes (hashN (padB b) ((padB b).length / 64)) else []
theorem hash_len (b : List UInt8) : (hash b).length ≤ 32 := by
  unfold hash
  split
  · rw [wordBytes_len, hashN_len]; omega
  · simp
theorem specHash_ok (w : World) (v : Value) (b : List UInt8) (h : (bytes 5).rd w w.heap.size [v] b) :
    ACalls Tryz.prog 125 #[v] w fun r w' => ∃ fp, Sep w.heap.size w w' [Ck.own (bytes 5) fp [r] (hash b)] := by
  have h0 := h; obtain ⟨A, c, rfl, hc1, hc2, ha⟩ := sl_open h; have H := Sep.start w; refine body_of follows Tryz.func125 rfl rfl _ rfl (by kernel_rfl) ?_
  by_cases hl : 4000 < b.length
  · have el : ((4000 : Int) < (b.length : Int)) := by omega
    refine ve el ?_; have e : hash b = [] := by unfold hash; rw [if_neg (by omega)]
    rw [e]; refine x_emp H pl_u8 sl22 fun g w1 H => vs ?_; exact ⟨_, H⟩
  have el : ¬ ((4000 : Int) < (b.length : Int)) := by omega
  refine ve el ?_; have e : hash b = wordBytes (hashN (padB b) ((padB b).length / 64)) := by unfold hash; rw [if_pos (by omega)]
  rw [e]; refine x_callf H (specHashPad_ok w _ b h0 (by omega)) fun r2 f2 w2 H => ?_; obtain ⟨m, hm, hmb⟩ := padB_len b; generalize padB b = p at *; obtain ⟨A2, c2, rfl, _, _, _⟩ := sl_open (H.own (.head _)); have hdm : p.length / 64 = m := by omega
  rw [hdm]; refine vs ?_; refine x_callf H (specStart_ok w2) fun r1 f1 w1 H => vs ?_
  refine loop_at (σ := Nat × Value × List Nat) (fun x => [(3, .slice A2 p.length c2), (4, x.2.1), (5, .int .i64 ((64 * x.1 : Nat) : Int))])
    (fun x w' => x.1 ≤ m ∧ Sep w.heap.size w w' [Ck.own ints x.2.2 [x.2.1] (hashN p x.1), Ck.own (bytes 5) f2 [.slice A2 p.length c2] p]) (fun x => m - x.1) (0, _, _) (vs ?_) ⟨Nat.zero_le _, H⟩ ?_
  · rfl
  rintro ⟨k, v', fp⟩ s w3 ⟨hk, H⟩; dsimp only at hk H; have e2 : w64 (((64 * k : Nat) : Int) + 63) = ((64 * k + 63 : Nat) : Int) := by unfold w64; omega
  by_cases hlt : k < m
  · have e0 : (((64 * k + 63 : Nat) : Int) < (p.length : Int)) := by omega
    have e1 : w64 (((64 * k : Nat) : Int) + 64) = ((64 * k + 64 : Nat) : Int) := by unfold w64; omega
    refine ve (And.intro e2 (And.intro e0 e1)) ?_; refine x_sub sl22 rfl (H.own (.tail _ (.head _))) (lo := 64 * k) (hi := 64 * k + 64) (by omega) (by omega) fun v4 hv4 => vs ?_; rw [show 64 * k + 64 - 64 * k = 64 by omega] at hv4; refine x_callf H (specHashBlock_ok w3 _ v4 _ _ (H.own (.head _)) hv4 (hashN_len p k) (by simp; omega)) fun r5 f5 w5 H => vs ?_; refine ⟨(k + 1, r5, f5), ⟨rfl, i64_eq (by show w64 (((64 * k : Nat) : Int) + 64) = ((64 * (k + 1) : Nat) : Int); rw [e1]; rfl)⟩, ⟨hlt, H.drop2⟩, by show m - (k + 1) < m - k; omega⟩
  · have e0 : ¬ (((64 * k + 63 : Nat) : Int) < (p.length : Int)) := by omega
    obtain rfl : k = m := by omega
    refine ve (And.intro e2 e0) ?_; refine x_callf H (specWordBytes_ok w3 _ _ (H.own (.head _)) (by rw [hashN_len]; omega)) fun r5 f5 w5 H => vs ?_; exact ⟨_, H.head⟩
section
variable {P : Program} {w : World} {K : Value → World → Prop} {KQ : Value → Prop} {m : Nat} {G : List (Nat × Nat)} {tg : Tg K} {tq : Tg (m, G, w, KQ)}
end
def xorB (a b : List UInt8) : List UInt8 := List.zipWith (· ^^^ ·) a b
theorem xorB_len (a b : List UInt8) : (xorB a b).length = min a.length b.length := by simp [xorB]
theorem xorB_succ {a b : List UInt8} {k : Nat} (h : k < a.length) (h' : k < b.length) : xorB (a.take (k + 1)) (b.take (k + 1)) = xorB (a.take k) (b.take k) ++ [a[k] ^^^ b[k]] := by
  unfold xorB; rw [List.take_succ_eq_append_getElem h, List.take_succ_eq_append_getElem h', List.zipWith_append (by simp; omega)]
  rfl
theorem xorB_take (a b : List UInt8) : xorB (a.take (min a.length b.length)) (b.take (min a.length b.length)) = xorB a b := by
  unfold xorB; rw [← List.take_zipWith]; exact List.take_of_length_le (by simp)
theorem specXor_ok (w : World) (v : Value) (a : List UInt8) (u : Value) (b : List UInt8) (h : (bytes 5).rd w w.heap.size [v] a) (h' : (bytes 5).rd w w.heap.size [u] b) (hl : a.length ≤ 1099511627776) :
    ACalls Tryz.prog 134 #[v, u] w fun r w' => ∃ fp, Sep w.heap.size w w' [Ck.own (bytes 5) fp [r] (xorB a b)] := by
  obtain ⟨A, c, rfl, _, _, ha⟩ := sl_open h; obtain ⟨B, d, rfl, _, _, hb⟩ := sl_open h'; have H := Sep.start w; refine body_of follows Tryz.func134 rfl rfl _ rfl (by kernel_rfl) (vs ?_); refine x_emp H pl_u8 sl22 fun g w1 H => vs ?_
  refine loop_at (σ := Nat × Value × List Nat) (fun x => [(0, .slice A a.length c), (1, .slice B b.length d), (5, x.2.1), (6, .int .i64 (x.1 : Int))])
    (fun x w' => x.1 ≤ min a.length b.length ∧ Sep w.heap.size w w' [Ck.own (bytes 5) x.2.2 [x.2.1] (xorB (a.take x.1) (b.take x.1))]) (fun x => min a.length b.length - x.1) (0, _, _) (vs trivial) ⟨Nat.zero_le _, H⟩ ?_
  rintro ⟨k, v', fp⟩ s w2 ⟨hk, H⟩; dsimp only at hk H
  by_cases hlt : k < min a.length b.length
  · have h1 : k < a.length := by omega
    have h2 : k < b.length := by omega
    have e0 : ((k : Int) < (a.length : Int)) ∧ ((k : Int) < (b.length : Int)) := by omega
    refine ve e0 ?_; refine draw_of [(0, true), (1, true), (2, true), (3, true), (4, true), (5, true), (6, true), (7, true), (8, true), (9, true), (10, false), (11, false), (12, true)] w.heap.size [] fun w3 hh hb3 => vs ?_; have H := H.go (hb3 _); have H3 := H; refine q_elV pl_u8 sl22 k (ha.mono H.bel) (List.getElem?_eq_getElem h1) rfl rfl fun ad hb1 hc1 _ => vs ?_; refine qx_load sc5 hc1 hb1 (by simp) (vs ?_); refine q_elV pl_u8 sl22 k (hb.mono H.bel) (List.getElem?_eq_getElem h2) rfl rfl fun ad hb2 hc2 _ => vs ?_; refine qx_load sc5 hc2 hb2 (by simp) (vs ?_); rw [ixor_u8]; refine x_lst H pl_u8 sl22 [a[k] ^^^ b[k]] (by simp) fun g4 w4 H => vs ?_; refine ⟨kept_base H3 H, ?_⟩; have hxl := xorB_len (a.take k) (b.take k); simp only [List.length_take] at hxl; refine x_app (l := xorB (a.take k) (b.take k)) H pl_u8 sl22 (H.own (.head _)) ?_ ?_ fun fp5 v5 w5 H => vs ?_
    · simp only [List.length_cons, List.length_nil]; omega
    · simp only [List.length_cons, List.length_nil]; omega
    refine ⟨kept_base H3 H, (k + 1, v5, fp5), ⟨rfl, i64_eq (by show w64 ((k : Int) + 1) = ((k + 1 : Nat) : Int); unfold w64; omega)⟩, ⟨hlt, ?_⟩, by show min a.length b.length - (k + 1) < min a.length b.length - k; omega⟩; dsimp only; rw [xorB_succ h1 h2]; exact H.tail
  · obtain rfl : k = min a.length b.length := by omega
    by_cases q1 : (((min a.length b.length : Nat) : Int) < (a.length : Int))
    · have q2 : ¬ (((min a.length b.length : Nat) : Int) < (b.length : Int)) := by omega
      refine ve (And.intro q1 q2) ?_; rw [xorB_take] at H; exact ⟨_, H⟩
    refine ve q1 ?_; rw [xorB_take] at H; exact ⟨_, H⟩
theorem word_rg (n : Int) : -9223372036854775808 ≤ word n ∧ word n < 9223372036854775808 := by have := word_range n; omega
theorem turn_rg (n k : Int) : -9223372036854775808 ≤ turn n k ∧ turn n k < 9223372036854775808 := by unfold turn; exact word_rg _
theorem words0_ok (w : World) (v : Value) (b : List UInt8) (n : Nat) (h : (bytes 5).rd w w.heap.size [v] b) (hl : b.length = 4 * n) (hn : n ≤ 1073741824) :
    ACalls Tryz.prog 128 #[v, .bool false] w fun r w' => ∃ (l : List Int) (fp : List Nat), l.length = n ∧ Sep w.heap.size w w' [Ck.own ints fp [r] l] := by
  obtain ⟨A, c, rfl, hc1, hc2, ha⟩ := sl_open h; have H := Sep.start w; refine body_of follows Tryz.func128 rfl rfl _ rfl (by kernel_rfl) (vs ?_); refine x_emp H pl_i64 sl55 fun g w1 H => vs ?_
  refine loop_at (σ := Nat × Value × List Int × List Nat) (fun x => [(0, .slice A b.length c), (1, .bool false), (5, x.2.1), (6, .int .i64 ((4 * x.1 : Nat) : Int))])
    (fun x w' => (x.1 ≤ n ∧ x.2.2.1.length = x.1) ∧ Sep w.heap.size w w' [Ck.own ints x.2.2.2 [x.2.1] x.2.2.1]) (fun x => n - x.1) (0, _, [], _) (vs ?_) ⟨⟨Nat.zero_le _, rfl⟩, H⟩ ?_
  · rfl
  rintro ⟨k, v', l, fp⟩ s w2 ⟨⟨hk, hlk⟩, H⟩; dsimp only at hk hlk H; have e1 : w64 (((4 * k : Nat) : Int) + 1) = ((4 * k + 1 : Nat) : Int) := by unfold w64; omega
  have e2 : w64 (((4 * k : Nat) : Int) + 2) = ((4 * k + 2 : Nat) : Int) := by unfold w64; omega
  have e3 : w64 (((4 * k : Nat) : Int) + 3) = ((4 * k + 3 : Nat) : Int) := by unfold w64; omega
  have e4 : w64 (((4 * k : Nat) : Int) + 4) = ((4 * k + 4 : Nat) : Int) := by unfold w64; omega
  by_cases hlt : k < n
  · have e5 : (((4 * k + 3 : Nat) : Int) < (b.length : Int)) := by omega
    refine ve (And.intro e3 e5) ?_; refine draw_of [(0, true), (1, true), (2, true), (3, true), (4, true), (5, true), (6, true), (7, true), (8, true), (9, true), (10, true), (11, true), (12, true), (13, true), (14, true), (15, true), (16, true), (17, true), (18, true), (19, true), (20, true), (21, true), (22, true), (23, true), (24, true), (25, true), (26, true), (27, true), (28, true), (29, true), (30, false), (31, false), (32, true)] w.heap.size [] fun w3 hh hb3 => vs ?_; have H := H.go (hb3 _); have H3 := H; have ha := ha.mono H.bel; refine q_elV pl_u8 sl22 (4 * k + 3) ha (getD_at (z := 0) (by omega)) e3 rfl fun ad hb hc _ => vs ?_; refine qx_load sc5 hc hb (by simp) (vs ?_); refine q_elV pl_u8 sl22 (4 * k + 2) ha (getD_at (z := 0) (by omega)) e2 rfl fun ad hb hc _ => vs ?_; refine qx_load sc5 hc hb (by simp) (vs ?_); refine q_elV pl_u8 sl22 (4 * k + 1) ha (getD_at (z := 0) (by omega)) e1 rfl fun ad hb hc _ => vs ?_; refine qx_load sc5 hc hb (by simp) (vs ?_); refine q_elV pl_u8 sl22 (4 * k) ha (getD_at (z := 0) (by omega)) rfl rfl fun ad hb hc _ => vs ?_; refine qx_load sc5 hc hb (by simp) (vs ?_); refine x_lst H pl_i64 sl55 [w4 (b.getD (4 * k + 3) 0) (b.getD (4 * k + 2) 0) (b.getD (4 * k + 1) 0) (b.getD (4 * k) 0)] (fun x hx => by simp only [List.mem_singleton] at hx; subst hx; exact w4_i64 ..) fun g3 w4' H => vs ?_; refine ⟨kept_base H3 H, ?_⟩; refine x_app H pl_i64 sl55 (H.own (.head _)) ?_ ?_ fun fp5 v5 w5 H => vs ?_
    · simp only [List.length_cons, List.length_nil]; omega
    · simp only [List.length_cons, List.length_nil]; omega
    refine ⟨kept_base H3 H, (k + 1, v5, l ++ [w4 (b.getD (4 * k + 3) 0) (b.getD (4 * k + 2) 0) (b.getD (4 * k + 1) 0) (b.getD (4 * k) 0)], fp5), ⟨rfl, i64_eq (by show w64 (((4 * k : Nat) : Int) + 4) = ((4 * (k + 1) : Nat) : Int); rw [e4]; rfl)⟩, ⟨⟨hlt, by show (l ++ _).length = k + 1; rw [List.length_append, List.length_singleton, hlk]⟩, H.tail⟩, by show n - (k + 1) < n - k; omega⟩
  · have e5 : ¬ (((4 * k + 3 : Nat) : Int) < (b.length : Int)) := by omega
    refine ve (And.intro e3 e5) ?_; exact ⟨l, fp, by omega, H⟩
theorem littleB_4 {n : Int} (h : 0 ≤ n) : (littleB n 4).length = 4 := by
  unfold littleB; rw [if_pos ⟨h, by decide, by decide⟩]
  simp
theorem up_n {k m : Nat} (h : k < m) (hm : m ≤ 1048576) : w64 ((k : Int) + 1) = ((k + 1 : Nat) : Int) ∧ m - (k + 1) < m - k := by unfold w64; omega
theorem wordBytes0_ok (w : World) (v : Value) (l : List Int) (h : ints.rd w w.heap.size [v] l) (hl : l.length ≤ 1024) :
    ACalls Tryz.prog 140 #[v, .bool false] w fun r w' => ∃ (b : List UInt8) (fp : List Nat), b.length = 4 * l.length ∧ Sep w.heap.size w w' [Ck.own (bytes 5) fp [r] b] := by
  obtain ⟨A, c, rfl, hc1, hc2, ha⟩ := sl_open h; have H := Sep.start w; refine body_of follows Tryz.func140 rfl rfl _ rfl (by kernel_rfl) (vs ?_); refine x_emp H pl_u8 sl22 fun g w1 H => vs ?_
  refine loop_at (σ := Nat × Value × List UInt8 × List Nat) (fun x => [(0, .slice A l.length c), (1, .bool false), (5, x.2.1), (6, .int .i64 (x.1 : Int))])
    (fun x w' => (x.1 ≤ l.length ∧ x.2.2.1.length = 4 * x.1) ∧ Sep w.heap.size w w' [Ck.own (bytes 5) x.2.2.2 [x.2.1] x.2.2.1]) (fun x => l.length - x.1) (0, .slice (some ⟨g, 0, none⟩) 0 0, [], [g]) (vs trivial) ⟨⟨Nat.zero_le _, rfl⟩, H⟩ ?_
  rintro ⟨k, u, b, fp⟩ s w2 ⟨⟨hk, hb⟩, H⟩; dsimp only at hk hb H; refine vs (ways ?_ ?_)
  · refine vh fun hlt => ?_
    have hk2 : k < l.length := by omega
    obtain ⟨ek, hdec⟩ := up_n hk2 (by omega); refine x_elV pl_i64 sl55 (x := l[k]) k (ha.mono H.bel) (List.getElem?_eq_getElem _) rfl rfl fun ad hd hc _ => vs ?_; refine x_load sc3 hc (vs ?_); refine x_callw (specWord_ok w2 _) (vs ?_); have hw := word_range l[k]; refine x_callf H (specLittle_ok w2 (word l[k]) 4 (by omega)) fun r3 f3 w3 H => vs ?_; have h4 := littleB_4 hw.1; refine x_app H pl_u8 sl22 (H.own (.head _)) ?_ ?_ (fun f4 v4 w4 H => vs ?_) (hm := .there .here)
    · omega
    · omega
    exact ⟨(k + 1, v4, b ++ littleB (word l[k]) 4, f4), ⟨rfl, i64_eq ek⟩, ⟨⟨hk2, by show (b ++ littleB (word l[k]) 4).length = 4 * (k + 1); rw [List.length_append]; omega⟩, H.tail⟩, hdec⟩
  · refine vh fun hlt => ?_
    exact ⟨b, fp, by omega, H⟩
def Four (a b c d : Nat) : Prop := (a < 16 ∧ b < 16 ∧ c < 16 ∧ d < 16) ∧ (a ≠ b ∧ a ≠ c ∧ a ≠ d ∧ b ≠ c ∧ b ≠ d ∧ c ≠ d)
theorem in_15 {a : Nat} (h : a < 16) : (0 ≤ (a : Int) ∧ (a : Int) ≤ 15) = True := eq_true (by omega)
theorem ne_ab {a b : Nat} (h : a ≠ b) : ((a : Int) = (b : Int)) = False := eq_false (by omega)
theorem quarter_ok (w : World) (v : Value) (l : List Int) (a b c d : Nat) (h : ints.rd w w.heap.size [v] l) (hl : l.length = 16) (hf : Four a b c d) :
    ACalls Tryz.prog 157 #[v, .int .i64 (a : Int), .int .i64 (b : Int), .int .i64 (c : Int), .int .i64 (d : Int)] w fun r w' => ∃ (m : List Int) (fp : List Nat), m.length = 16 ∧ Sep w.heap.size w w' [Ck.own ints fp [r] m] := by
  obtain ⟨⟨ha, hb, hc, hd⟩, nab, nac, nad, nbc, nbd, ncd⟩ := hf; have h9 := h; obtain ⟨A, cp, rfl, _, _, _⟩ := sl_open h; have H := Sep.start w; refine body_of follows Tryz.func157 rfl rfl _ rfl (by kernel_rfl) (vs ?_); refine x_emp H pl_i64 sl55 fun g1 w1 H => vs ?_; refine x_app H pl_i64 sl55 (H.rd h9) ?_ ?_ fun fp v2 w2 H => vs ?_
  · simp only [List.length_nil]; omega
  · simp only [List.length_nil]; omega
  rw [List.nil_append] at H; have hl2 : (l.length : Int) = 16 := by omega
  refine ve hl2 ?_; refine x_callw (l1In_ok w2 _ _ _) ?_; refine ve (in_15 ha) ?_; refine x_callw (l1In_ok w2 _ _ _) ?_; refine ve (in_15 hb) ?_; refine x_callw (l1In_ok w2 _ _ _) ?_; refine ve (in_15 hc) ?_; refine x_callw (l1In_ok w2 _ _ _) ?_; refine ve (And.intro (in_15 hd) (And.intro (ne_ab nab) (And.intro (ne_ab nac) (And.intro (ne_ab nad) (And.intro (ne_ab nbc) (And.intro (ne_ab nbd) (ne_ab ncd))))))) ?_; obtain ⟨B, c2, rfl, hB⟩ := own_val (show ints.ow w2 fp [v2] l from H.ok _ (.head _)); obtain ⟨g, rfl⟩ := hB (by omega); refine draw_zat [(0, true), (1, true), (2, true), (3, true), (4, true), (5, true), (6, true), (7, true), (8, true), (9, true), (10, true), (11, false), (12, true)] 13 [13] [] fun w3 hh hbd => vs ?_; have H := H.go (hbd _); obtain ⟨B', c', e', _, _, hR⟩ := sl_open (H.own (.head _)); simp only [Value.slice.injEq] at e'; obtain ⟨rfl, _, rfl⟩ := e'; refine q_elV pl_i64 sl55 (x := l[a]'(by omega)) a hR (List.getElem?_eq_getElem _) rfl rfl fun ad hd2 hcl _ => ?_; refine vs ?_; refine qx_load sc3 hcl hd2 (by simp) ?_; refine vs ?_; refine q_elV pl_i64 sl55 (x := l[b]'(by omega)) b hR (List.getElem?_eq_getElem _) rfl rfl fun ad hd2 hcl _ => ?_; refine vs ?_; refine qx_load sc3 hcl hd2 (by simp) ?_; refine vs ?_; refine x_callw (specWord_ok w3 _) ?_; refine vs ?_; refine ⟨Kept.refl .., ?_⟩; refine qx_index sl55 rfl (by omega) (by omega) ?_; refine vs ?_; refine dl_cons ⟨_, rfl, vs ?_⟩; refine x_setU (l := l) H pl_i64 sc3 (j := a) (by omega) (word_rg _) fun w5 l1 hl1 H => ?_; refine dl_nil (vs ?_); have hql1 : l1.length = 16 := by omega
  have hsl1 : Value.slice (some ⟨g, 0, none⟩) l.length c2 = .slice (some ⟨g, 0, none⟩) l1.length c2 := by rw [hl1]
  rw [hsl1]; refine draw_zat [(0, true), (1, true), (2, true), (3, true), (4, true), (5, true), (6, true), (7, true), (8, true), (9, true), (10, true), (11, false), (12, true)] 13 [13] [] fun w6 hh hbd => vs ?_; have H := H.go (hbd _); obtain ⟨B', c', e', _, _, hR⟩ := sl_open (H.own (.head _)); simp only [Value.slice.injEq] at e'; obtain ⟨rfl, _, rfl⟩ := e'; refine q_elV pl_i64 sl55 (x := l1[d]'(by omega)) d hR (List.getElem?_eq_getElem _) rfl rfl fun ad hd2 hcl _ => ?_; refine vs ?_; refine qx_load sc3 hcl hd2 (by simp) ?_; refine vs ?_; refine q_elV pl_i64 sl55 (x := l1[a]'(by omega)) a hR (List.getElem?_eq_getElem _) rfl rfl fun ad hd2 hcl _ => ?_; refine vs ?_; refine qx_load sc3 hcl hd2 (by simp) ?_; refine vs ?_; refine x_call (specTurn_ok w6 _ _) fun _ w7 ⟨e, hbt⟩ => ?_; subst e; have H := H.go hbt; refine vs ?_; refine ⟨kept_of hbt (Nat.le_refl _), ?_⟩; refine qx_index sl55 rfl (by omega) (by omega) ?_; refine vs ?_; refine dl_cons ⟨_, rfl, vs ?_⟩; refine x_setU (l := l1) H pl_i64 sc3 (j := d) (by omega) (turn_rg _ _) fun w8 l2 hl2 H => ?_; refine dl_nil (vs ?_); have hql2 : l2.length = 16 := by omega
  have hsl2 : Value.slice (some ⟨g, 0, none⟩) l1.length c2 = .slice (some ⟨g, 0, none⟩) l2.length c2 := by rw [hl2]
  rw [hsl2]; refine draw_zat [(0, true), (1, true), (2, true), (3, true), (4, true), (5, true), (6, true), (7, true), (8, true), (9, true), (10, true), (11, false), (12, true)] 13 [13] [] fun w9 hh hbd => vs ?_; have H := H.go (hbd _); obtain ⟨B', c', e', _, _, hR⟩ := sl_open (H.own (.head _)); simp only [Value.slice.injEq] at e'; obtain ⟨rfl, _, rfl⟩ := e'; refine q_elV pl_i64 sl55 (x := l2[c]'(by omega)) c hR (List.getElem?_eq_getElem _) rfl rfl fun ad hd2 hcl _ => ?_; refine vs ?_; refine qx_load sc3 hcl hd2 (by simp) ?_; refine vs ?_; refine q_elV pl_i64 sl55 (x := l2[d]'(by omega)) d hR (List.getElem?_eq_getElem _) rfl rfl fun ad hd2 hcl _ => ?_; refine vs ?_; refine qx_load sc3 hcl hd2 (by simp) ?_; refine vs ?_; refine x_callw (specWord_ok w9 _) ?_; refine vs ?_; refine ⟨Kept.refl .., ?_⟩; refine qx_index sl55 rfl (by omega) (by omega) ?_; refine vs ?_; refine dl_cons ⟨_, rfl, vs ?_⟩; refine x_setU (l := l2) H pl_i64 sc3 (j := c) (by omega) (word_rg _) fun w11 l3 hl3 H => ?_; refine dl_nil (vs ?_); have hql3 : l3.length = 16 := by omega
  have hsl3 : Value.slice (some ⟨g, 0, none⟩) l2.length c2 = .slice (some ⟨g, 0, none⟩) l3.length c2 := by rw [hl3]
  rw [hsl3]; refine draw_zat [(0, true), (1, true), (2, true), (3, true), (4, true), (5, true), (6, true), (7, true), (8, true), (9, true), (10, true), (11, false), (12, true)] 13 [13] [] fun w12 hh hbd => vs ?_; have H := H.go (hbd _); obtain ⟨B', c', e', _, _, hR⟩ := sl_open (H.own (.head _)); simp only [Value.slice.injEq] at e'; obtain ⟨rfl, _, rfl⟩ := e'; refine q_elV pl_i64 sl55 (x := l3[b]'(by omega)) b hR (List.getElem?_eq_getElem _) rfl rfl fun ad hd2 hcl _ => ?_; refine vs ?_; refine qx_load sc3 hcl hd2 (by simp) ?_; refine vs ?_; refine q_elV pl_i64 sl55 (x := l3[c]'(by omega)) c hR (List.getElem?_eq_getElem _) rfl rfl fun ad hd2 hcl _ => ?_; refine vs ?_; refine qx_load sc3 hcl hd2 (by simp) ?_; refine vs ?_; refine x_call (specTurn_ok w12 _ _) fun _ w13 ⟨e, hbt⟩ => ?_; subst e; have H := H.go hbt; refine vs ?_; refine ⟨kept_of hbt (Nat.le_refl _), ?_⟩; refine qx_index sl55 rfl (by omega) (by omega) ?_; refine vs ?_; refine dl_cons ⟨_, rfl, vs ?_⟩; refine x_setU (l := l3) H pl_i64 sc3 (j := b) (by omega) (turn_rg _ _) fun w14 l4 hl4 H => ?_; refine dl_nil (vs ?_); have hql4 : l4.length = 16 := by omega
  have hsl4 : Value.slice (some ⟨g, 0, none⟩) l3.length c2 = .slice (some ⟨g, 0, none⟩) l4.length c2 := by rw [hl4]
  rw [hsl4]; refine draw_zat [(0, true), (1, true), (2, true), (3, true), (4, true), (5, true), (6, true), (7, true), (8, true), (9, true), (10, true), (11, false), (12, true)] 13 [13] [] fun w15 hh hbd => vs ?_; have H := H.go (hbd _); obtain ⟨B', c', e', _, _, hR⟩ := sl_open (H.own (.head _)); simp only [Value.slice.injEq] at e'; obtain ⟨rfl, _, rfl⟩ := e'; refine q_elV pl_i64 sl55 (x := l4[a]'(by omega)) a hR (List.getElem?_eq_getElem _) rfl rfl fun ad hd2 hcl _ => ?_; refine vs ?_; refine qx_load sc3 hcl hd2 (by simp) ?_; refine vs ?_; refine q_elV pl_i64 sl55 (x := l4[b]'(by omega)) b hR (List.getElem?_eq_getElem _) rfl rfl fun ad hd2 hcl _ => ?_; refine vs ?_; refine qx_load sc3 hcl hd2 (by simp) ?_; refine vs ?_; refine x_callw (specWord_ok w15 _) ?_; refine vs ?_; refine ⟨Kept.refl .., ?_⟩; refine qx_index sl55 rfl (by omega) (by omega) ?_; refine vs ?_; refine dl_cons ⟨_, rfl, vs ?_⟩; refine x_setU (l := l4) H pl_i64 sc3 (j := a) (by omega) (word_rg _) fun w17 l5 hl5 H => ?_; refine dl_nil (vs ?_); have hql5 : l5.length = 16 := by omega
  have hsl5 : Value.slice (some ⟨g, 0, none⟩) l4.length c2 = .slice (some ⟨g, 0, none⟩) l5.length c2 := by rw [hl5]
  rw [hsl5]; refine draw_zat [(0, true), (1, true), (2, true), (3, true), (4, true), (5, true), (6, true), (7, true), (8, true), (9, true), (10, true), (11, false), (12, true)] 13 [13] [] fun w18 hh hbd => vs ?_; have H := H.go (hbd _); obtain ⟨B', c', e', _, _, hR⟩ := sl_open (H.own (.head _)); simp only [Value.slice.injEq] at e'; obtain ⟨rfl, _, rfl⟩ := e'; refine q_elV pl_i64 sl55 (x := l5[d]'(by omega)) d hR (List.getElem?_eq_getElem _) rfl rfl fun ad hd2 hcl _ => ?_; refine vs ?_; refine qx_load sc3 hcl hd2 (by simp) ?_; refine vs ?_; refine q_elV pl_i64 sl55 (x := l5[a]'(by omega)) a hR (List.getElem?_eq_getElem _) rfl rfl fun ad hd2 hcl _ => ?_; refine vs ?_; refine qx_load sc3 hcl hd2 (by simp) ?_; refine vs ?_; refine x_call (specTurn_ok w18 _ _) fun _ w19 ⟨e, hbt⟩ => ?_; subst e; have H := H.go hbt; refine vs ?_; refine ⟨kept_of hbt (Nat.le_refl _), ?_⟩; refine qx_index sl55 rfl (by omega) (by omega) ?_; refine vs ?_; refine dl_cons ⟨_, rfl, vs ?_⟩; refine x_setU (l := l5) H pl_i64 sc3 (j := d) (by omega) (turn_rg _ _) fun w20 l6 hl6 H => ?_; refine dl_nil (vs ?_); have hql6 : l6.length = 16 := by omega
  have hsl6 : Value.slice (some ⟨g, 0, none⟩) l5.length c2 = .slice (some ⟨g, 0, none⟩) l6.length c2 := by rw [hl6]
  rw [hsl6]; refine draw_zat [(0, true), (1, true), (2, true), (3, true), (4, true), (5, true), (6, true), (7, true), (8, true), (9, true), (10, true), (11, false), (12, true)] 13 [13] [] fun w21 hh hbd => vs ?_; have H := H.go (hbd _); obtain ⟨B', c', e', _, _, hR⟩ := sl_open (H.own (.head _)); simp only [Value.slice.injEq] at e'; obtain ⟨rfl, _, rfl⟩ := e'; refine q_elV pl_i64 sl55 (x := l6[c]'(by omega)) c hR (List.getElem?_eq_getElem _) rfl rfl fun ad hd2 hcl _ => ?_; refine vs ?_; refine qx_load sc3 hcl hd2 (by simp) ?_; refine vs ?_; refine q_elV pl_i64 sl55 (x := l6[d]'(by omega)) d hR (List.getElem?_eq_getElem _) rfl rfl fun ad hd2 hcl _ => ?_; refine vs ?_; refine qx_load sc3 hcl hd2 (by simp) ?_; refine vs ?_; refine x_callw (specWord_ok w21 _) ?_; refine vs ?_; refine ⟨Kept.refl .., ?_⟩; refine qx_index sl55 rfl (by omega) (by omega) ?_; refine vs ?_; refine dl_cons ⟨_, rfl, vs ?_⟩; refine x_setU (l := l6) H pl_i64 sc3 (j := c) (by omega) (word_rg _) fun w23 l7 hl7 H => ?_; refine dl_nil (vs ?_); have hql7 : l7.length = 16 := by omega
  have hsl7 : Value.slice (some ⟨g, 0, none⟩) l6.length c2 = .slice (some ⟨g, 0, none⟩) l7.length c2 := by rw [hl7]
  rw [hsl7]; refine draw_zat [(0, true), (1, true), (2, true), (3, true), (4, true), (5, true), (6, true), (7, true), (8, true), (9, true), (10, true), (11, false), (12, true)] 13 [13] [] fun w24 hh hbd => vs ?_; have H := H.go (hbd _); obtain ⟨B', c', e', _, _, hR⟩ := sl_open (H.own (.head _)); simp only [Value.slice.injEq] at e'; obtain ⟨rfl, _, rfl⟩ := e'; refine q_elV pl_i64 sl55 (x := l7[b]'(by omega)) b hR (List.getElem?_eq_getElem _) rfl rfl fun ad hd2 hcl _ => ?_; refine vs ?_; refine qx_load sc3 hcl hd2 (by simp) ?_; refine vs ?_; refine q_elV pl_i64 sl55 (x := l7[c]'(by omega)) c hR (List.getElem?_eq_getElem _) rfl rfl fun ad hd2 hcl _ => ?_; refine vs ?_; refine qx_load sc3 hcl hd2 (by simp) ?_; refine vs ?_; refine x_call (specTurn_ok w24 _ _) fun _ w25 ⟨e, hbt⟩ => ?_; subst e; have H := H.go hbt; refine vs ?_; refine ⟨kept_of hbt (Nat.le_refl _), ?_⟩; refine qx_index sl55 rfl (by omega) (by omega) ?_; refine vs ?_; refine dl_cons ⟨_, rfl, vs ?_⟩; refine x_setU (l := l7) H pl_i64 sc3 (j := b) (by omega) (turn_rg _ _) fun w26 l8 hl8 H => ?_; refine dl_nil (vs ?_); have hql8 : l8.length = 16 := by omega
  have hsl8 : Value.slice (some ⟨g, 0, none⟩) l7.length c2 = .slice (some ⟨g, 0, none⟩) l8.length c2 := by rw [hl8]
  rw [hsl8]; exact ⟨l8, fp, hql8, H⟩
end Go.Proofs.YtcmckbgiiclomabGreatDoor.V
