/- Texts laid by programs, part 13. -/
import Derived.Test.YtcmckbgiiclomacGreatU08
import Derived.Test.YtcmckbgiiclomacGreatU12
import Derived.Test.YtcmckbgiiclomacGreatU05
import Derived.Test.YtcmckbgiiclomacGreatU06
import Derived.Test.YtcmckbgiiclomacGreatU09
import Derived.Test.YtcmckbgiiclomacGreatU03
import Derived.Test.YtcmckbgiiclomacGreatU07
import Derived.Test.YtcmckbgiiclomacGreatU10
import Derived.Test.YtcmckbgiiclomacGreatU11
namespace Go.Proofs.YtcmckbgiiclomacGreat.V
open Go Go.RowKit
set_option maxRecDepth 100000
set_option maxHeartbeats 4000000
set_option linter.unusedSimpArgs false
set_option linter.unusedVariables false
set_option pp.deepTerms false
set_option pp.deepTerms.threshold 3
theorem postNew_okD : postOk zPost = true := by
  rw [postOk_iff]; refine ⟨⟨rfl, by decide, by decide, by decide⟩, ?_⟩
  show playGo [] [] 0 0 = _
  rw [playGo_none lineAt_nil]; rfl
theorem postOk_smD {p : MPost} (h : postOk p = true) : smPost p := by
  obtain ⟨⟨h1, h2, h3, h4⟩, h5⟩ := postOk_iff.1 h; have q : QI p.f_Queue := ⟨(queueOk_iff.1 h1).1, queueOk_item h1⟩; unfold smPost; exact ⟨q.sm, by omega⟩
theorem openPost {n : Nat} {w0 w : World} {L : List Ck} {fp : List Nat} {cs : List Value} (x : MPost) (H : Sep n w0 w (Ck.own kPost fp cs x :: L)) :
    ∃ f0 f2 v0 v2, cs = [v0, .int .i64 x.f_Time, v2, .int .i64 x.f_Sure] ∧ Sep n w0 w (Ck.own items f0 [v0] x.f_Queue :: Ck.own (bytes 5) f2 [v2] x.f_Book :: L) := by
  have H0 : Sep n w0 w (Ck.own (Kd.pair items (Kd.pair Kd.i64 (Kd.pair (bytes 5) Kd.i64))) fp cs (x.f_Queue, x.f_Time, x.f_Book, x.f_Sure) :: L) := H
  clear H
  obtain ⟨f0, f1, a0, a1, rfl, rfl, H1⟩ := H0.unpair; have H2 : Sep n w0 w (Ck.own items f0 a0 x.f_Queue :: Ck.own (Kd.pair Kd.i64 (Kd.pair (bytes 5) Kd.i64)) f1 a1 (x.f_Time, x.f_Book, x.f_Sure) :: L) := H1; have H3 := H2.front (c := Ck.own (Kd.pair Kd.i64 (Kd.pair (bytes 5) Kd.i64)) f1 a1 (x.f_Time, x.f_Book, x.f_Sure)) (.there .here); obtain ⟨fT, f3, aT, a3, rfl, rfl, H4⟩ := H3.unpair; have H5 : Sep n w0 w (Ck.own Kd.i64 fT aT x.f_Time :: Ck.own (Kd.pair (bytes 5) Kd.i64) f3 a3 (x.f_Book, x.f_Sure) :: Ck.own items f0 a0 x.f_Queue :: L) := H4; have H6 := H5.front (c := Ck.own (Kd.pair (bytes 5) Kd.i64) f3 a3 (x.f_Book, x.f_Sure)) (.there .here); obtain ⟨f2, fS, a2, aS, rfl, rfl, H7⟩ := H6.unpair; have H : Sep n w0 w (Ck.own (bytes 5) f2 a2 x.f_Book :: Ck.own Kd.i64 fS aS x.f_Sure :: Ck.own Kd.i64 fT aT x.f_Time :: Ck.own items f0 a0 x.f_Queue :: L) := H7
  clear H0 H1 H2 H3 H4 H5 H6 H7
  have eT : Kd.i64.rd w w.heap.size aT x.f_Time := H.own (d := Kd.i64) (fp := fT) (by simp); have eS : Kd.i64.rd w w.heap.size aS x.f_Sure := H.own (d := Kd.i64) (fp := fS) (by simp); have e0 : items.rd w w.heap.size a0 x.f_Queue := H.own (d := items) (fp := f0) (by simp); have e2 : (bytes 5).rd w w.heap.size a2 x.f_Book := H.own (d := bytes 5) (fp := f2) (by simp); obtain ⟨v0, rfl⟩ := sl_one e0; obtain ⟨v2, rfl⟩ := sl_one e2; have h1 := H.front (c := Ck.own (bytes 5) f2 [v2] x.f_Book) .here; have h2 := h1.front (c := Ck.own items f0 [v0] x.f_Queue) (.there (.there (.there .here))); have h3 := h2.drops' (L := [_, _]); have h4 := h3.drops' (L := [_, _]); refine ⟨f0, f2, v0, v2, ?_, h4⟩; rw [eT.1, eS.1]; rfl
theorem specPostNew_new (w : World) : ACalls Tryz.prog 92 #[] w fun r w' => r = .agg #[.slice none 0 0, .int .i64 0, .slice none 0 0, .int .i64 0] ∧ Below w.heap.size w w' := by
  have H := Sep.start w; refine body_of follows Tryz.func92 rfl rfl _ rfl (by kernel_rfl) (vs ?_); refine x_al H st26 fun g1 w1 H => vs ?_; refine x_build bl26 [.slice none 0 0, .int .i64 0, .slice none 0 0, .int .i64 0] ?_; refine vs ?_; refine x_sta H st26 (vs := [.slice none 0 0, .int .i64 0, .slice none 0 0, .int .i64 0]) (h1 := by simp [Value.oneCell']) fun w2 H => vs ?_; exact ⟨_, _, rfl, res_cell H st26, rfl, H.bel⟩
theorem up_9 {k q : Nat} (h : (k : Int) < (q : Int)) (hq : q = 0 ∨ (q : Int) < 9) : w64 ((k : Int) + 1) = ((k + 1 : Nat) : Int) ∧ 9 - (k + 1) < 9 - k := by unfold w64; omega
theorem tm_8 {t : Int} {q : Nat} (h : 0 ≤ t ∧ t ≤ 100000) (hq : q = 0 ∨ (q : Int) < 8) : w64 (t + (q : Int)) = t + (q : Int) ∧ (-9223372036854775808 ≤ t + (q : Int) ∧ t + (q : Int) < 9223372036854775808) := by unfold w64; omega
theorem rt_lo {r : List UInt8} (h : r.length = 16) : r.length ≤ 1048576 := by omega
theorem l15DrawRight_ok {n : Nat} {w0 w : World} {L : List Ck} {g : Nat} {v : Value} {i h : Int} {a : List UInt8} (H : Sep n w0 w (curB g v i h :: L)) (hv : (bytes 5).rd w0 n [v] a) (hi : 0 ≤ i ∧ i ≤ a.length) :
    ACalls Tryz.prog 64 #[.pointer (some ⟨g, 0, none⟩)] w fun r w' => ∃ (cs : List Value) (fp : List Nat) (p : MPost) (i' h' : Int), r = .agg cs.toArray ∧ postOk p = true ∧ (0 ≤ i' ∧ i' ≤ a.length) ∧ Sep n w0 w' (Ck.own kPost fp cs p :: curB g v i' h' :: L) := by
  refine body_of follows Tryz.func64 rfl rfl _ rfl (by kernel_rfl) (vs ?_); refine x_al H st26 fun g2 w1 H => vs ?_; refine x_call (specPostNew_new w1) fun _ w2 ⟨e, hb⟩ => ?_; subst e; have H := H.go hb; have H := H.nothing (kPost_zero w2); refine vs ?_; refine x_al H st26 fun g3 w3 H => vs ?_; refine x_sta H st26 (vs := [.slice none 0 0, .int .i64 0, .slice none 0 0, .int .i64 0]) (h1 := Kd.one _ (H.ow kPost [] [.slice none 0 0, .int .i64 0, .slice none 0 0, .int .i64 0] zPost)) fun w4 H => vs ?_; have H := H.front (c := curB g v i h); have H := H.front (c := Ck.own kPost [] [.slice none 0 0, .int .i64 0, .slice none 0 0, .int .i64 0] zPost); have H := H.front (c := Ck.box g3 [.slice none 0 0, .int .i64 0, .slice none 0 0, .int .i64 0] 26)
  refine loop_at (σ := Nat × MPost × List Value × List Nat × Int × Int) (fun y => [(0, .pointer (some ⟨g, 0, none⟩)), (2, .pointer (some ⟨g2, 0, none⟩)), (3, .pointer (some ⟨g3, 0, none⟩)), (4, .int .i64 (y.1 : Int))])
    (fun y w' => postOk y.2.1 = true ∧ (0 ≤ y.2.2.2.2.1 ∧ y.2.2.2.2.1 ≤ a.length) ∧ Sep n w0 w' (Ck.box g3 y.2.2.1 26 :: Ck.own kPost y.2.2.2.1 y.2.2.1 y.2.1 :: curB g v y.2.2.2.2.1 y.2.2.2.2.2 :: Ck.box g2 [.slice none 0 0, .int .i64 0, .slice none 0 0, .int .i64 0] 26 :: L)) (fun y => 9 - y.1) (0, zPost, [.slice none 0 0, .int .i64 0, .slice none 0 0, .int .i64 0], [], i, h) (vs trivial) ⟨postNew_okD, hi, H⟩ ?_
  rintro ⟨k, p, cs, fp, i1, h1⟩ s w5 ⟨hok, hi1, H⟩; dsimp only at hok hi1 H; have hsm := postOk_smD hok; have hT := (postOk_iff.1 hok).1.2.1; obtain ⟨v1, v2, rfl, _⟩ := kPost_open (H.ow kPost fp cs p); refine vs ?_; have H := H.front (c := curB g v i1 h1); refine x_call (l1Below_ok 9 H hv hi1) fun _ w6 ⟨m, i2, h2, e, hm, hi2, H⟩ => ?_; subst e
  by_cases hlt : (k : Int) < (m : Int)
  rotate_left
  · refine ve hlt ?_
    refine x_lda H st26 ?_; refine vs ?_; refine x_sta H st26 (vs := [v1, .int .i64 p.f_Time, v2, .int .i64 p.f_Sure]) (h1 := Kd.one _ (H.ow kPost fp [v1, .int .i64 p.f_Time, v2, .int .i64 p.f_Sure] p)) fun w7 H => vs ?_; have hres := res_cell H (g := g2) (cs := [v1, .int .i64 p.f_Time, v2, .int .i64 p.f_Sure]) st26; have H := H.front (c := curB g v i2 h2); have H := H.front (c := Ck.own kPost fp [v1, .int .i64 p.f_Time, v2, .int .i64 p.f_Sure] p); have H := H.drops' (L := [_, _]); have H := H.drops' (L := [_, _]); exact ⟨_, _, rfl, hres, _, fp, p, i2, h2, rfl, hok, hi2, H⟩
  obtain ⟨ek, hdec⟩ := up_9 hlt hm; refine ve hlt ?_; refine x_call (l1Below_ok 6 H hv hi2) fun _ w7 ⟨q, i3, h3, e, hq, hi3, H⟩ => ?_; subst e
  by_cases q0 : (q : Int) = 0
  · refine ve q0 ?_
    refine draw_zp [(0, true), (1, true), (2, false), (3, false), (4, true)] 5 [(5, true), (6, true), (7, true), (8, false)] (g3 + 1) (Gb n g3) fun w8 hh hb8 => vs ?_; have H := H.go (hb8 _); have H8 := H; refine q_ldaX H st26 ?_; refine vs ?_; refine x_call (l13DrawRoute_ok H hv hi3) fun _ w9 ⟨R, i4, h4, e, hR, hi4, H⟩ => ?_; subst e; refine vs ?_; refine ⟨kept_box H8 H, ?_⟩; refine x_call (specFetch_ok w9 _ p R (H.ow kPost fp [v1, .int .i64 p.f_Time, v2, .int .i64 p.f_Sure] p) hsm (rt_lo hR)) fun _ w10 ⟨cs2, fp2, ds2, fi2, e, S⟩ => ?_; subst e; have H := H.join S; simp only [List.cons_append, List.nil_append] at H; refine vs ?_; refine ⟨kept_box H8 H, ?_⟩; have gr := fetch_grew R hok; obtain ⟨p2, hp2⟩ : ∃ p2, p2 = (fetchP p R).1 := ⟨_, rfl⟩; rw [← hp2] at H gr; obtain ⟨z1, z2, rfl, _⟩ := kPost_open (H.ow kPost fp2 cs2 p2); refine q_ext ?_; refine vs ?_; refine q_ext ?_; refine vs ?_; refine q_ext ?_; refine vs ?_; refine x_sta H st26 (vs := [z1, .int .i64 p2.f_Time, z2, .int .i64 p2.f_Sure]) (h1 := Kd.one _ (H.ow kPost fp2 [z1, .int .i64 p2.f_Time, z2, .int .i64 p2.f_Sure] p2)) fun w12 H => vs ?_; refine ⟨kept_zero _ _, ?_⟩; have H := H.front (c := Ck.box g2 [.slice none 0 0, .int .i64 0, .slice none 0 0, .int .i64 0] 26); have H := H.front (c := curB g v i4 h4); have H := H.front (c := Ck.own kPost fp2 [z1, .int .i64 p2.f_Time, z2, .int .i64 p2.f_Sure] p2); have H := H.front (c := Ck.box g3 [z1, .int .i64 p2.f_Time, z2, .int .i64 p2.f_Sure] 26); have H := H.drops' (L := [_, _, _, _]); have H := H.drops' (L := [_, _, _, _]); exact ⟨(k + 1, p2, _, fp2, i4, h4), i64_eq ek, ⟨gr.1, hi4, H⟩, hdec⟩
  refine ve q0 ?_
  by_cases q1 : (q : Int) = 1
  · refine ve q1 ?_
    refine draw_zp [(0, true), (1, true), (2, true), (3, true), (4, false), (5, true), (6, false), (7, true)] 8 [(8, true), (9, true), (10, false)] (g3 + 1) (Gb n g3) fun w8 hh hb8 => vs ?_; have H := H.go (hb8 _); have H8 := H; refine q_ldaX H st26 ?_; refine vs ?_; refine q_ldX H sc3 ?_; refine vs ?_; refine x_call (l1Below_ok 8 H hv hi3) fun _ w9 ⟨m2, i4, h4, e, hm2, hi4, H⟩ => ?_; subst e; refine vs ?_; refine ⟨kept_box H8 H, ?_⟩; obtain ⟨e8, r8⟩ := tm_8 hT hm2; refine ve e8 ?_; refine x_call (specTick_ok w9 _ p (p.f_Time + (m2 : Int)) (H.ow kPost fp [v1, .int .i64 p.f_Time, v2, .int .i64 p.f_Sure] p) hsm r8) fun _ w10 ⟨cs2, fp2, e, S⟩ => ?_; subst e; have H := H.join S; simp only [List.cons_append, List.nil_append] at H; refine vs ?_; refine ⟨kept_box H8 H, ?_⟩; have gr := tick_grew (p.f_Time + (m2 : Int)) hok; obtain ⟨p2, hp2⟩ : ∃ p2, p2 = (tickP p (p.f_Time + (m2 : Int))).1 := ⟨_, rfl⟩; rw [← hp2] at H gr; obtain ⟨z1, z2, rfl, _⟩ := kPost_open (H.ow kPost fp2 cs2 p2); refine q_ext ?_; refine vs ?_; refine q_ext ?_; refine vs ?_; refine x_sta H st26 (vs := [z1, .int .i64 p2.f_Time, z2, .int .i64 p2.f_Sure]) (h1 := Kd.one _ (H.ow kPost fp2 [z1, .int .i64 p2.f_Time, z2, .int .i64 p2.f_Sure] p2)) fun w12 H => vs ?_; refine ⟨kept_zero _ _, ?_⟩; have H := H.front (c := Ck.box g2 [.slice none 0 0, .int .i64 0, .slice none 0 0, .int .i64 0] 26); have H := H.front (c := curB g v i4 h4); have H := H.front (c := Ck.own kPost fp2 [z1, .int .i64 p2.f_Time, z2, .int .i64 p2.f_Sure] p2); have H := H.front (c := Ck.box g3 [z1, .int .i64 p2.f_Time, z2, .int .i64 p2.f_Sure] 26); have H := H.drops' (L := [_, _, _, _]); exact ⟨(k + 1, p2, _, fp2, i4, h4), i64_eq ek, ⟨gr.1, hi4, H⟩, hdec⟩
  refine ve q1 ?_
  by_cases q2 : (q : Int) = 2
  · refine ve q2 ?_
    refine x_lda H st26 ?_; refine vs ?_; refine x_call (specSync_ok w7 _ p (H.ow kPost fp [v1, .int .i64 p.f_Time, v2, .int .i64 p.f_Sure] p) hsm) fun _ w10 ⟨cs2, fp2, e, S⟩ => ?_; subst e; have H := H.join S; simp only [List.cons_append, List.nil_append] at H; have gr := And.intro (sync_ok hok) True.intro; obtain ⟨p2, hp2⟩ : ∃ p2, p2 = syncP p := ⟨_, rfl⟩; rw [← hp2] at H gr; obtain ⟨z1, z2, rfl, _⟩ := kPost_open (H.ow kPost fp2 cs2 p2); refine vs ?_; refine x_sta H st26 (vs := [z1, .int .i64 p2.f_Time, z2, .int .i64 p2.f_Sure]) (h1 := Kd.one _ (H.ow kPost fp2 [z1, .int .i64 p2.f_Time, z2, .int .i64 p2.f_Sure] p2)) fun w12 H => vs ?_; have H := H.front (c := Ck.box g2 [.slice none 0 0, .int .i64 0, .slice none 0 0, .int .i64 0] 26); have H := H.front (c := curB g v i3 h3); have H := H.front (c := Ck.own kPost fp2 [z1, .int .i64 p2.f_Time, z2, .int .i64 p2.f_Sure] p2); have H := H.front (c := Ck.box g3 [z1, .int .i64 p2.f_Time, z2, .int .i64 p2.f_Sure] 26); have H := H.drops' (L := [_, _, _, _]); exact ⟨(k + 1, p2, _, fp2, i3, h3), i64_eq ek, ⟨gr.1, hi3, H⟩, hdec⟩
  refine ve q2 ?_; refine draw_zp [(0, true), (1, true), (2, false), (3, false), (4, true)] 5 [(5, true), (6, true), (7, false)] (g3 + 1) (Gb n g3) fun w8 hh hb8 => vs ?_; have H := H.go (hb8 _); have H8 := H; refine q_ldaX H st26 ?_; refine vs ?_; refine x_call (l13DrawItem_ok H hv hi3) fun _ w9 ⟨ds, fd, x, i4, h4, e, hx, hi4, H⟩ => ?_; subst e; refine vs ?_; refine ⟨kept_box H8 H, ?_⟩; refine x_call (specDrop_ok w9 _ p _ x (H.ow kPost fp [v1, .int .i64 p.f_Time, v2, .int .i64 p.f_Sure] p) (H.ow kItem fd ds x) hsm hx.sm) fun _ w10 ⟨cs2, fp2, e, S⟩ => ?_; subst e; have H := H.join S; simp only [List.cons_append, List.nil_append] at H; refine vs ?_; refine ⟨kept_box H8 H, ?_⟩; have gr := drop_grew x hok; obtain ⟨p2, hp2⟩ : ∃ p2, p2 = (dropP p x).1 := ⟨_, rfl⟩; rw [← hp2] at H gr; obtain ⟨z1, z2, rfl, _⟩ := kPost_open (H.ow kPost fp2 cs2 p2); refine q_ext ?_; refine vs ?_; refine q_ext ?_; refine vs ?_; refine x_sta H st26 (vs := [z1, .int .i64 p2.f_Time, z2, .int .i64 p2.f_Sure]) (h1 := Kd.one _ (H.ow kPost fp2 [z1, .int .i64 p2.f_Time, z2, .int .i64 p2.f_Sure] p2)) fun w12 H => vs ?_; refine ⟨kept_zero _ _, ?_⟩; have H := H.front (c := Ck.box g2 [.slice none 0 0, .int .i64 0, .slice none 0 0, .int .i64 0] 26); have H := H.front (c := curB g v i4 h4); have H := H.front (c := Ck.own kPost fp2 [z1, .int .i64 p2.f_Time, z2, .int .i64 p2.f_Sure] p2); have H := H.front (c := Ck.box g3 [z1, .int .i64 p2.f_Time, z2, .int .i64 p2.f_Sure] 26); have H := H.drops' (L := [_, _, _, _]); have H := H.drops' (L := [_, _, _, _]); exact ⟨(k + 1, p2, _, fp2, i4, h4), i64_eq ek, ⟨gr.1, hi4, H⟩, hdec⟩
theorem postOk_bk {p : MPost} (h : postOk p = true) : p.f_Book.length ≤ 12000 := (postOk_iff.1 h).1.2.2.1
theorem postOk_tr {p : MPost} (h : postOk p = true) : -9223372036854775808 ≤ p.f_Time ∧ p.f_Time < 9223372036854775808 := by have := (postOk_iff.1 h).1.2.1; omega
theorem postOk_sr {p : MPost} (h : postOk p = true) : -9223372036854775808 ≤ p.f_Sure ∧ p.f_Sure < 9223372036854775808 := by have := (postOk_iff.1 h).1.2.2; omega
theorem smQ_app {l : List MItem} {x : MItem} (h : smItemS l) (hl : l.length ≤ 10) (hx : smItem x) : smItemS (l ++ [x]) :=
  ⟨by rw [List.length_append, List.length_singleton]; omega, fun y hy => (List.mem_append.1 hy).elim (h.2 y) fun h => by rw [List.mem_singleton.1 h]; exact hx⟩
theorem l15Draw_ok {n : Nat} {w0 w : World} {L : List Ck} {g : Nat} {v : Value} {i h : Int} {a : List UInt8} (H : Sep n w0 w (curB g v i h :: L)) (hv : (bytes 5).rd w0 n [v] a) (hi : 0 ≤ i ∧ i ≤ a.length) :
    ACalls Tryz.prog 37 #[.pointer (some ⟨g, 0, none⟩)] w fun r w' => ∃ (cs : List Value) (fp : List Nat) (p : MPost) (i' h' : Int), r = .agg cs.toArray ∧ smPost p ∧ (0 ≤ i' ∧ i' ≤ a.length) ∧ Sep n w0 w' (Ck.own kPost fp cs p :: curB g v i' h' :: L) := by
  refine body_of follows Tryz.func37 rfl rfl _ rfl (by kernel_rfl) (vs ?_); refine x_al H st26 fun g2 w1 H => vs ?_; have H := H.front (c := curB g v i h); refine x_call (l15DrawRight_ok H hv hi) fun _ w2 ⟨cs, fp, p, i1, h1, e, hok, hi1, H⟩ => ?_; subst e; have hsm := postOk_smD hok; have hbk := postOk_bk hok; have rT := postOk_tr hok; have rS := postOk_sr hok; have HO := openPost p H
  clear H
  obtain ⟨f0, f2, v0, v2, rfl, H⟩ := HO; have o0 := one1 (fp := f0) (x := p.f_Queue) H (.head _); have o2 := one1 (fp := f2) (x := p.f_Book) H (.tail _ (.head _)); refine vs ?_; refine x_al H st26 fun g3 w3 H => vs ?_; refine x_sta H st26 (vs := [v0, .int .i64 p.f_Time, v2, .int .i64 p.f_Sure]) (h1 := one4 o0 o2) fun w4 H => vs ?_; have H := H.front (c := curB g v i1 h1); refine x_call (l1Below_ok 12 H hv hi1) fun _ w5 ⟨q, i2, h2, e, hq, hi2, H⟩ => ?_; subst e
  by_cases q0 : (q : Int) = 0
  · refine ve q0 ?_
    refine x_lst H pl_i64 sl60 [-1, 0, 3, 100001] (by simp) fun g7 w6 H => vs ?_; refine x_call (l1PickInt_ok _ H hv hi2 (by simp)) fun _ w7 ⟨X, i3, h3, e, _, hX, hi3, H⟩ => ?_; subst e; refine vs ?_; refine x_st H sc3 fun w8 H => vs ?_; refine x_lda H st26 ?_; refine vs ?_; refine x_sta H st26 (vs := [v0, .int .i64 X, v2, .int .i64 p.f_Sure]) (h1 := one4 o0 o2) fun w12 H => vs ?_; have hres := res_cell H (g := g2) (cs := [v0, .int .i64 X, v2, .int .i64 p.f_Sure]) st26; have H := H.front (c := curB g v i3 h3); have H := H.front (c := Ck.own (bytes 5) f2 [v2] p.f_Book); have H := H.front (c := Ck.own items f0 [v0] p.f_Queue); obtain ⟨fp, H⟩ := ownPost (⟨p.f_Queue, X, p.f_Book, p.f_Sure⟩ : MPost) H hX rS; have H := H.drops' (L := [_, _]); have H := H.drops' (L := [_, _]); exact ⟨_, _, rfl, hres, _, fp, (⟨p.f_Queue, X, p.f_Book, p.f_Sure⟩ : MPost), i3, h3, rfl, hsm, hi3, H⟩
  refine ve q0 ?_
  by_cases q1 : (q : Int) = 1
  · refine ve q1 ?_
    refine x_lst H pl_i64 sl60 [-1, 0, 99999] (by simp) fun g7 w6 H => vs ?_; refine x_call (l1PickInt_ok _ H hv hi2 (by simp)) fun _ w7 ⟨X, i3, h3, e, _, hX, hi3, H⟩ => ?_; subst e; refine vs ?_; refine x_st H sc3 fun w8 H => vs ?_; refine x_lda H st26 ?_; refine vs ?_; refine x_sta H st26 (vs := [v0, .int .i64 p.f_Time, v2, .int .i64 X]) (h1 := one4 o0 o2) fun w12 H => vs ?_; have hres := res_cell H (g := g2) (cs := [v0, .int .i64 p.f_Time, v2, .int .i64 X]) st26; have H := H.front (c := curB g v i3 h3); have H := H.front (c := Ck.own (bytes 5) f2 [v2] p.f_Book); have H := H.front (c := Ck.own items f0 [v0] p.f_Queue); obtain ⟨fp, H⟩ := ownPost (⟨p.f_Queue, p.f_Time, p.f_Book, X⟩ : MPost) H rT hX; have H := H.drops' (L := [_, _]); have H := H.drops' (L := [_, _]); exact ⟨_, _, rfl, hres, _, fp, (⟨p.f_Queue, p.f_Time, p.f_Book, X⟩ : MPost), i3, h3, rfl, hsm, hi3, H⟩
  refine ve q1 ?_
  by_cases q2 : (q : Int) = 2
  · refine ve q2 ?_
    refine x_ld H sc22 ?_; refine vs ?_; have H := H.front (c := Ck.own (bytes 5) f2 [v2] p.f_Book); refine x_call (l14Dent_ok H hv hi2 (by omega)) fun r w6 ⟨b2, f5, i3, h3, hb2, hi3, H⟩ => ?_; have o5 := one1 (fp := f5) (x := b2) H (.head _); refine vs ?_; refine x_st H sc22 (h1 := o5) fun w8 H => vs ?_; refine x_lda H st26 ?_; refine vs ?_; refine x_sta H st26 (vs := [v0, .int .i64 p.f_Time, r, .int .i64 p.f_Sure]) (h1 := one4 o0 o5) fun w12 H => vs ?_; have hres := res_cell H (g := g2) (cs := [v0, .int .i64 p.f_Time, r, .int .i64 p.f_Sure]) st26; have H := H.front (c := curB g v i3 h3); have H := H.front (c := Ck.own (bytes 5) f5 [r] b2); have H := H.front (c := Ck.own items f0 [v0] p.f_Queue); obtain ⟨fp, H⟩ := ownPost (⟨p.f_Queue, p.f_Time, b2, p.f_Sure⟩ : MPost) H rT rS; have H := H.drops' (L := [_, _]); have H := H.drops' (L := [_, _]); exact ⟨_, _, rfl, hres, _, fp, (⟨p.f_Queue, p.f_Time, b2, p.f_Sure⟩ : MPost), i3, h3, rfl, ⟨hsm.1, by show b2.length ≤ 1048576; omega⟩, hi3, H⟩
  refine ve q2 ?_
  by_cases q3 : (q : Int) = 3
  · refine ve q3 ?_
    refine draw_zn [(0, true), (1, true), (2, true), (3, false), (4, false), (5, false), (6, true)] 7 [7] (g3 + 1) (Gb n g3) fun w6 hh hb6 => vs ?_; have H := H.go (hb6 _); have H6 := H; refine q_ldX H sc24 ?_; refine vs ?_; refine x_call (l13DrawItem_ok H hv hi2) fun _ w7 ⟨ds, fd, x, i3, h3, e, hx, hi3, H⟩ => ?_; subst e; refine vs ?_; refine ⟨kept_box H6 H, ?_⟩; obtain ⟨ux, eds, _⟩ := kItem_open (H.ow kItem fd ds x); subst eds; refine x_lst1 sl24 H rfl rfl fun f8 v8 w8 H => vs ?_; refine ⟨kept_box H6 H, ?_⟩; have H := H.front (c := Ck.own items f0 [v0] p.f_Queue); have H := H.front (c := Ck.own items f8 [v8] [x]); have hl10 := postOk_len hok; refine x_appO sl24 H rfl ?_ ?_ fun f9 v9 w9 H => vs ?_
    · simp only [List.length_cons, List.length_nil]; omega
    · simp only [List.length_cons, List.length_nil]; omega
    refine ⟨kept_box H6 H, ?_⟩; have o9 := one1 (fp := f9) (x := p.f_Queue ++ [x]) H (.head _); refine dl_cons ⟨_, rfl, vs ?_⟩; refine x_st H sc24 (h1 := o9) fun w10 H => ?_; refine dl_nil (vs ?_); refine x_lda H st26 ?_; refine vs ?_; refine x_sta H st26 (vs := [v9, .int .i64 p.f_Time, v2, .int .i64 p.f_Sure]) (h1 := one4 o9 o2) fun w12 H => vs ?_; have hres := res_cell H (g := g2) (cs := [v9, .int .i64 p.f_Time, v2, .int .i64 p.f_Sure]) st26; have H := H.front (c := curB g v i3 h3); have H := H.front (c := Ck.own (bytes 5) f2 [v2] p.f_Book); have H := H.front (c := Ck.own items f9 [v9] (p.f_Queue ++ [x])); obtain ⟨fp, H⟩ := ownPost (⟨p.f_Queue ++ [x], p.f_Time, p.f_Book, p.f_Sure⟩ : MPost) H rT rS; have H := H.drops' (L := [_, _]); have H := H.drops' (L := [_, _]); exact ⟨_, _, rfl, hres, _, fp, (⟨p.f_Queue ++ [x], p.f_Time, p.f_Book, p.f_Sure⟩ : MPost), i3, h3, rfl, ⟨smQ_app hsm.1 hl10 hx.sm, hsm.2⟩, hi3, H⟩
  refine ve q3 ?_; refine x_lda H st26 ?_; refine vs ?_; refine x_sta H st26 (vs := [v0, .int .i64 p.f_Time, v2, .int .i64 p.f_Sure]) (h1 := one4 o0 o2) fun w12 H => vs ?_; have hres := res_cell H (g := g2) (cs := [v0, .int .i64 p.f_Time, v2, .int .i64 p.f_Sure]) st26; have H := H.front (c := curB g v i2 h2); have H := H.front (c := Ck.own (bytes 5) f2 [v2] p.f_Book); have H := H.front (c := Ck.own items f0 [v0] p.f_Queue); obtain ⟨fp, H⟩ := ownPost (⟨p.f_Queue, p.f_Time, p.f_Book, p.f_Sure⟩ : MPost) H rT rS; have H := H.drops' (L := [_, _]); have H := H.drops' (L := [_, _]); exact ⟨_, _, rfl, hres, _, fp, (⟨p.f_Queue, p.f_Time, p.f_Book, p.f_Sure⟩ : MPost), i2, h2, rfl, hsm, hi2, H⟩
def Gb2 (n m m' : Nat) : List (Nat × Nat) := fpG ((List.range' n (max m m' + 1 - n)).filter fun b => decide (b ≠ m ∧ b ≠ m'))
theorem Gb2_not {n m m' b : Nat} (h : b = m ∨ b = m') : ∀ t, (b, t) ∉ Gb2 n m m' := fun t ht => by
  obtain ⟨k, hk, e⟩ := List.mem_map.1 ht; obtain ⟨rfl, _⟩ := Prod.mk.inj e; have h2 := (List.mem_filter.1 hk).2; simp only [decide_eq_true_eq] at h2
  omega
theorem kept_box2 {n m m' : Nat} {w0 w w' : World} {L L' : List Ck} {cs ds : List Value} {t s : TypeId} (H : Sep n w0 w L) (H' : Sep n w0 w' L') (hm : Ck.box m cs t ∈ L := by repeat (first | exact List.mem_cons_self | apply List.mem_cons_of_mem)) (hm' : Ck.box m cs t ∈ L' := by repeat (first | exact List.mem_cons_self | apply List.mem_cons_of_mem))
    (hk : Ck.box m' ds s ∈ L := by repeat (first | exact List.mem_cons_self | apply List.mem_cons_of_mem)) (hk' : Ck.box m' ds s ∈ L' := by repeat (first | exact List.mem_cons_self | apply List.mem_cons_of_mem)) : Kept (max m m' + 1) (Gb2 n m m') w w' := by
  have l1 := H'.lt hm'; have l2 := H'.lt hk'; refine ⟨fun _ => by omega, fun b hb hG => ?_, fun g t hg _ j hj => ?_⟩
  · by_cases h : b < n
    · rw [H'.bel.block b h, H.bel.block b h]
    · by_cases e : b = m
      · subst e
        have h1 : w'.heap[b]? = some (.cells cs.toArray t (0, 0)) := H'.ok _ hm'; have h2 : w.heap[b]? = some (.cells cs.toArray t (0, 0)) := H.ok _ hm; rw [h1, h2]
      · by_cases e2 : b = m'
        · subst e2
          have h1 : w'.heap[b]? = some (.cells ds.toArray s (0, 0)) := H'.ok _ hk'; have h2 : w.heap[b]? = some (.cells ds.toArray s (0, 0)) := H.ok _ hk; rw [h1, h2]
        · exact absurd (fpG_mem (List.mem_filter.2 ⟨List.mem_range'_1.2 ⟨by omega, by omega⟩, by simp [e, e2]⟩)) (hG 0)
  · rw [fpG_zero _ _ hg] at hj; omega
section
variable {P : Program} {n : Nat} {w0 w : World} {L : List Ck} {K : Value → Prop}
theorem q_ldaX2 {m m' b : Nat} {tg : Tg (max m m' + 1, Gb2 n m m', w, K)} (h0 : b = m ∨ b = m') (H : Sep n w0 w L) {cs : List Value} {t e : TypeId} {sz : Nat} {z : Array Value} (HS : StT P e sz z) (h : K (.agg cs.toArray)) (hm : Ck.box b cs t ∈ L := by repeat (first | exact List.mem_cons_self | apply List.mem_cons_of_mem)) (hl : cs.length = sz := by rfl) :
    QS P (max m m' + 1) (Gb2 n m m') w K tg (Instr.loadAt e (.pointer (some ⟨b, 0, none⟩))) := qx_loadAgg HS cs hl (fun j v hj => by rw [Kd.add_plain, H.cell hm]; exact hj) (by show b < max m m' + 1; omega) (Gb2_not h0) h
end

def RestZ (P : Program) (ops : Array Oper) (n : Nat) (G : List (Nat × Nat)) (w0 : World) (K : Sl → World → Prop) (z k : Nat) (listed : Array Bool) (_ : Tg (ops, n, G, w0, K, z, k, listed)) (s : Sl) (w : World) : Prop := Closed ops listed → Kept n G w0 w → adrZ P ops K (Kept n G w0) z k listed s w
section
variable {P : Program} {l : List Oper} {n : Nat} {G : List (Nat × Nat)} {w0 : World} {K : Sl → World → Prop} {s : Sl} {w : World} {listed : Array Bool} {z k : Nat}
theorem fork_zdraw {tg : Tg (l.toArray, K)} (z n : Nat) (G : List (Nat × Nat)) (h : ∀ w1, w1.heap = w.heap → (∀ m, Below m w w1) → RestZ P l.toArray n G w1 K z l.toArray.size (Array.replicate l.toArray.size false) .mk s w1) : Adraw P l.toArray K tg s w := by
  have key := h w.drew rfl (fun m => (Below.refl m w).drew) (closed_none _ _) (Kept.refl ..); exact fun m a ha hok => wpAny_of_Z _ _ _ _ (key m a ha hok)
theorem restz_pre {tg : Tg (l.toArray, n, G, w0, K, z, k, listed)} (pl : List (Nat × Bool)) (k' : Nat) (h : Dpl P l.toArray n G w0 (fun s w => RestZ P l.toArray n G w0 K z k' (planTo pl listed) .mk s w) pl .mk s w)
    (hs : Region.noSelect l.toArray = true := by kernel_rfl) (hp : planPre l.toArray pl listed = true := by kernel_rfl) (hz : planZ l.toArray z pl = true := by kernel_rfl) (hl : pl.length + k' = k := by decide) : RestZ P l.toArray n G w0 K z k listed tg s w := by
  subst hl; intro hcl hS; refine preZ_sound hs pl k' listed s w hcl hp hz hS ?_; exact dpl_mono (fun s w hr hk => hr (closed_plan pl listed hcl hp) hk) pl s w h
theorem restz_fork {tg : Tg (l.toArray, n, G, w0, K, z, k, listed)} (i j : Nat) (k' : Nat)
    (hi : Dpl P l.toArray n G w0 (fun s w => RestZ P l.toArray n G w0 K z k' (listed.setIfInBounds i true) .mk s w) [(i, false)] .mk s w)
    (hj : Dpl P l.toArray n G w0 (fun s w => RestZ P l.toArray n G w0 K z k' (listed.setIfInBounds j true) .mk s w) [(j, false)] .mk s w)
    (hr : (Region.ready .any l.toArray listed == [i, j]) = true := by kernel_rfl) (hk : k = k' + 1 := by rfl) : RestZ P l.toArray n G w0 K z k listed tg s w := by
  subst hk; refine fun hcl hS => adrZ_all [i, j] (beq_iff_eq.1 hr) (by simp) fun q hq => ?_; have hmem : q ∈ Region.ready .any l.toArray listed := by rw [beq_iff_eq.1 hr]; exact hq
  simp only [List.mem_cons, List.not_mem_nil, or_false] at hq
  rcases hq with rfl | rfl
  · exact aopI_mono (aopI_dpl hi) fun s' w' h => ⟨fun _ => h.1, h.2 (closed_set hcl hmem) h.1⟩
  · exact aopI_mono (aopI_dpl hj) fun s' w' h => ⟨fun _ => h.1, h.2 (closed_set hcl hmem) h.1⟩
theorem restz_late {tg : Tg (l.toArray, n, G, w0, K, z, k, listed)} (late : List Nat) (h : DLate P l.toArray K late .mk s w)
    (hq : lateOk l.toArray z late listed = true := by kernel_rfl) (hl : late.length ≤ k := by decide) : RestZ P l.toArray n G w0 K z k listed tg s w := fun _ _ => late_sound late _ _ s w hq hl h
end
section
variable {P : Program} {n : Nat} {w0 w : World} {L : List Ck} {K : Value → Prop}
theorem q_ldX2 {m m' b j : Nat} {tg : Tg (max m m' + 1, Gb2 n m m', w, K)} (h0 : b = m ∨ b = m') (H : Sep n w0 w L) {cs : List Value} {t e : TypeId} {z v : Value} (HS : ScT P e z) (h : K v) (hm : Ck.box b cs t ∈ L := by repeat (first | exact List.mem_cons_self | apply List.mem_cons_of_mem)) (hv : cs[j]? = some v := by rfl) :
    QS P (max m m' + 1) (Gb2 n m m') w K tg (Instr.loadAt e (.pointer (some ⟨b, j, none⟩))) := qx_load HS (by rw [H.cell hm]; exact hv) (by show b < max m m' + 1; omega) (Gb2_not h0) h
end
theorem indexFuncB_ok (w : World) (v : Value) (l : List (List UInt8)) (p : List UInt8 → Bool) (f : FuncId) (fs cs : Array Value) (h : (Kd.slice 22 (bytes 5)).rd w w.heap.size [v] l) (hf : entersB Tryz.prog f = true)
    (hc : ∀ w' u x, Below w.heap.size w w' → (bytes 5).rd w' w'.heap.size [u] x → ACalls Tryz.prog f (fs ++ #[u] ++ cs) w' fun r w'' => r = .bool (p x) ∧ Below w'.heap.size w' w'') :
    ACalls Tryz.prog 85 #[v, .func (.func f) fs cs] w fun r w' => ((∃ k : Nat, r = .int .i64 k ∧ l.any p = true) ∨ (r = .int .i64 (-1) ∧ l.any p = false)) ∧ Below w.heap.size w w' := by
  have hlm := sl_len h; obtain ⟨A, c, rfl, hc1, hc2, ha⟩ := sl_open h; refine body_of follows Tryz.func85 rfl rfl _ rfl (by kernel_rfl) (vs ?_)
  refine loop_at (σ := Nat) (fun k => [(0, .slice A l.length c), (1, .func (.func f) fs cs), (7, .int .i64 (l.length : Int)), (8, .int .i64 (k : Int))])
    (fun k w' => k ≤ l.length ∧ (∀ i (hi : i < l.length), i < k → p l[i] = false) ∧ Sep w.heap.size w w' []) (fun k => l.length - k) 0 (vs trivial) ⟨Nat.zero_le _, fun i hi h => absurd h (Nat.not_lt_zero i), Sep.start w⟩ ?_
  rintro k s w2 ⟨hk, hall, H⟩; refine vs (ways ?_ ?_)
  · refine vh fun hlt => ?_
    have hk2 : k < l.length := by omega
    refine x_elg sl27 rfl (ha.mono H.bel) (by omega) hlt fun ad es hb hr hc' => vs ?_; obtain ⟨u, rfl⟩ := sl_one hr; refine x_ld1 sc22 hc' rfl (vs ?_); refine x_callv hf (hc w2 u _ H.bel (Kd.le _ hr H.ns)) fun _ w3 ⟨e3, hb3⟩ => ?_; subst e3; have H := H.go hb3; refine vs (ways ?_ ?_)
    · refine vh fun hp => ?_
      exact ⟨.inl ⟨k, rfl, List.any_eq_true.2 ⟨_, List.getElem_mem _, hp⟩⟩, H.bel⟩
    · refine vh fun hp => ?_
      refine ⟨k + 1, i64_eq (by unfold w64; omega), ⟨hk2, fun i hi h => ?_, H⟩, by omega⟩
      by_cases h2 : i = k
      · subst h2; simpa using hp
      · exact hall i hi (by omega)
  · refine vh fun hlt => ?_
    refine ⟨.inr ?_, H.bel⟩; rw [List.any_eq_false]; intro y hy; obtain ⟨i, hi, rfl⟩ := List.getElem_of_mem hy; rw [hall i hi (by omega)]; simp
theorem containsFuncB_ok (w : World) (v : Value) (l : List (List UInt8)) (p : List UInt8 → Bool) (f : FuncId) (fs cs : Array Value) (h : (Kd.slice 22 (bytes 5)).rd w w.heap.size [v] l) (hf : entersB Tryz.prog f = true)
    (hc : ∀ w' u x, Below w.heap.size w w' → (bytes 5).rd w' w'.heap.size [u] x → ACalls Tryz.prog f (fs ++ #[u] ++ cs) w' fun r w'' => r = .bool (p x) ∧ Below w'.heap.size w' w'') :
    ACalls Tryz.prog 57 #[v, .func (.func f) fs cs] w fun r w' => r = .bool (l.any p) ∧ Below w.heap.size w w' := by
  refine body_of follows Tryz.func57 rfl rfl _ rfl (by kernel_rfl) (vs ?_); refine x_call (indexFuncB_ok w v l p f fs cs h hf hc) fun _ w2 ⟨hr, hb⟩ => ?_
  rcases hr with ⟨k, rfl, e⟩ | ⟨rfl, e⟩
  · refine vs ?_
    rw [e]; exact ⟨by simp, hb⟩
  · refine vs ?_
    rw [e]; exact ⟨by simp, hb⟩
def seenP (x : MReader) (i : Nat) : Prop := ∃ (h : i < x.f_Seen.length) (h2 : i < x.f_Got.length), x.f_Seen[i].length ≤ 1560 ∧ x.f_Got[i].length ≤ 200 ∧ ∀ k (hk : k < i), ¬ x.f_Seen[k]'(by omega) = x.f_Seen[i]
def readerP (x : MReader) : Prop := x.f_Seed.length = 32 ∧ (0 ≤ x.f_Epoch ∧ x.f_Epoch ≤ 40) ∧ x.f_Seen.length ≤ 20 ∧ x.f_Got.length = x.f_Seen.length ∧ ∀ i, i < x.f_Seen.length → seenP x i
noncomputable def readerOk (x : MReader) : Bool := @decide (readerP x) (Classical.propDecidable _)
theorem readerOk_true {x : MReader} (h : readerP x) : readerOk x = true := @decide_eq_true _ (Classical.propDecidable _) h
theorem readerOk_false {x : MReader} (h : ¬ readerP x) : readerOk x = false := @decide_eq_false _ (Classical.propDecidable _) h
theorem specReaderOk_ok (w : World) (cs : List Value) (x : MReader) (h : kReader.rd w w.heap.size cs x) :
    ACalls Tryz.prog 49 #[.agg cs.toArray] w fun r w' => r = .bool (readerOk x) ∧ Below w.heap.size w w' := by
  obtain ⟨v0, v2, v3, rfl, h0, h1, h2, h3⟩ := kReader_open h; have hl2 := sl_len h2; obtain ⟨A0, c0, rfl, _, _, _⟩ := sl_open h0; obtain ⟨A2, c2, rfl, hc2, hm2, ha2⟩ := sl_open h2; obtain ⟨A3, c3, rfl, hc3, hm3, ha3⟩ := sl_open h3; have H := Sep.start w; refine body_of follows Tryz.func49 rfl rfl _ rfl (by kernel_rfl) (vs ?_); refine x_bx H [_, _, _, _] fun g1 w1 H => vs ?_; refine x_ld H sc22 ?_
  by_cases hA : (x.f_Seed.length : Int) = 32
  · refine ve hA ?_
    refine x_ld H sc3 ?_; refine vs ?_; refine x_callw (l1In_ok w1 _ _ _) ?_
    by_cases hB : 0 ≤ x.f_Epoch ∧ x.f_Epoch ≤ 40
    · refine ve hB ?_
      refine x_ld H sc27 ?_
      by_cases hC : 20 < (x.f_Seen.length : Int)
      · refine ve hC ?_
        exact ⟨by rw [readerOk_false fun h => by have := h.2.2.1; omega], H.bel⟩
      · refine ve hC ?_
        refine x_ld H sc27 ?_; refine vs ?_; refine x_ld H sc27 ?_; refine vs (ways ?_ ?_)
        · refine vh fun hD => ?_
          have hlg : x.f_Got.length = x.f_Seen.length := by omega
          refine loop_at (σ := Nat) (fun k => [(1, .pointer (some ⟨g1, 0, none⟩)), (3, .int .i64 (k : Int))])
            (fun k w' => k ≤ x.f_Seen.length ∧ (∀ i, i < k → seenP x i) ∧ Sep w.heap.size w w' [Ck.box g1 [.slice A0 x.f_Seed.length c0, .int .i64 x.f_Epoch, .slice A2 x.f_Seen.length c2, .slice A3 x.f_Got.length c3] 29]) (fun k => x.f_Seen.length - k) 0 (vs trivial) ⟨Nat.zero_le _, fun i h => absurd h (Nat.not_lt_zero i), H⟩ ?_
          rintro k s w2 ⟨hk, hall, H⟩; refine vs ?_; refine x_ld H sc27 ?_; refine vs (ways ?_ ?_)
          · refine vh fun hlt => ?_
            have hk2 : k < x.f_Seen.length := by omega
            have hbad : ¬ seenP x k → readerOk x = false := fun hn => readerOk_false fun hp => hn (hp.2.2.2.2 k hk2); refine x_ld H sc27 ?_; refine vs ?_; refine x_elg sl27 rfl (ha2.mono H.bel) (by omega) hlt fun ad es hb hr hc => vs ?_; have hr : (bytes 5).rd w2 w.heap.size es x.f_Seen[k] := hr; obtain ⟨u, rfl⟩ := sl_one hr; obtain ⟨B, cb, rfl, _, _, _⟩ := sl_open hr; refine x_ld1 sc22 hc rfl (vs ?_)
            by_cases hE : 1560 < (x.f_Seen[k].length : Int)
            · refine ve hE ?_
              exact ⟨by rw [hbad fun ⟨_, _, h, _⟩ => by omega], H.bel⟩
            · refine ve hE ?_
              refine x_ld H sc27 ?_; refine vs ?_; refine x_elg sl27 rfl (ha3.mono H.bel) (by omega) (by omega) fun ad2 es2 hb2 hr2 hc2' => vs ?_; have hr2 : (bytes 5).rd w2 w.heap.size es2 (x.f_Got[k]'(by omega)) := hr2; obtain ⟨u2, rfl⟩ := sl_one hr2; obtain ⟨B2, cb2, rfl, _, _, _⟩ := sl_open hr2; refine x_ld1 sc22 hc2' rfl (vs ?_); refine ways ?_ ?_
              · refine vh fun hF => ?_
                exact ⟨by rw [hbad fun ⟨_, _, _, h, _⟩ => by omega], H.bel⟩
              · refine vh fun hF => ?_
                refine loop_at (σ := Nat) (fun j => [(1, .pointer (some ⟨g1, 0, none⟩)), (3, .int .i64 (k : Int)), (4, .int .i64 (j : Int))])
                  (fun j w' => j ≤ k ∧ (∀ i (hi : i < k), i < j → ¬ x.f_Seen[i]'(by omega) = x.f_Seen[k]) ∧ Sep w.heap.size w w' [Ck.box g1 [.slice A0 x.f_Seed.length c0, .int .i64 x.f_Epoch, .slice A2 x.f_Seen.length c2, .slice A3 x.f_Got.length c3] 29]) (fun j => k - j) 0 (vs trivial) ⟨Nat.zero_le _, fun i _ h => absurd h (Nat.not_lt_zero i), H⟩ ?_
                rintro j s3 w3 ⟨hj, hne, H⟩; refine vs (ways ?_ ?_)
                · refine vh fun hjk => ?_
                  refine draw_at [(0, true), (1, true), (2, true), (3, true), (4, true), (5, true), (6, true), (7, true), (8, true), (9, true), (10, false)] fun w4 hh hb4 => vs ?_; have H := H.go (hb4 _); refine q_ld H sc27 ?_; refine vs ?_; refine q_elg sl27 rfl (ha2.mono H.bel) (by omega) (by omega) fun ad3 es3 hb3 hr3 hc3' => vs ?_; have hr3 : (bytes 5).rd w4 w.heap.size es3 (x.f_Seen[j]'(by omega)) := hr3; obtain ⟨u3, rfl⟩ := sl_one hr3; refine q_ld1 sc22 hc3' rfl (Nat.lt_of_lt_of_le hb3 H.ns) (vs ?_); refine q_ld H sc27 ?_; refine vs ?_; refine q_elg sl27 rfl (ha2.mono H.bel) (by omega) (by omega) fun ad5 es5 hb5 hr5 hc5' => vs ?_; have hr5 : (bytes 5).rd w4 w.heap.size es5 x.f_Seen[k] := hr5; obtain ⟨u5, rfl⟩ := sl_one hr5; refine q_ld1 sc22 hc5' rfl (Nat.lt_of_lt_of_le hb5 H.ns) (vs ?_); refine x_callw (specSame_ok w4 u3 u5 _ _ (Kd.le _ hr3 H.ns) (Kd.le _ hr5 H.ns)) ?_; refine vs ?_; refine ⟨Kept.refl .., ?_⟩; refine ways ?_ ?_
                  · refine vh fun hS => ?_
                    exact ⟨by rw [hbad fun ⟨_, _, _, _, h⟩ => h j (by omega) hS], H.bel⟩
                  · refine vh fun hS => ?_
                    refine ⟨j + 1, i64_eq (by unfold w64; omega), ⟨by omega, fun i hi h => ?_, H⟩, by omega⟩
                    by_cases h2 : i = j
                    · subst h2; exact hS
                    · exact hne i hi (by omega)
                · refine vh fun hjk => ?_
                  refine ⟨k + 1, i64_eq (by unfold w64; omega), ⟨hk2, fun i h => ?_, H⟩, by omega⟩
                  by_cases h2 : i = k
                  · subst h2; exact ⟨hk2, by omega, by omega, by omega, fun q hq => hne q hq (by omega)⟩
                  · exact hall i (by omega)
          · refine vh fun hlt => ?_
            exact ⟨by rw [readerOk_true ⟨by omega, hB, by omega, hlg, fun i hi => hall i (by omega)⟩], H.bel⟩
        · refine vh fun hD => ?_
          exact ⟨by rw [readerOk_false fun h => by have := h.2.2.2.1; omega], H.bel⟩
    · refine ve hB ?_
      exact ⟨by rw [readerOk_false fun h => hB h.2.1], H.bel⟩
  · refine ve hA ?_
    exact ⟨by rw [readerOk_false fun h => hA (by have := h.1; omega)], H.bel⟩
theorem keyOf_ok (w : World) (v : Value) (a : List UInt8) (n : Int) (h : (bytes 5).rd w w.heap.size [v] a) :
    ACalls Tryz.prog 56 #[v, .int .i64 n] w fun r w' => r = .bool (decide (a.length = 32) && decide (0 ≤ n ∧ n ≤ 40)) ∧ w' = w := by
  obtain ⟨A, c, rfl, _, _, _⟩ := sl_open h; refine body_of follows Tryz.func56 rfl rfl _ rfl (by kernel_rfl) (vs ?_)
  by_cases hA : (a.length : Int) = 32
  · refine ve hA ?_
    refine x_callw (in_ok w _ _ _) ?_; refine ve hA ?_; have : a.length = 32 := by omega
    simp [this]
  · refine ve hA ?_
    have : ¬ a.length = 32 := by omega
    simp [this]
theorem implReaderOk1_ok (w : World) (u : Value) (g : Nat) (v : Value) (x b : List UInt8) (h : (bytes 5).rd w w.heap.size [u] x) (h' : (bytes 5).rd w w.heap.size [v] b) (hg : w.cell? ⟨g, 0, none⟩ = some v) :
    ACalls Tryz.prog 58 (#[] ++ #[u] ++ #[.pointer (some ⟨g, 0, none⟩)]) w fun r w' => r = .bool (decide (x = b)) ∧ Below w.heap.size w w' := by
  refine body_of (args := [u, .pointer (some ⟨g, 0, none⟩)]) follows Tryz.func58 rfl rfl _ rfl (by kernel_rfl) (vs ?_); refine x_load sc22 hg (vs ?_); refine x_callw (implSame_ok w u v x b h h') (vs ?_); exact Below.refl ..
theorem implReaderOk_ok (w : World) (cs : List Value) (x : MReader) (h : kReader.rd w w.heap.size cs x) :
    ACalls Tryz.prog 29 #[.agg cs.toArray] w fun r w' => r = .bool (readerOk x) ∧ Below w.heap.size w w' := by
  obtain ⟨v0, v2, v3, rfl, h0, h1, h2, h3⟩ := kReader_open h; have hl2 := sl_len h2; have h2' := h2; obtain ⟨A2, c2, rfl, hc2, hm2, ha2⟩ := sl_open h2; obtain ⟨A3, c3, rfl, hc3, hm3, ha3⟩ := sl_open h3; have H := Sep.start w; refine body_of follows Tryz.func29 rfl rfl _ rfl (by kernel_rfl) (vs ?_); refine x_bx H [_, _, _, _] fun g1 w1 H => vs ?_; refine x_ld H sc22 ?_; refine vs ?_; refine x_ld H sc3 ?_; refine vs ?_; refine x_callw (keyOf_ok w1 v0 x.f_Seed _ (H.rd h0)) ?_
  by_cases hA : (decide (x.f_Seed.length = 32) && decide (0 ≤ x.f_Epoch ∧ x.f_Epoch ≤ 40)) = true
  · have hA' := hA
    simp only [Bool.and_eq_true, decide_eq_true_eq] at hA'; generalize (decide (x.f_Seed.length = 32) && decide (0 ≤ x.f_Epoch ∧ x.f_Epoch ≤ 40)) = kb at hA; subst hA; refine vs ?_; refine x_ld H sc27 ?_
    by_cases hC : 20 < (x.f_Seen.length : Int)
    · refine ve hC ?_
      exact ⟨by rw [readerOk_false fun h => by have := h.2.2.1; omega], H.bel⟩
    · refine ve hC ?_
      refine x_ld H sc27 ?_; refine vs ?_; refine x_ld H sc27 ?_; refine vs (ways ?_ ?_)
      · refine vh fun hD => ?_
        have hlg : x.f_Got.length = x.f_Seen.length := by omega
        refine x_ld H sc27 ?_; refine vs ?_
        refine loop_at (σ := Nat) (fun k => [(1, .pointer (some ⟨g1, 0, none⟩)), (27, .slice A2 x.f_Seen.length c2), (28, .int .i64 (x.f_Seen.length : Int)), (29, .int .i64 (k : Int))])
          (fun k w' => k ≤ x.f_Seen.length ∧ (∀ i, i < k → seenP x i) ∧ Sep w.heap.size w w' [Ck.box g1 [v0, .int .i64 x.f_Epoch, .slice A2 x.f_Seen.length c2, .slice A3 x.f_Got.length c3] 29]) (fun k => x.f_Seen.length - k) 0 (vs trivial) ⟨Nat.zero_le _, fun i h => absurd h (Nat.not_lt_zero i), H⟩ ?_
        rintro k s w2 ⟨hk, hall, H⟩; refine vs (ways ?_ ?_)
        · refine vh fun hlt => ?_
          have hk2 : k < x.f_Seen.length := by omega
          have hbad : ¬ seenP x k → readerOk x = false := fun hn => readerOk_false fun hp => hn (hp.2.2.2.2 k hk2); refine x_ele H sl27 rfl k hk2 ha2 rfl fun ad es hb hr hc => vs ?_; obtain ⟨u, rfl⟩ := sl_one hr; have hr0 := hr; obtain ⟨B, cb, rfl, _, _, _⟩ := sl_open hr; refine x_ld1 sc22 hc rfl (vs ?_); refine x_al1 H sc22 fun g2 w3 H => vs ?_; refine x_st H sc22 fun w4 H => vs ?_; refine x_ld H sc22 ?_
          by_cases hE : 1560 < (x.f_Seen[k].length : Int)
          · refine ve hE ?_
            exact ⟨by rw [hbad fun ⟨_, _, h, _⟩ => by omega], H.bel⟩
          · refine ve hE ?_
            refine x_ld H sc27 ?_; refine vs ?_; refine x_to sl27 rfl (H.rd h2') (by omega) fun v5 hv5 => vs ?_; have hcell := H.cell (g := g2) (cs := [.slice B x.f_Seen[k].length cb]) (t := 22) (.head _) 0; have hlt2 := H.lt (g := g2) (cs := [.slice B x.f_Seen[k].length cb]) (t := 22) (.head _); refine x_callb H (containsFuncB_ok w4 v5 (x.f_Seen.take k) (fun y => decide (y = x.f_Seen[k])) 58 #[] #[.pointer (some ⟨g2, 0, none⟩)] hv5 en58 fun w' u y hb hy => implReaderOk1_ok w' u g2 _ y _ hy (Kd.le _ (Kd.mono _ (H.rd hr0) hb) hb.size) ((hb.cell hlt2).trans hcell)) fun w5 H => ?_
            by_cases hS : ((x.f_Seen.take k).any fun y => decide (y = x.f_Seen[k])) = true
            · have hS' := hS
              generalize ((x.f_Seen.take k).any fun y => decide (y = x.f_Seen[k])) = sb at hS; subst hS; refine vs ?_; refine ⟨?_, H.bel⟩; rw [hbad fun ⟨_, _, _, _, h⟩ => ?_]; obtain ⟨y, hy, he⟩ := List.any_eq_true.1 hS'; obtain ⟨i, hi, rfl⟩ := List.getElem_of_mem hy; simp only [List.length_take] at hi; simp only [List.getElem_take, decide_eq_true_eq] at he; exact h i (by omega) he
            · have hS' : ((x.f_Seen.take k).any fun y => decide (y = x.f_Seen[k])) = false := (Bool.not_eq_true _).mp hS
              have hS2 := hS'; generalize ((x.f_Seen.take k).any fun y => decide (y = x.f_Seen[k])) = sb at hS'; subst hS'; refine vs ?_; refine x_ld H sc27 ?_; refine vs ?_; refine x_ele H sl27 rfl k (by omega) ha3 rfl fun ad2 es2 hb2 hr2 hc2' => vs ?_; obtain ⟨u2, rfl⟩ := sl_one hr2; obtain ⟨B2, cb2, rfl, _, _, _⟩ := sl_open hr2; refine x_ld1 sc22 hc2' rfl (vs ?_); refine ways ?_ ?_
              · refine vh fun hF => ?_
                exact ⟨by rw [hbad fun ⟨_, _, _, h, _⟩ => by omega], H.bel⟩
              · refine vh fun hF => ?_
                refine ⟨k + 1, i64_eq (by unfold w64; omega), ⟨hk2, fun i h => ?_, H.tail⟩, by omega⟩
                by_cases h2 : i = k
                · subst h2
                  refine ⟨hk2, by omega, by omega, by omega, fun q hq hqe => ?_⟩; rw [List.any_eq_false] at hS2; refine hS2 (x.f_Seen[q]'(by omega)) ?_ (by simpa using hqe); exact List.mem_take_iff_getElem.2 ⟨q, by omega, rfl⟩
                · exact hall i (by omega)
        · refine vh fun hlt => ?_
          exact ⟨by rw [readerOk_true ⟨hA'.1, hA'.2, by omega, hlg, fun i hi => hall i (by omega)⟩], H.bel⟩
      · refine vh fun hD => ?_
        exact ⟨by rw [readerOk_false fun h => by have := h.2.2.2.1; omega], H.bel⟩
  · have hA' : (decide (x.f_Seed.length = 32) && decide (0 ≤ x.f_Epoch ∧ x.f_Epoch ≤ 40)) = false := by simpa using hA
    refine ve hA' ?_; refine ⟨?_, H.bel⟩; rw [readerOk_false fun h => hA (by simp [h.1, h.2.1])]
theorem l16Lists_ok (w : World) (v : Value) (l : List (List UInt8)) (h : (Kd.slice 22 (bytes 5)).rd w w.heap.size [v] l) (hs : smByteSS l) :
    ACalls Tryz.prog 141 #[v] w fun r w' => ∃ fp, Sep w.heap.size w w' [Ck.own (Kd.slice 22 (bytes 5)) fp [r] l] := by
  have hlm := sl_len h; have hs0 := hs.1; obtain ⟨A, c, rfl, hc1, hc2, ha⟩ := sl_open h; refine body_of follows Tryz.func141 rfl rfl _ rfl (by kernel_rfl) (vs ?_); refine x_empO (d := bytes 5) (Sep.start w) sl27 fun g w1 H => vs ?_
  refine loop_at (σ := Nat × Value × List Nat) (fun x => [(0, .slice A l.length c), (3, x.2.1), (4, .int .i64 (x.1 : Int))])
    (fun x w' => x.1 ≤ l.length ∧ Sep w.heap.size w w' [Ck.own (Kd.slice 22 (bytes 5)) x.2.2 [x.2.1] (l.take x.1)]) (fun x => l.length - x.1) (0, _, _) (vs trivial) ⟨Nat.zero_le _, H⟩ ?_
  rintro ⟨k, v', fp⟩ s w2 ⟨hk, H⟩; dsimp only at hk H; refine vs (ways ?_ ?_)
  · refine vh fun hlt => ?_
    have hk2 : k < l.length := by omega
    have hsm := hs.2 l[k] (List.getElem_mem hk2); refine x_emp H pl_u8 sl22 fun g w1 H => vs ?_; refine x_ele H sl27 rfl k hk2 ha rfl fun ad es hb hr hc => vs ?_; obtain ⟨u, rfl⟩ := sl_one hr; refine x_ld1 sc22 hc rfl (vs ?_); refine x_app H pl_u8 sl22 (H.rd hr) ?_ ?_ fun f2 v2 w3 H => vs ?_
    · simp only [List.length_nil]; omega
    · simp only [List.length_nil]; omega
    refine x_lst1 sl27 H (cells_one (Kd.one _ (H.own (.head _)) _ (by simp))) rfl fun f3 v3 w4 H => vs ?_; refine x_appO sl27 H rfl ?_ ?_ fun f5 v5 w5 H => vs ?_
    · simp only [List.length_take, List.length_cons, List.length_nil]; omega
    · simp only [List.length_take, List.length_cons, List.length_nil]; omega
    refine ⟨(k + 1, v5, f5), ⟨rfl, i64_eq (by show w64 ((k : Int) + 1) = ((k + 1 : Nat) : Int); unfold w64; omega)⟩, ⟨hk2, ?_⟩, by show l.length - (k + 1) < l.length - k; omega⟩
    show Sep _ _ _ [Ck.own _ f5 [v5] (l.take (k + 1))]
    rw [List.take_succ_eq_append_getElem hk2]; exact H
  · refine vh fun hlt => ?_
    obtain rfl : k = l.length := by omega
    rw [List.take_length] at H; exact ⟨_, H⟩
theorem l16Copy_ok (w : World) (cs : List Value) (x : MReader) (h : kReader.rd w w.heap.size cs x) (hs : smReader x) :
    ACalls Tryz.prog 119 #[.agg cs.toArray] w fun r w' => ∃ cs' fp, r = .agg cs'.toArray ∧ Sep w.heap.size w w' [Ck.own kReader fp cs' x] := by
  unfold smReader at hs; obtain ⟨v0, v2, v3, rfl, h0, h1, h2, h3⟩ := kReader_open h; have H := Sep.start w; refine body_of follows Tryz.func119 rfl rfl _ rfl (by kernel_rfl) (vs ?_); refine x_bx H [v0, .int .i64 x.f_Epoch, v2, v3] fun g1 w1 H => vs ?_; have J := Sep.start w1; refine x_al J st29 fun g2 w2 J => vs ?_; refine draw_of [(1, true), (2, true), (4, true), (5, true), (6, true), (7, true), (9, true), (10, true), (0, false), (3, false), (8, false), (11, false), (12, true), (13, false)] w1.heap.size [] fun w3 hh hb3 => vs ?_; have J := J.go (hb3 _); have J3 := J; refine q_ldB H J3 sc22 ?_; refine vs ?_; refine q_ldB H J3 sc3 ?_; refine vs ?_; refine q_ldB H J3 sc27 ?_; refine vs ?_; refine q_ldB H J3 sc27 ?_; refine vs ?_; refine x_emp J pl_u8 sl22 fun g4 w4 J => vs ?_; refine ⟨kept_base J3 J, ?_⟩; refine x_app J pl_u8 sl22 (J.rd (H.rd h0)) ?_ ?_ fun f0 r0 w5 J => vs ?_
  · simp only [List.length_nil]; omega
  · simp only [List.length_nil]; omega
  refine ⟨kept_base J3 J, ?_⟩; refine x_callf J (l16Lists_ok w5 v2 _ (J.rd (H.rd h2)) hs.2.1) fun r2 f2 w6 J => vs ?_; refine ⟨kept_base J3 J, ?_⟩; refine x_callf J (l16Lists_ok w6 v3 _ (J.rd (H.rd h3)) hs.2.2) fun r3 f3 w7 J => vs ?_; refine ⟨kept_base J3 J, ?_⟩; obtain ⟨A0, c0, rfl, _⟩ := sl_open (J.own (.tail _ (.tail _ (.head _)))); obtain ⟨A2, c2, rfl, _⟩ := sl_open (J.own (.tail _ (.head _))); obtain ⟨A3, c3, rfl, _⟩ := sl_open (J.own (.head _)); refine q_bld bl29 [_, _, _, _] ?_; refine vs ?_; have J := (J.front (c := Ck.own (Kd.slice 22 (bytes 5)) f2 [.slice A2 x.f_Seen.length c2] x.f_Seen)).front (h := .there (.there .here)); obtain ⟨fp, J⟩ := ownReader x J h1; refine x_sta J st29 (h1 := Kd.one _ (J.own (.head _))) fun w7 J => vs ?_; refine ⟨kept_base J3 J, ?_⟩; have H := H.join J; simp only [List.cons_append, List.nil_append] at H; exact ⟨_, _, rfl, res_cell H st29, _, _, rfl, H.head⟩
def readerZ (a : List UInt8) : MReader := ⟨a, 0, [], []⟩
noncomputable def readerNew (a : List UInt8) : MReader := if readerOk (readerZ a) = true then readerZ a else zReader
theorem specReaderNew_ok (w : World) (v : Value) (a : List UInt8) (h : (bytes 5).rd w w.heap.size [v] a) (hl : a.length ≤ 1099511627776) :
    ACalls Tryz.prog 117 #[v] w fun r w' => ∃ cs fp, r = .tuple #[.agg cs.toArray, .bool (readerOk (readerZ a))] ∧ Sep w.heap.size w w' [Ck.own kReader fp cs (readerNew a)] := by
  have H := Sep.start w; refine body_of follows Tryz.func117 rfl rfl _ rfl (by kernel_rfl) (vs ?_); refine x_al H st29 fun g1 w1 H => vs ?_; refine x_emp H pl_u8 sl22 fun g2 w1 H => vs ?_; refine x_app H pl_u8 sl22 (H.rd h) ?_ ?_ fun f0 r0 w2 H => vs ?_
  · simp only [List.length_nil]; omega
  · simp only [List.length_nil]; omega
  obtain ⟨A0, c0, rfl, _⟩ := sl_open (H.own (.head _)); refine x_build bl29 [_, .int .i64 0, .slice none 0 0, .slice none 0 0] ?_; refine vs ?_; have H := ((H.nothing (d := Kd.slice 22 (bytes 5)) (sl_zero w2)).nothing (d := Kd.slice 22 (bytes 5)) (sl_zero w2)).front (h := .there (.there .here)); obtain ⟨fp, H⟩ := ownReader (readerZ a) H (by show (-9223372036854775808 : Int) ≤ 0 ∧ (0 : Int) < 9223372036854775808; decide); refine x_al H st29 fun g3 w3 H => vs ?_; refine x_sta H st29 (h1 := Kd.one _ (H.own (.tail _ (.head _)))) fun w4 H => vs ?_; refine x_lda H st29 ?_; refine vs ?_; refine x_callb H (specReaderOk_ok w4 _ _ (H.own (.tail _ (.head _)))) fun w5 H => ?_
  cases hok : readerOk (readerZ a) with
  | true =>
    refine vs ?_; refine x_lda H st29 ?_; refine vs ?_; refine x_sta H st29 (h1 := Kd.one _ (H.own (.tail _ (.head _)))) fun w6 H => vs ?_; have e : readerNew a = readerZ a := by unfold readerNew; rw [if_pos hok]
    rw [e]; exact ⟨_, _, rfl, res_cell H st29, _, _, rfl, H.only⟩
  | false =>
    refine vs ?_; refine x_build bl29 [.slice none 0 0, .int .i64 0, .slice none 0 0, .slice none 0 0] ?_; refine vs ?_; have H := H.nothing (kReader_zero w5); refine x_sta H st29 (h1 := Kd.one _ (H.own (.head _))) fun w6 H => vs ?_; have e : readerNew a = zReader := by unfold readerNew; rw [if_neg (by rw [hok]; decide)]
    rw [e]; exact ⟨_, _, rfl, res_cell H st29, _, _, rfl, H.head⟩
def nextE (x : MReader) : MReader := { x with f_Epoch := w64 (x.f_Epoch + 1) }
noncomputable def nextOk (x : MReader) : Bool := readerOk x && readerOk (nextE x)
noncomputable def nextX (x : MReader) : MReader := if nextOk x = true then nextE x else x
theorem readerOk_epoch {x : MReader} (h : readerOk x = true) : 0 ≤ x.f_Epoch ∧ x.f_Epoch ≤ 40 := by
  have h1 : readerP x := by
    by_cases hp : readerP x
    · exact hp
    · rw [readerOk_false hp] at h; cases h
  exact h1.2.1
theorem w64_range (n : Int) : -9223372036854775808 ≤ w64 n ∧ w64 n < 9223372036854775808 := by unfold w64; omega
theorem l1Min_ok (w : World) (a b : Int) : ACalls Tryz.prog 149 #[.int .i64 a, .int .i64 b] w fun r w' => r = .int .i64 (min a b) ∧ w' = w := by
  refine body_of follows Tryz.func149 rfl rfl _ rfl (by kernel_rfl) (vs (ways ?_ ?_))
  · refine vh fun h => ?_
    exact i64_eq (by omega)
  · refine vh fun h => ?_
    exact i64_eq (by omega)
theorem specNext_ok (w : World) (cs : List Value) (x : MReader) (h : kReader.rd w w.heap.size cs x) (hs : smReader x) :
    ACalls Tryz.prog 148 #[.agg cs.toArray] w fun r w' => ∃ cs' fp, r = .tuple #[.agg cs'.toArray, .bool (nextOk x)] ∧ Sep w.heap.size w w' [Ck.own kReader fp cs' (nextX x)] := by
  obtain ⟨v0, v2, v3, rfl, h0, h1, h2, h3⟩ := kReader_open h; obtain ⟨m, hm, hm0, hm1, hm2⟩ : ∃ m : Int, m = min x.f_Epoch 40 ∧ -9223372036854775808 ≤ m ∧ m ≤ 40 ∧ (x.f_Epoch ≤ 40 → m = x.f_Epoch) := ⟨_, rfl, by omega, by omega, by omega⟩; have H := Sep.start w; refine body_of follows Tryz.func148 rfl rfl _ rfl (by kernel_rfl) (vs ?_); refine x_bx H [v0, .int .i64 x.f_Epoch, v2, v3] fun g1 w1 H => vs ?_; refine x_al H st29 fun g2 w2 H => vs ?_; refine x_lda H st29 ?_; refine vs ?_; refine x_call (l16Copy_ok w2 _ _ (H.rd h) hs) fun _ w3 ⟨cs2, fp2, e, S⟩ => ?_; subst e; have H := H.join S; simp only [List.cons_append, List.nil_append] at H; have hone := Kd.one _ (H.own (.head _)); obtain ⟨u0, u2, u3, f0, f2, f3, rfl, r1, H⟩ := apartReader H; refine vs ?_; refine x_al H st29 fun g4 w3 H => vs ?_; refine x_sta H st29 (h1 := hone) fun w3 H => vs ?_; refine x_ld H sc3 ?_; refine vs ?_; refine x_callw (l1Min_ok w3 _ _) ?_; rw [← hm]; refine vs ?_; refine x_st H sc3 fun w4 H => vs ?_; have H := ((H.front (c := Ck.own (Kd.slice 22 (bytes 5)) f3 [u3] x.f_Got)).front (c := Ck.own (Kd.slice 22 (bytes 5)) f2 [u2] x.f_Seen)).front (c := Ck.own (bytes 5) f0 [u0] x.f_Seed); obtain ⟨fp3, H⟩ := ownReader ({ x with f_Epoch := w64 (m + 1) }) H (w64_range _); refine x_lda H st29 ?_; refine vs ?_; refine x_callb H (specReaderOk_ok w4 _ _ (H.rd h)) fun w5 H => ?_
  cases hok : readerOk x with
  | false =>
    refine vs ?_; refine x_lda H st29 ?_; refine vs ?_; refine x_call (l16Copy_ok w5 _ _ (H.rd h) hs) fun _ w6 ⟨cs6, fp6, e, S⟩ => ?_; subst e; have H := H.join S; simp only [List.cons_append, List.nil_append] at H; obtain ⟨t0, t2, t3, rfl, _⟩ := kReader_open (H.own (.head _)); refine vs ?_; refine x_sta H st29 (h1 := Kd.one _ (H.own (.head _))) fun w7 H => vs ?_; have e1 : nextOk x = false := by unfold nextOk; rw [hok]; rfl
    have e2 : nextX x = x := by unfold nextX; rw [if_neg (by rw [e1]; decide)]
    rw [e1, e2]; exact ⟨_, _, rfl, res_cell H st29, _, _, rfl, H.only⟩
  | true =>
    have hme := hm2 (readerOk_epoch hok).2
    clear hm
    subst hme; refine vs ?_; refine x_lda H st29 ?_; refine vs ?_; refine x_callb H (specReaderOk_ok w5 _ (nextE x) (H.own (.head _))) fun w6 H => ?_
    cases hok2 : readerOk (nextE x) with
    | false =>
      refine vs ?_; refine x_lda H st29 ?_; refine vs ?_; refine x_call (l16Copy_ok w6 _ _ (H.rd h) hs) fun _ w6 ⟨cs6, fp6, e, S⟩ => ?_; subst e; have H := H.join S; simp only [List.cons_append, List.nil_append] at H; obtain ⟨t0, t2, t3, rfl, _⟩ := kReader_open (H.own (.head _)); refine vs ?_; refine x_sta H st29 (h1 := Kd.one _ (H.own (.head _))) fun w7 H => vs ?_; have e1 : nextOk x = false := by unfold nextOk; rw [hok, hok2]; rfl
      have e2 : nextX x = x := by unfold nextX; rw [if_neg (by rw [e1]; decide)]
      rw [e1, e2]; exact ⟨_, _, rfl, res_cell H st29, _, _, rfl, H.only⟩
    | true =>
      refine vs ?_; refine x_lda H st29 ?_; refine vs ?_; refine x_sta H st29 (h1 := Kd.one _ (H.own (.head _))) fun w7 H => vs ?_; have e1 : nextOk x = true := by unfold nextOk; rw [hok, hok2]; rfl
      have e2 : nextX x = nextE x := by unfold nextX; rw [if_pos e1]
      rw [e1, e2]; exact ⟨_, _, rfl, res_cell H st29, _, _, rfl, H.only⟩
def noItem (x : MItem) : Bool := decide (x.f_Route = []) && decide (x.f_Topic = 0) && decide (x.f_Due = 0) && decide (x.f_Bytes.length = 0)
def wireOk (x : MWire) : Bool := if x.f_ToPost = true then itemOk x.f_Item && decide (x.f_Bytes.length = 0) else noItem x.f_Item && decide (x.f_Bytes.length ≤ 1560)
def sentOk (s : MSent) : Bool := decide (s.f_Note.length ≤ 200) && isRoute s.f_Route && decide (s.f_Bytes.length ≤ 1560) && decide (0 ≤ s.f_Epoch ∧ s.f_Epoch ≤ 40)
theorem wireOk_post {x : MWire} (h : x.f_ToPost = true) : wireOk x = (itemOk x.f_Item && decide (x.f_Bytes.length = 0)) := by unfold wireOk; rw [if_pos h]
theorem wireOk_read {x : MWire} (h : x.f_ToPost = false) : wireOk x = (noItem x.f_Item && decide (x.f_Bytes.length ≤ 1560)) := by unfold wireOk; rw [if_neg (by rw [h]; decide)]
theorem sentOk_iff {s : MSent} : sentOk s = true ↔ s.f_Note.length ≤ 200 ∧ isRoute s.f_Route = true ∧ s.f_Bytes.length ≤ 1560 ∧ (0 ≤ s.f_Epoch ∧ s.f_Epoch ≤ 40) := by
  unfold sentOk; simp only [Bool.and_eq_true, decide_eq_true_eq, and_assoc]
theorem sentOk_no {s : MSent} (h : ¬ (s.f_Note.length ≤ 200 ∧ isRoute s.f_Route = true ∧ s.f_Bytes.length ≤ 1560 ∧ (0 ≤ s.f_Epoch ∧ s.f_Epoch ≤ 40))) : sentOk s = false := by
  rw [Bool.eq_false_iff]; exact fun hs => h (sentOk_iff.1 hs)
noncomputable def worldOk (x : MWorld) : Bool := decide (x.f_Seed.length = 32) && decide (0 ≤ x.f_Count ∧ x.f_Count ≤ 12) && decide (0 ≤ x.f_Known ∧ x.f_Known ≤ 40) && postOk x.f_Post && readerOk x.f_Reader && decide (x.f_Net.length ≤ 12) && decide ((x.f_Sent.length : Int) = x.f_Count) && x.f_Net.all wireOk && x.f_Sent.all sentOk
theorem worldOk_iff {x : MWorld} : worldOk x = true ↔ x.f_Seed.length = 32 ∧ (0 ≤ x.f_Count ∧ x.f_Count ≤ 12) ∧ (0 ≤ x.f_Known ∧ x.f_Known ≤ 40) ∧ postOk x.f_Post = true ∧ readerOk x.f_Reader = true ∧ x.f_Net.length ≤ 12 ∧ (x.f_Sent.length : Int) = x.f_Count ∧ x.f_Net.all wireOk = true ∧ x.f_Sent.all sentOk = true := by
  unfold worldOk; simp only [Bool.and_eq_true, decide_eq_true_eq, and_assoc]
theorem worldOk_no {x : MWorld} (h : ¬ (x.f_Seed.length = 32 ∧ (0 ≤ x.f_Count ∧ x.f_Count ≤ 12) ∧ (0 ≤ x.f_Known ∧ x.f_Known ≤ 40) ∧ postOk x.f_Post = true ∧ readerOk x.f_Reader = true ∧ x.f_Net.length ≤ 12 ∧ (x.f_Sent.length : Int) = x.f_Count ∧ x.f_Net.all wireOk = true ∧ x.f_Sent.all sentOk = true)) : worldOk x = false := by
  rw [Bool.eq_false_iff]; exact fun hs => h (worldOk_iff.1 hs)
theorem any_not {α : Type} {l : List α} {p : α → Bool} : (l.any fun x => !p x) = !(l.all p) := by
  induction l with
  | nil => rfl
  | cons a l ih => simp only [List.any_cons, List.all_cons, ih, Bool.not_and]
def sentBy (b : List UInt8) (s : MSent) : Bool := decide (s.f_Bytes = b)
def sentAt (x : MWorld) (b : List UInt8) : Option Nat := x.f_Sent.findIdx? (sentBy b)
theorem sentAt_some {x : MWorld} {b : List UInt8} {i : Nat} (hi : i < x.f_Sent.length) (h : sentBy b x.f_Sent[i] = true) (hn : ∀ j (hj : j < x.f_Sent.length), j < i → sentBy b x.f_Sent[j] = false) : sentAt x b = some i := by
  unfold sentAt; rw [List.findIdx?_eq_some_iff_getElem]; exact ⟨hi, h, fun j hj => by simpa using hn j (by omega) hj⟩
theorem sentAt_none {x : MWorld} {b : List UInt8} (hn : ∀ j (hj : j < x.f_Sent.length), sentBy b x.f_Sent[j] = false) : sentAt x b = none := by
  unfold sentAt; rw [List.findIdx?_eq_none_iff]; intro y hy; obtain ⟨j, hj, rfl⟩ := List.getElem_of_mem hy
  simpa using hn j hj
theorem sentAt_lt {x : MWorld} {b : List UInt8} {i : Nat} (h : sentAt x b = some i) : i < x.f_Sent.length := by
  unfold sentAt at h; exact (List.findIdx?_eq_some_iff_getElem.1 h).1
def atI : Option Nat → Int
  | some i => (i : Int)
  | none => -1
def listAt {α : Type} (l : List (List α)) (i : Nat) : List α := l.getD i []
theorem listAt_eq {α : Type} {l : List (List α)} {i : Nat} (h : i < l.length) : listAt l i = l[i] := by unfold listAt; rw [List.getD_eq_getElem?_getD, List.getElem?_eq_getElem h, Option.getD_some]
def noteAt (x : MWorld) (i : Nat) : List UInt8 := (x.f_Sent.getD i zSent).f_Note
theorem noteAt_eq {x : MWorld} {i : Nat} (h : i < x.f_Sent.length) : noteAt x i = x.f_Sent[i].f_Note := by unfold noteAt; rw [List.getD_eq_getElem?_getD, List.getElem?_eq_getElem h, Option.getD_some]
def routeAt (x : MWorld) (i : Nat) : List UInt8 := (x.f_Sent.getD i zSent).f_Route
theorem routeAt_eq {x : MWorld} {i : Nat} (h : i < x.f_Sent.length) : routeAt x i = x.f_Sent[i].f_Route := by unfold routeAt; rw [List.getD_eq_getElem?_getD, List.getElem?_eq_getElem h, Option.getD_some]
def readAt (x : MWorld) (i : Nat) : Bool :=
  match sentAt x (listAt x.f_Reader.f_Seen i) with
  | some k => decide (noteAt x k = listAt x.f_Reader.f_Got i)
  | none => false
noncomputable def judgeRead (x : MWorld) : Bool := worldOk x && (List.range x.f_Reader.f_Seen.length).all (readAt x)
noncomputable def judgeOnce (x : MWorld) : Bool := worldOk x && decide (x.f_Reader.f_Got.length ≤ x.f_Sent.length)
theorem judgeRead_no {x : MWorld} (h : worldOk x = false) : judgeRead x = false := by unfold judgeRead; rw [h]; rfl
theorem judgeRead_bad {x : MWorld} {i : Nat} (hi : i < x.f_Reader.f_Seen.length) (h : readAt x i = false) : judgeRead x = false := by
  rw [Bool.eq_false_iff]; intro hj; unfold judgeRead at hj; simp only [Bool.and_eq_true, List.all_eq_true, List.mem_range] at hj; rw [hj.2 i hi] at h; cases h
theorem judgeRead_good {x : MWorld} (hw : worldOk x = true) (h : ∀ i, i < x.f_Reader.f_Seen.length → readAt x i = true) : judgeRead x = true := by
  unfold judgeRead; rw [hw, Bool.true_and, List.all_eq_true]; exact fun i hi => h i (List.mem_range.1 hi)
def padLen (n : Nat) : Nat := if n + 2 > 96 then (n + 2) + (96 - (n + 2) % 96) % 96 else (n + 2) + (32 - (n + 2) % 32) % 32
def blind (x : MWorld) (y : MItem) : Bool :=
  match sentAt x y.f_Bytes with
  | some k => decide (routeAt x k = y.f_Route) && decide (y.f_Bytes.length = 51 + padLen (noteAt x k).length)
  | none => false
def wireBlind (x : MWorld) (y : MWire) : Bool := if y.f_ToPost = true then blind x y.f_Item else (sentAt x y.f_Bytes).isSome
noncomputable def judgeBlind (x : MWorld) : Bool := worldOk x && x.f_Post.f_Queue.all (blind x) && x.f_Net.all (wireBlind x)
noncomputable def judgeAll (x : MWorld) : Bool := judgeRead x && judgeOnce x && judgeBlind x
theorem judgeBlind_no {x : MWorld} (h : worldOk x = false) : judgeBlind x = false := by unfold judgeBlind; rw [h]; rfl
theorem judgeBlind_q {x : MWorld} {i : Nat} (hi : i < x.f_Post.f_Queue.length) (h : blind x x.f_Post.f_Queue[i] = false) : judgeBlind x = false := by
  rw [Bool.eq_false_iff]; intro hj; unfold judgeBlind at hj; simp only [Bool.and_eq_true, List.all_eq_true] at hj; rw [hj.1.2 _ (List.getElem_mem hi)] at h; cases h
theorem judgeBlind_n {x : MWorld} {i : Nat} (hi : i < x.f_Net.length) (h : wireBlind x x.f_Net[i] = false) : judgeBlind x = false := by
  rw [Bool.eq_false_iff]; intro hj; unfold judgeBlind at hj; simp only [Bool.and_eq_true, List.all_eq_true] at hj; rw [hj.2 _ (List.getElem_mem hi)] at h; cases h
theorem judgeBlind_good {x : MWorld} (hw : worldOk x = true) (hq : ∀ i (h : i < x.f_Post.f_Queue.length), blind x x.f_Post.f_Queue[i] = true) (hn : ∀ i (h : i < x.f_Net.length), wireBlind x x.f_Net[i] = true) : judgeBlind x = true := by
  unfold judgeBlind; simp only [Bool.and_eq_true, List.all_eq_true]; refine ⟨⟨hw, fun y hy => ?_⟩, fun y hy => ?_⟩
  · obtain ⟨i, hi, rfl⟩ := List.getElem_of_mem hy
    exact hq i hi
  · obtain ⟨i, hi, rfl⟩ := List.getElem_of_mem hy
    exact hn i hi
abbrev wires : Kd (List MWire) := Kd.slice 50 kWire
abbrev sents : Kd (List MSent) := Kd.slice 42 kSent
theorem indexFuncW_ok (w : World) (v : Value) (l : List MWire) (p : MWire → Bool) (f : FuncId) (fs cs : Array Value) (h : wires.rd w w.heap.size [v] l) (hf : entersB Tryz.prog f = true)
    (hc : ∀ w' es x, Below w.heap.size w w' → x ∈ l → kWire.rd w' w'.heap.size es x → ACalls Tryz.prog f (fs ++ #[.agg es.toArray] ++ cs) w' fun r w'' => r = .bool (p x) ∧ Below w'.heap.size w' w'') :
    ACalls Tryz.prog 46 #[v, .func (.func f) fs cs] w fun r w' => ((∃ k : Nat, ∃ hk : k < l.length, r = .int .i64 k ∧ p l[k] = true ∧ ∀ i (hi : i < l.length), i < k → p l[i] = false) ∨ (r = .int .i64 (-1) ∧ ∀ i (hi : i < l.length), p l[i] = false)) ∧ Below w.heap.size w w' := by
  have hlm := sl_len h; obtain ⟨A, c, rfl, hc1, hc2, ha⟩ := sl_open h; refine body_of follows Tryz.func46 rfl rfl _ rfl (by kernel_rfl) (vs ?_)
  refine loop_at (σ := Nat) (fun k => [(0, .slice A l.length c), (1, .func (.func f) fs cs), (7, .int .i64 (l.length : Int)), (8, .int .i64 (k : Int))])
    (fun k w' => k ≤ l.length ∧ (∀ i (hi : i < l.length), i < k → p l[i] = false) ∧ Sep w.heap.size w w' []) (fun k => l.length - k) 0 (vs trivial) ⟨Nat.zero_le _, fun i hi h => absurd h (Nat.not_lt_zero i), Sep.start w⟩ ?_
  rintro k s w2 ⟨hk, hall, H⟩; refine vs (ways ?_ ?_)
  · refine vh fun hlt => ?_
    have hk2 : k < l.length := by omega
    refine x_elg sl30 rfl (ha.mono H.bel) (by omega) hlt fun ad es hb hr hc' => vs ?_; have hr : kWire.rd w2 w.heap.size es l[k] := hr; refine x_lds st50 hc' (Kd.len _ hr) (vs ?_); refine x_callv hf (hc w2 es _ H.bel (List.getElem_mem hk2) (Kd.le _ hr H.ns)) fun _ w3 ⟨e3, hb3⟩ => ?_; subst e3; have H := H.go hb3; refine vs (ways ?_ ?_)
    · refine vh fun hp => ?_
      exact ⟨.inl ⟨k, hk2, rfl, hp, hall⟩, H.bel⟩
    · refine vh fun hp => ?_
      refine ⟨k + 1, i64_eq (by unfold w64; omega), ⟨hk2, fun i hi h => ?_, H⟩, by omega⟩
      by_cases h2 : i = k
      · subst h2; simpa using hp
      · exact hall i hi (by omega)
  · refine vh fun hlt => ?_
    exact ⟨.inr fun i hi => hall i hi (by omega), H.bel⟩
theorem containsFuncW_ok (w : World) (v : Value) (l : List MWire) (p : MWire → Bool) (f : FuncId) (fs cs : Array Value) (h : wires.rd w w.heap.size [v] l) (hf : entersB Tryz.prog f = true)
    (hc : ∀ w' es x, Below w.heap.size w w' → x ∈ l → kWire.rd w' w'.heap.size es x → ACalls Tryz.prog f (fs ++ #[.agg es.toArray] ++ cs) w' fun r w'' => r = .bool (p x) ∧ Below w'.heap.size w' w'') :
    ACalls Tryz.prog 21 #[v, .func (.func f) fs cs] w fun r w' => r = .bool (l.any p) ∧ Below w.heap.size w w' := by
  refine body_of follows Tryz.func21 rfl rfl _ rfl (by kernel_rfl) (vs ?_); refine x_call (indexFuncW_ok w v l p f fs cs h hf hc) fun _ w2 ⟨hr, hb⟩ => ?_
  rcases hr with ⟨k, hk, rfl, hp, _⟩ | ⟨rfl, hno⟩
  · refine vs ?_
    have e : l.any p = true := List.any_eq_true.2 ⟨l[k], List.getElem_mem hk, hp⟩; rw [e]; exact ⟨by simp, hb⟩
  · refine vs ?_
    have e : l.any p = false := by
      rw [Bool.eq_false_iff]; intro ha; obtain ⟨y, hy, hp⟩ := List.any_eq_true.1 ha; obtain ⟨i, hi, rfl⟩ := List.getElem_of_mem hy; rw [hno i hi] at hp; cases hp
    rw [e]; exact ⟨by simp, hb⟩
theorem indexFuncS_ok (w : World) (v : Value) (l : List MSent) (p : MSent → Bool) (f : FuncId) (fs cs : Array Value) (h : sents.rd w w.heap.size [v] l) (hf : entersB Tryz.prog f = true)
    (hc : ∀ w' es x, Below w.heap.size w w' → x ∈ l → kSent.rd w' w'.heap.size es x → ACalls Tryz.prog f (fs ++ #[.agg es.toArray] ++ cs) w' fun r w'' => r = .bool (p x) ∧ Below w'.heap.size w' w'') :
    ACalls Tryz.prog 41 #[v, .func (.func f) fs cs] w fun r w' => ((∃ k : Nat, ∃ hk : k < l.length, r = .int .i64 k ∧ p l[k] = true ∧ ∀ i (hi : i < l.length), i < k → p l[i] = false) ∨ (r = .int .i64 (-1) ∧ ∀ i (hi : i < l.length), p l[i] = false)) ∧ Below w.heap.size w w' := by
  have hlm := sl_len h; obtain ⟨A, c, rfl, hc1, hc2, ha⟩ := sl_open h; refine body_of follows Tryz.func41 rfl rfl _ rfl (by kernel_rfl) (vs ?_)
  refine loop_at (σ := Nat) (fun k => [(0, .slice A l.length c), (1, .func (.func f) fs cs), (7, .int .i64 (l.length : Int)), (8, .int .i64 (k : Int))])
    (fun k w' => k ≤ l.length ∧ (∀ i (hi : i < l.length), i < k → p l[i] = false) ∧ Sep w.heap.size w w' []) (fun k => l.length - k) 0 (vs trivial) ⟨Nat.zero_le _, fun i hi h => absurd h (Nat.not_lt_zero i), Sep.start w⟩ ?_
  rintro k s w2 ⟨hk, hall, H⟩; refine vs (ways ?_ ?_)
  · refine vh fun hlt => ?_
    have hk2 : k < l.length := by omega
    refine x_elg sl31 rfl (ha.mono H.bel) (by omega) hlt fun ad es hb hr hc' => vs ?_; have hr : kSent.rd w2 w.heap.size es l[k] := hr; refine x_lds st42 hc' (Kd.len _ hr) (vs ?_); refine x_callv hf (hc w2 es _ H.bel (List.getElem_mem hk2) (Kd.le _ hr H.ns)) fun _ w3 ⟨e3, hb3⟩ => ?_; subst e3; have H := H.go hb3; refine vs (ways ?_ ?_)
    · refine vh fun hp => ?_
      exact ⟨.inl ⟨k, hk2, rfl, hp, hall⟩, H.bel⟩
    · refine vh fun hp => ?_
      refine ⟨k + 1, i64_eq (by unfold w64; omega), ⟨hk2, fun i hi h => ?_, H⟩, by omega⟩
      by_cases h2 : i = k
      · subst h2; simpa using hp
      · exact hall i hi (by omega)
  · refine vh fun hlt => ?_
    exact ⟨.inr fun i hi => hall i hi (by omega), H.bel⟩
theorem containsFuncS_ok (w : World) (v : Value) (l : List MSent) (p : MSent → Bool) (f : FuncId) (fs cs : Array Value) (h : sents.rd w w.heap.size [v] l) (hf : entersB Tryz.prog f = true)
    (hc : ∀ w' es x, Below w.heap.size w w' → x ∈ l → kSent.rd w' w'.heap.size es x → ACalls Tryz.prog f (fs ++ #[.agg es.toArray] ++ cs) w' fun r w'' => r = .bool (p x) ∧ Below w'.heap.size w' w'') :
    ACalls Tryz.prog 32 #[v, .func (.func f) fs cs] w fun r w' => r = .bool (l.any p) ∧ Below w.heap.size w w' := by
  refine body_of follows Tryz.func32 rfl rfl _ rfl (by kernel_rfl) (vs ?_); refine x_call (indexFuncS_ok w v l p f fs cs h hf hc) fun _ w2 ⟨hr, hb⟩ => ?_
  rcases hr with ⟨k, hk, rfl, hp, _⟩ | ⟨rfl, hno⟩
  · refine vs ?_
    have e : l.any p = true := List.any_eq_true.2 ⟨l[k], List.getElem_mem hk, hp⟩; rw [e]; exact ⟨by simp, hb⟩
  · refine vs ?_
    have e : l.any p = false := by
      rw [Bool.eq_false_iff]; intro ha; obtain ⟨y, hy, hp⟩ := List.any_eq_true.1 ha; obtain ⟨i, hi, rfl⟩ := List.getElem_of_mem hy; rw [hno i hi] at hp; cases hp
    rw [e]; exact ⟨by simp, hb⟩
abbrev wC (c k : Int) (p : MPost) (r : MReader) (v0 p0 p2 q0 q2 q3 n s : Value) : List Value := [v0, .int .i64 c, .int .i64 k, p0, .int .i64 p.f_Time, p2, .int .i64 p.f_Sure, q0, .int .i64 r.f_Epoch, q2, q3, n, s]
abbrev wX (x : MWorld) : Value → Value → Value → Value → Value → Value → Value → Value → List Value := wC x.f_Count x.f_Known x.f_Post x.f_Reader
abbrev wB (g : Nat) (cs : List Value) : Ck := Ck.box g cs 33
abbrev pC (p : MPost) (a b : Value) : List Value := [a, .int .i64 p.f_Time, b, .int .i64 p.f_Sure]
abbrev rC (r : MReader) (a b c : Value) : List Value := [a, .int .i64 r.f_Epoch, b, c]
abbrev iC (x : MItem) (v : Value) : List Value := [.string ⟨(x.f_Route).toArray⟩, .int .i64 x.f_Topic, .int .i64 x.f_Due, v]
abbrev tC (x : MWire) (v u : Value) : List Value := [.bool x.f_ToPost, .string ⟨(x.f_Item.f_Route).toArray⟩, .int .i64 x.f_Item.f_Topic, .int .i64 x.f_Item.f_Due, v, u]
abbrev dC (k a b : Int) (v : Value) : List Value := [.int .i64 k, .int .i64 a, .int .i64 b, v]
abbrev oB (f : List Nat) (v : Value) (l : List UInt8) : Ck := Ck.own (bytes 5) f [v] l
abbrev oP (f : List Nat) (p : MPost) (a b : Value) : Ck := Ck.own kPost f (pC p a b) p
abbrev oR (f : List Nat) (r : MReader) (a b c : Value) : Ck := Ck.own kReader f (rC r a b c) r
abbrev oI (f : List Nat) (x : MItem) (v : Value) : Ck := Ck.own kItem f (iC x v) x
abbrev oN (f : List Nat) (v : Value) (l : List MWire) : Ck := Ck.own wires f [v] l
abbrev oS (f : List Nat) (v : Value) (l : List MSent) : Ck := Ck.own sents f [v] l
abbrev zW : List Value := [.slice none 0 0, .int .i64 0, .int .i64 0, .slice none 0 0, .int .i64 0, .slice none 0 0, .int .i64 0, .slice none 0 0, .int .i64 0, .slice none 0 0, .slice none 0 0, .slice none 0 0, .slice none 0 0]
end Go.Proofs.YtcmckbgiiclomacGreat.V
