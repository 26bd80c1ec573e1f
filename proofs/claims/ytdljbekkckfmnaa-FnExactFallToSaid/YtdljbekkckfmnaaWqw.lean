/- Posts that fall: both sides. Laid by a program. -/
import Derived.Test.YtdljbekkckfmnaaWqs
namespace Go.Proofs.Ytdljbekkckfmnaa.V
open Go Go.RowKit
set_option maxRecDepth 100000
set_option maxHeartbeats 4000000
set_option linter.unusedSimpArgs false
set_option linter.unusedVariables false
set_option pp.deepTerms false
set_option pp.deepTerms.threshold 3

section
variable {P : Program} {w : World} {K : Value → World → Prop} {tg : Tg K}
theorem x_minB {ts : Array TypeId} {ty : TypeId} {a b : Int} (h : K (.int .i64 (min a b)) w) : Builtin' P K tg .min ts ty [.int .i64 a, .int .i64 b] w := by
  show vS P (Builtin.min_ ts ty #[.int .i64 a, .int .i64 b]) w K
  refine vS_run (v := .int .i64 (min a b)) ?_ h
  by_cases hab : b < a
  · have : ¬ (a ≤ b) := by omega
    simp [Builtin.min_, Builtin.min2, Int.min_def, hab, this]
  · have : a ≤ b := by omega
    simp [Builtin.min_, Builtin.min2, Int.min_def, hab, this]
theorem x_maxB {ts : Array TypeId} {ty : TypeId} {a b : Int} (h : K (.int .i64 (max a b)) w) : Builtin' P K tg .max ts ty [.int .i64 a, .int .i64 b] w := by
  show vS P (Builtin.max_ ts ty #[.int .i64 a, .int .i64 b]) w K
  refine vS_run (v := .int .i64 (max a b)) ?_ h
  by_cases hab : a < b
  · have : a ≤ b := by omega
    simp [Builtin.max_, Builtin.max2, Int.max_def, hab, this]
  · by_cases he : a = b
    · subst he; simp [Builtin.max_, Builtin.max2, Int.max_def]
    · have : ¬ (a ≤ b) := by omega
      simp [Builtin.max_, Builtin.max2, Int.max_def, hab, this]
end
/-- How much of a book is left. -/
def kkB (s L keep : Int) : Nat := (s + max 0 (min keep (L - s))).toNat
theorem kkB_le {s : Int} {n : Nat} {keep : Int} (h : 0 ≤ s ∧ s ≤ (n : Int)) : kkB s (n : Int) keep ≤ n := by unfold kkB; omega
theorem fall_d {s L : Int} (h : 0 ≤ s ∧ s ≤ L) (hL : L ≤ 12000) : w64 (L - s) = L - s := by unfold w64; omega
theorem fall_1 {s L keep : Int} (h : 0 ≤ s ∧ s ≤ L) (hL : L ≤ 12000) : w64 (s + max 0 (min keep (L - s))) = (kkB s L keep : Int) := by unfold w64 kkB; omega
theorem fall_2 {s L keep : Int} (h : 0 ≤ s ∧ s ≤ L) (hL : L ≤ 12000) : w64 (s + min (max keep 0) (L - s)) = (kkB s L keep : Int) := by unfold w64 kkB; omega
theorem fall_bad {p : MPost} {keep : Int} (h : postOk p = false) : fallP p keep = p := by unfold fallP; rw [if_neg (by rw [h]; decide)]
theorem fall_ok {p : MPost} {keep : Int} (h : postOk p = true) : fallP p keep = ⟨(play (p.f_Book.take (kkB p.f_Sure p.f_Book.length keep))).1, (play (p.f_Book.take (kkB p.f_Sure p.f_Book.length keep))).2.1, (p.f_Book.take (kkB p.f_Sure p.f_Book.length keep)).take (play (p.f_Book.take (kkB p.f_Sure p.f_Book.length keep))).2.2, ((play (p.f_Book.take (kkB p.f_Sure p.f_Book.length keep))).2.2 : Int)⟩ := by unfold fallP; rw [if_pos h]; rfl
theorem playGo_fits (m : Nat) : ∀ (x : List UInt8) (q : List MItem) (now : Int) (k : Nat), x.length ≤ m → QI q → (0 ≤ now ∧ now ≤ 100000) →
    QI (playGo x q now k).1 ∧ (0 ≤ (playGo x q now k).2.1 ∧ (playGo x q now k).2.1 ≤ 100000) ∧ (playGo x q now k).2.2 ≤ k + x.length := by
  induction m with
  | zero =>
    intro x q now k hx hq hn
    have e : lineAt x = none := by
      cases h : lineAt x with
      | none => rfl
      | some y => obtain ⟨l, n⟩ := y; have := lineAt_len h; omega
    rw [playGo_none e]
    exact ⟨hq, hn, Nat.le_add_right _ _⟩
  | succ m ih =>
    intro x q now k hx hq hn
    cases h : lineAt x with
    | none => rw [playGo_none h]; exact ⟨hq, hn, Nat.le_add_right _ _⟩
    | some y =>
      obtain ⟨l, n⟩ := y
      obtain ⟨h18, hnl, hok, _⟩ := lineAt_len h
      rw [playGo_some h]
      have := ih (x.drop n) (lineStep q now l).1 (lineStep q now l).2 (k + n) (by rw [List.length_drop]; omega) (QI_step hq) (now_step hok hn)
      refine ⟨this.1, this.2.1, ?_⟩
      have h3 := this.2.2
      rw [List.length_drop] at h3; omega
theorem play_fits (x : List UInt8) : QI (play x).1 ∧ (0 ≤ (play x).2.1 ∧ (play x).2.1 ≤ 100000) ∧ (play x).2.2 ≤ x.length := by
  have := playGo_fits x.length x [] 0 0 (Nat.le_refl _) QI_nil (by decide)
  unfold play; simpa using this
theorem fallP_sm {p : MPost} {keep : Int} (hs : smPost p) : smPost (fallP p keep) := by
  cases h : postOk p with
  | false => rw [fall_bad h]; exact hs
  | true =>
    rw [fall_ok h]
    refine ⟨(play_fits _).1.sm, ?_⟩
    have := (postOk_iff.1 h).1.2.2.1
    show ((p.f_Book.take _).take _).length ≤ 1048576
    rw [List.length_take, List.length_take]; omega
theorem implFallTo_ok (w : World) (cs : List Value) (p : MPost) (keep : Int) (h : kPost.rd w w.heap.size cs p) (hs : smPost p) :
    ACalls Try.prog 25 #[.agg cs.toArray, .int .i64 keep] w fun r w' => ∃ cs' fp, r = .agg cs'.toArray ∧ Sep w.heap.size w w' [Ck.own kPost fp cs' (fallP p keep)] := by
  have hs' := hs
  unfold smPost at hs'
  have h9 := h
  obtain ⟨v0, v2, rfl, h0, h1, h2, h3⟩ := kPost_open h
  obtain ⟨A2, c2, rfl, _⟩ := sl_open h2
  have H := Sep.start w
  refine body_of follows Try.func25 rfl rfl _ rfl (by kernel_rfl) (vs ?_)
  refine x_bx H [v0, .int .i64 p.f_Time, .slice A2 p.f_Book.length c2, .int .i64 p.f_Sure] fun g1 w1 H => vs ?_
  refine x_al H st37 fun g2 w2 H => vs ?_
  refine x_lda H st37 ?_
  refine vs ?_
  refine x_callb H (implPostOk_ok _ _ p (H.rd h9) hs) fun w6 H => ?_
  cases hok : postOk p with
  | false =>
    refine vs ?_
    refine x_lda H st37 ?_
    refine vs ?_
    refine x_call (clonePost_ok _ _ p (H.rd h9) hs) fun _ w3 R => ?_
    unfold PostR at R
    obtain ⟨pa0, pf0, pa2, pf2, rfl, S⟩ := R
    have H := H.join S
    simp only [List.cons_append, List.nil_append] at H
    have po0 := one1 (fp := pf0) (x := p.f_Queue) H (.head _)
    obtain ⟨pB, pd, rfl, _⟩ := sl_open (H.own (fp := pf2) (x := p.f_Book) (.tail _ (.head _)))
    refine vs ?_
    refine x_sta H st37 (vs := [pa0, .int .i64 p.f_Time, .slice pB p.f_Book.length pd, .int .i64 p.f_Sure]) (h1 := one4 po0 rfl) fun wz H => vs ?_
    have H := H.front (c := Ck.own (bytes 5) pf2 [.slice pB p.f_Book.length pd] p.f_Book)
    have H := H.front (c := Ck.own items pf0 [pa0] p.f_Queue)
    obtain ⟨fz, H⟩ := ownPost p H h1 h3
    rw [fall_bad hok]
    exact ⟨_, _, rfl, res_cell H st37, _, _, rfl, H.head⟩
  | true =>
    have hS := (postOk_iff.1 hok).1.2.2.2
    have hL := (postOk_iff.1 hok).1.2.2.1
    have hkk : (kkB p.f_Sure p.f_Book.length keep) ≤ p.f_Book.length := kkB_le hS
    obtain ⟨pq, pn, pm⟩ := play_fits (p.f_Book.take (kkB p.f_Sure p.f_Book.length keep))
    have hpl : (p.f_Book.take (kkB p.f_Sure p.f_Book.length keep)).length ≤ 12000 := by rw [List.length_take]; omega
    refine vs ?_
    refine x_ld H sc22 ?_
    refine vs ?_
    refine x_ld H sc3 ?_
    refine vs ?_
    refine x_ld H sc22 ?_
    refine vs ?_
    refine x_ld H sc3 ?_
    refine ve (fall_d hS (by omega)) ?_
    refine x_minB ?_
    refine vs ?_
    refine x_maxB ?_
    refine ve (fall_1 (keep := keep) hS (by omega)) ?_
    refine x_toN sl22 rfl (kkB p.f_Sure p.f_Book.length keep) h2 rfl hkk fun v4 hv4 => vs ?_
    refine x_call (implPlay_ok _ v4 _ (H.rd hv4) (by omega)) fun _ w7 ⟨vq, fq, e, S⟩ => ?_
    subst e
    have H := H.join S
    simp only [List.cons_append, List.nil_append] at H
    refine vs ?_
    refine x_toN sl22 rfl (play (p.f_Book.take (kkB p.f_Sure p.f_Book.length keep))).2.2 hv4 rfl pm fun v8 hv8 => vs ?_
    refine x_callf H (cloneBy_ok _ v8 _ (H.rd hv8) (by rw [List.length_take]; omega)) fun r9 f9 w9 H => vs ?_
    obtain ⟨Aq, cq, rfl, _⟩ := sl_open (H.own (fp := fq) (x := (play (p.f_Book.take (kkB p.f_Sure p.f_Book.length keep))).1) (by repeat (first | exact List.mem_cons_self | apply List.mem_cons_of_mem)))
    obtain ⟨Ab, cb, rfl, _⟩ := sl_open (H.own (fp := f9) (x := (p.f_Book.take (kkB p.f_Sure p.f_Book.length keep)).take (play (p.f_Book.take (kkB p.f_Sure p.f_Book.length keep))).2.2) (by repeat (first | exact List.mem_cons_self | apply List.mem_cons_of_mem)))
    refine x_build bl37 [.slice Aq (play (p.f_Book.take (kkB p.f_Sure p.f_Book.length keep))).1.length cq, .int .i64 (play (p.f_Book.take (kkB p.f_Sure p.f_Book.length keep))).2.1, .slice Ab ((p.f_Book.take (kkB p.f_Sure p.f_Book.length keep)).take (play (p.f_Book.take (kkB p.f_Sure p.f_Book.length keep))).2.2).length cb, .int .i64 ((play (p.f_Book.take (kkB p.f_Sure p.f_Book.length keep))).2.2 : Int)] ?_
    refine vs ?_
    refine x_sta H st37 (vs := [.slice Aq (play (p.f_Book.take (kkB p.f_Sure p.f_Book.length keep))).1.length cq, .int .i64 (play (p.f_Book.take (kkB p.f_Sure p.f_Book.length keep))).2.1, .slice Ab ((p.f_Book.take (kkB p.f_Sure p.f_Book.length keep)).take (play (p.f_Book.take (kkB p.f_Sure p.f_Book.length keep))).2.2).length cb, .int .i64 ((play (p.f_Book.take (kkB p.f_Sure p.f_Book.length keep))).2.2 : Int)]) (h1 := one4 rfl rfl) fun wz H => vs ?_
    have H := H.front (c := Ck.own (bytes 5) f9 [.slice Ab ((p.f_Book.take (kkB p.f_Sure p.f_Book.length keep)).take (play (p.f_Book.take (kkB p.f_Sure p.f_Book.length keep))).2.2).length cb] ((p.f_Book.take (kkB p.f_Sure p.f_Book.length keep)).take (play (p.f_Book.take (kkB p.f_Sure p.f_Book.length keep))).2.2))
    have H := H.front (c := Ck.own items fq [.slice Aq (play (p.f_Book.take (kkB p.f_Sure p.f_Book.length keep))).1.length cq] (play (p.f_Book.take (kkB p.f_Sure p.f_Book.length keep))).1)
    obtain ⟨fz, H⟩ := ownPost (⟨(play (p.f_Book.take (kkB p.f_Sure p.f_Book.length keep))).1, (play (p.f_Book.take (kkB p.f_Sure p.f_Book.length keep))).2.1, (p.f_Book.take (kkB p.f_Sure p.f_Book.length keep)).take (play (p.f_Book.take (kkB p.f_Sure p.f_Book.length keep))).2.2, ((play (p.f_Book.take (kkB p.f_Sure p.f_Book.length keep))).2.2 : Int)⟩ : MPost) H (by dsimp only; omega) (by dsimp only; omega)
    rw [fall_ok hok]
    exact ⟨_, _, rfl, res_cell H st37, _, _, rfl, H.head⟩
theorem l1MaxB_ok (w : World) (a b : Int) : ACalls Try.prog 53 #[.int .i64 a, .int .i64 b] w fun r w' => r = .int .i64 (max a b) ∧ w' = w := by
  refine body_of follows Try.func53 rfl rfl _ rfl (by kernel_rfl) (vs ?_)
  by_cases q : b < a
  · refine ve q ?_
    congr 1; omega
  · refine ve q ?_
    congr 1; omega
theorem l1MinB_ok (w : World) (a b : Int) : ACalls Try.prog 52 #[.int .i64 a, .int .i64 b] w fun r w' => r = .int .i64 (min a b) ∧ w' = w := by
  refine body_of follows Try.func52 rfl rfl _ rfl (by kernel_rfl) (vs (ways ?_ ?_))
  · refine vh fun h => ?_
    exact i64_eq (by omega)
  · refine vh fun h => ?_
    exact i64_eq (by omega)

theorem specFallTo_ok (w : World) (cs : List Value) (p : MPost) (keep : Int) (h : kPost.rd w w.heap.size cs p) (hs : smPost p) :
    ACalls Try.prog 24 #[.agg cs.toArray, .int .i64 keep] w fun r w' => ∃ cs' fp, r = .agg cs'.toArray ∧ Sep w.heap.size w w' [Ck.own kPost fp cs' (fallP p keep)] := by
  have hs' := hs
  unfold smPost at hs'
  have h9 := h
  obtain ⟨v0, v2, rfl, h0, h1, h2, h3⟩ := kPost_open h
  obtain ⟨A2, c2, rfl, _⟩ := sl_open h2
  have H := Sep.start w
  refine body_of follows Try.func24 rfl rfl _ rfl (by kernel_rfl) (vs ?_)
  refine x_bx H [v0, .int .i64 p.f_Time, .slice A2 p.f_Book.length c2, .int .i64 p.f_Sure] fun g1 w1 H => vs ?_
  refine x_al H st37 fun g2 w2 H => vs ?_
  refine x_lda H st37 ?_
  refine vs ?_
  refine x_callb H (specPostOk_ok _ _ p (H.rd h9) hs) fun w6 H => ?_
  cases hok : postOk p with
  | false =>
    refine vs ?_
    refine x_lda H st37 ?_
    refine vs ?_
    refine x_call (l15Copy_ok _ _ p (H.rd h9) hs) fun _ w3 R => ?_
    unfold PostR at R
    obtain ⟨pa0, pf0, pa2, pf2, rfl, S⟩ := R
    have H := H.join S
    simp only [List.cons_append, List.nil_append] at H
    have po0 := one1 (fp := pf0) (x := p.f_Queue) H (.head _)
    obtain ⟨pB, pd, rfl, _⟩ := sl_open (H.own (fp := pf2) (x := p.f_Book) (.tail _ (.head _)))
    refine vs ?_
    refine x_sta H st37 (vs := [pa0, .int .i64 p.f_Time, .slice pB p.f_Book.length pd, .int .i64 p.f_Sure]) (h1 := one4 po0 rfl) fun wz H => vs ?_
    have H := H.front (c := Ck.own (bytes 5) pf2 [.slice pB p.f_Book.length pd] p.f_Book)
    have H := H.front (c := Ck.own items pf0 [pa0] p.f_Queue)
    obtain ⟨fz, H⟩ := ownPost p H h1 h3
    rw [fall_bad hok]
    exact ⟨_, _, rfl, res_cell H st37, _, _, rfl, H.head⟩
  | true =>
    have hS := (postOk_iff.1 hok).1.2.2.2
    have hL := (postOk_iff.1 hok).1.2.2.1
    have hkk : (kkB p.f_Sure p.f_Book.length keep) ≤ p.f_Book.length := kkB_le hS
    obtain ⟨pq, pn, pm⟩ := play_fits (p.f_Book.take (kkB p.f_Sure p.f_Book.length keep))
    have hpl : (p.f_Book.take (kkB p.f_Sure p.f_Book.length keep)).length ≤ 12000 := by rw [List.length_take]; omega
    refine vs ?_
    refine cut_to (σ := Value × List Nat) (fun y => [(4, .pointer (some ⟨g2, 0, none⟩)), (5, y.1)]) (fun y w' => Sep w.heap.size w w' [Ck.own (bytes 5) y.2 [y.1] (p.f_Book.take (kkB p.f_Sure p.f_Book.length keep)), Ck.box g2 [.slice none 0 0, .int .i64 0, .slice none 0 0, .int .i64 0] 37]) ?_ ?_
    · have J := Sep.start w6
      refine fork_draw w6.heap.size [] fun wa hh hba => ?_
      have J := J.go (hba _)
      have J3 := J
      refine rest_pre [(1, true), (2, true), (3, true), (4, true), (5, true), (7, true), (8, true), (9, true), (10, true), (11, true), (12, true)] 7 ?_
      refine vs ?_
      refine q_ldB H J3 sc22 ?_
      refine vs ?_
      refine q_ldB H J3 sc3 ?_
      refine vs ?_
      refine q_ldB H J3 sc22 ?_
      refine vs ?_
      refine q_ldB H J3 sc3 ?_
      refine ve (fall_d hS (by omega)) ?_
      refine rest_fork 0 6 6 ?_ ?_
      · refine vs ?_
        refine x_emp J pl_u8 sl22 fun gb wb J => vs ?_
        refine ⟨kept_base J3 J, ?_⟩
        refine rest_end [(6, false), (13, false), (14, true), (15, true), (16, false), (17, true)] ?_
        refine vs ?_
        refine x_callw (l1MaxB_ok _ _ _) ?_
        refine vs ?_
        refine ⟨kept_base J3 J, ?_⟩
        refine x_callw (l1MinB_ok _ _ _) ?_
        refine vs ?_
        refine ⟨kept_base J3 J, ?_⟩
        refine ve (fall_2 (keep := keep) hS (by omega)) ?_
        refine q_toN sl22 rfl (kkB p.f_Sure p.f_Book.length keep) h2 rfl hkk fun v4 hv4 => vs ?_
        refine x_app J pl_u8 sl22 (J.rd (H.rd hv4)) ?_ ?_ fun f5 v5 wc J => vs ?_
        · simp only [List.length_nil, List.length_take]; omega
        · simp only [List.length_nil, List.length_take]; omega
        refine ⟨kept_base J3 J, ?_⟩
        rw [List.nil_append] at J
        have H := H.join J
        simp only [List.cons_append, List.nil_append] at H
        have H := H.front (c := Ck.box g2 [.slice none 0 0, .int .i64 0, .slice none 0 0, .int .i64 0] 37)
        have H := H.front (c := Ck.own (bytes 5) f5 [v5] (p.f_Book.take (kkB p.f_Sure p.f_Book.length keep)))
        exact ⟨(v5, f5), vs trivial, Sep.left (L := [_, _]) H⟩
      · refine vs ?_
        refine x_callw (l1MaxB_ok _ _ _) ?_
        refine vs ?_
        refine ⟨kept_base J3 J, ?_⟩
        refine rest_fork 0 13 5 ?_ ?_
        · refine vs ?_
          refine x_emp J pl_u8 sl22 fun gb wb J => vs ?_
          refine ⟨kept_base J3 J, ?_⟩
          refine rest_end [(13, false), (14, true), (15, true), (16, false), (17, true)] ?_
          refine vs ?_
          refine x_callw (l1MinB_ok _ _ _) ?_
          refine vs ?_
          refine ⟨kept_base J3 J, ?_⟩
          refine ve (fall_2 (keep := keep) hS (by omega)) ?_
          refine q_toN sl22 rfl (kkB p.f_Sure p.f_Book.length keep) h2 rfl hkk fun v4 hv4 => vs ?_
          refine x_app J pl_u8 sl22 (J.rd (H.rd hv4)) ?_ ?_ fun f5 v5 wc J => vs ?_
          · simp only [List.length_nil, List.length_take]; omega
          · simp only [List.length_nil, List.length_take]; omega
          refine ⟨kept_base J3 J, ?_⟩
          rw [List.nil_append] at J
          have H := H.join J
          simp only [List.cons_append, List.nil_append] at H
          have H := H.front (c := Ck.box g2 [.slice none 0 0, .int .i64 0, .slice none 0 0, .int .i64 0] 37)
          have H := H.front (c := Ck.own (bytes 5) f5 [v5] (p.f_Book.take (kkB p.f_Sure p.f_Book.length keep)))
          exact ⟨(v5, f5), vs trivial, Sep.left (L := [_, _]) H⟩
        · refine vs ?_
          refine x_callw (l1MinB_ok _ _ _) ?_
          refine vs ?_
          refine ⟨kept_base J3 J, ?_⟩
          refine rest_end [(14, true), (15, true), (0, false), (16, false), (17, true)] ?_
          refine vs ?_
          refine ve (fall_2 (keep := keep) hS (by omega)) ?_
          refine q_toN sl22 rfl (kkB p.f_Sure p.f_Book.length keep) h2 rfl hkk fun v4 hv4 => vs ?_
          refine x_emp J pl_u8 sl22 fun gb wb J => vs ?_
          refine ⟨kept_base J3 J, ?_⟩
          refine x_app J pl_u8 sl22 (J.rd (H.rd hv4)) ?_ ?_ fun f5 v5 wc J => vs ?_
          · simp only [List.length_nil, List.length_take]; omega
          · simp only [List.length_nil, List.length_take]; omega
          refine ⟨kept_base J3 J, ?_⟩
          rw [List.nil_append] at J
          have H := H.join J
          simp only [List.cons_append, List.nil_append] at H
          have H := H.front (c := Ck.box g2 [.slice none 0 0, .int .i64 0, .slice none 0 0, .int .i64 0] 37)
          have H := H.front (c := Ck.own (bytes 5) f5 [v5] (p.f_Book.take (kkB p.f_Sure p.f_Book.length keep)))
          exact ⟨(v5, f5), vs trivial, Sep.left (L := [_, _]) H⟩
    rintro ⟨v5, f5⟩ s9 wf H
    dsimp only at H
    have hv5 := H.own (.head _)
    refine vs ?_
    refine x_call (specPlay_ok _ v5 _ hv5 (by omega)) fun _ w7 ⟨vq, fq, e, S⟩ => ?_
    subst e
    have hv5 := Sep.rd S hv5
    have H := H.join S
    simp only [List.cons_append, List.nil_append] at H
    refine vs ?_
    refine x_emp H pl_u8 sl22 fun gb wb H => vs ?_
    refine x_toN sl22 rfl (play (p.f_Book.take (kkB p.f_Sure p.f_Book.length keep))).2.2 (H.own (fp := f5) (x := p.f_Book.take (kkB p.f_Sure p.f_Book.length keep)) (by repeat (first | exact List.mem_cons_self | apply List.mem_cons_of_mem))) rfl pm fun v8 hv8 => vs ?_
    refine x_app H pl_u8 sl22 hv8 ?_ ?_ fun f9 r9 w9 H => vs ?_
    · simp only [List.length_nil, List.length_take]; omega
    · simp only [List.length_nil, List.length_take]; omega
    rw [List.nil_append] at H
    obtain ⟨Aq, cq, rfl, _⟩ := sl_open (H.own (fp := fq) (x := (play (p.f_Book.take (kkB p.f_Sure p.f_Book.length keep))).1) (by repeat (first | exact List.mem_cons_self | apply List.mem_cons_of_mem)))
    obtain ⟨Ab, cb, rfl, _⟩ := sl_open (H.own (fp := f9) (x := (p.f_Book.take (kkB p.f_Sure p.f_Book.length keep)).take (play (p.f_Book.take (kkB p.f_Sure p.f_Book.length keep))).2.2) (by repeat (first | exact List.mem_cons_self | apply List.mem_cons_of_mem)))
    refine x_build bl37 [.slice Aq (play (p.f_Book.take (kkB p.f_Sure p.f_Book.length keep))).1.length cq, .int .i64 (play (p.f_Book.take (kkB p.f_Sure p.f_Book.length keep))).2.1, .slice Ab ((p.f_Book.take (kkB p.f_Sure p.f_Book.length keep)).take (play (p.f_Book.take (kkB p.f_Sure p.f_Book.length keep))).2.2).length cb, .int .i64 ((play (p.f_Book.take (kkB p.f_Sure p.f_Book.length keep))).2.2 : Int)] ?_
    refine vs ?_
    refine x_sta H st37 (vs := [.slice Aq (play (p.f_Book.take (kkB p.f_Sure p.f_Book.length keep))).1.length cq, .int .i64 (play (p.f_Book.take (kkB p.f_Sure p.f_Book.length keep))).2.1, .slice Ab ((p.f_Book.take (kkB p.f_Sure p.f_Book.length keep)).take (play (p.f_Book.take (kkB p.f_Sure p.f_Book.length keep))).2.2).length cb, .int .i64 ((play (p.f_Book.take (kkB p.f_Sure p.f_Book.length keep))).2.2 : Int)]) (h1 := one4 rfl rfl) fun wz H => vs ?_
    have H := H.front (c := Ck.own (bytes 5) f9 [.slice Ab ((p.f_Book.take (kkB p.f_Sure p.f_Book.length keep)).take (play (p.f_Book.take (kkB p.f_Sure p.f_Book.length keep))).2.2).length cb] ((p.f_Book.take (kkB p.f_Sure p.f_Book.length keep)).take (play (p.f_Book.take (kkB p.f_Sure p.f_Book.length keep))).2.2))
    have H := H.front (c := Ck.own items fq [.slice Aq (play (p.f_Book.take (kkB p.f_Sure p.f_Book.length keep))).1.length cq] (play (p.f_Book.take (kkB p.f_Sure p.f_Book.length keep))).1)
    obtain ⟨fz, H⟩ := ownPost (⟨(play (p.f_Book.take (kkB p.f_Sure p.f_Book.length keep))).1, (play (p.f_Book.take (kkB p.f_Sure p.f_Book.length keep))).2.1, (p.f_Book.take (kkB p.f_Sure p.f_Book.length keep)).take (play (p.f_Book.take (kkB p.f_Sure p.f_Book.length keep))).2.2, ((play (p.f_Book.take (kkB p.f_Sure p.f_Book.length keep))).2.2 : Int)⟩ : MPost) H (by dsimp only; omega) (by dsimp only; omega)
    rw [fall_ok hok]
    exact ⟨_, _, rfl, res_cell H st37, _, _, rfl, H.head⟩
end Go.Proofs.Ytdljbekkckfmnaa.V
