/- Lists put behind each other: slices.Concat, slices.Grow. -/
import Derived.Test.YtagljofpmjaciaaWsh
import Derived.Test.YtagljofpmjaciaaWdd
namespace Go.Proofs.Ytagljofpmjaciaa.V
open Go Go.RowKit
set_option maxRecDepth 100000
set_option maxHeartbeats 4000000
set_option linter.unusedSimpArgs false
set_option linter.unusedVariables false
set_option pp.deepTerms false
set_option pp.deepTerms.threshold 3

section
variable {P : Program} {s : Sl} {w : World} {K : Value → World → Prop} {d : Option Tmp} {ty : TypeId} {pos : String} {af : Array Edge} {g : Option (Nat × Bool)}
theorem x_cap {x : Operand} {t e : TypeId} {tg : Tg ((⟨d, .call ⟨.builtin .cap, #[x], #[t]⟩, ty, pos, af, g⟩ : Oper), K)} (hu : P.underlying t = some (.slice e)) {A : Option Addr} {m c : Nat} (h : K (.int .i64 (c : Int)) w) (he : ev s x = .slice A m c := by rfl) : Aop P ⟨d, .call ⟨.builtin .cap, #[x], #[t]⟩, ty, pos, af, g⟩ K tg s w := by
  have e1 : aop P ⟨d, .call ⟨.builtin .cap, #[x], #[t]⟩, ty, pos, af, g⟩ s w K = vS P (Builtin.cap_ #[t] ty (#[x].map (ev s))) w K := aop_v rfl
  unfold Aop
  rw [e1]
  refine vS_run (v := .int .i64 (c : Int)) (w' := w) ?_ h
  simp [Builtin.cap_, run_underlying' hu, he, goInt]
end
theorem run_nil_zeros {P : Program} (w : World) (t tn ty e : TypeId) (i : TypeInfo) (z : Value) (k kn : IntKind) (ht : P.underlying t = some (.slice e)) (htn : P.underlying tn = some (.int kn)) (hi : P.info? e = some i) (hz : i.zero = some z)
    (n : Nat) (h0 : n * i.size ≠ 0) (h63 : ((n : Nat) : Int) ≤ 9223372036854775807) (hn48 : n * i.bytes ≤ 281474976710656) :
    (Builtin.append_ #[t, tn] ty #[.slice none 0 0, .int k (n : Int)]).run P w =
      .ok (.slice (some ⟨w.heap.size, 0, none⟩) n (grownCap w n 0 e))
        (w.drew.alloc (.cells (Builtin.zeroCells z.cells n ++ Builtin.zeroCells z.cells (grownCap w n 0 e - n)) e)) := by
  have h01 : ¬ n = 0 := fun e => h0 (by rw [e]; simp)
  have h02 : ¬ i.size = 0 := fun e => h0 (by rw [e]; simp)
  have h63' : ¬ (9223372036854775807 < (n : Int)) := by omega
  have h48' : ¬ (281474976710656 < Builtin.nextslicecap n 0 * i.bytes) := by rw [nextslicecap_zero (by omega)]; omega
  have h48i : ¬ (281474976710656 < (n : Int) * (i.bytes : Int)) := by rw [← Int.natCast_mul]; omega
  have hneg : ¬ ((n : Int) < 0) := by omega
  have hw : IntKind.i64.wrap (n : Int) = n := by rw [IntKind.wrap_i64]; omega
  simp [Builtin.append_, run_underlying' ht, run_underlying' htn, sizeOf, typeInfo, zeroValue, hi, hz, asInt, asIntOf, hw, hneg, h48i, h63', h48', Question.forced, run_firstCells_none, newRow, grownCap, h01, h02]
  exact fun h => absurd h h0

theorem x_appNZ {P : Program} {n : Nat} {w0 w : World} {L : List Ck} {K : Value → World → Prop} {tg : Tg K} {t tn ty e by_ : Nat} {z : Value} {kn : IntKind} (H : Sep n w0 w L) (HS : SlT P t e 1 by_ z) (htn : P.underlying tn = some (.int kn)) {q : Nat} {kk : IntKind} (hq : 0 < q) (hn : q ≤ 9223372036854775807) (hb : q * by_ ≤ 281474976710656)
    (h : ∀ g c cells w', Sep n w0 w' (Ck.box g cells e :: L) → c ≤ maxLen → c ≤ cells.length → K (.slice (some ⟨g, 0, none⟩) q c) w') : Builtin' P K tg .append #[t, tn] ty [.slice none 0 0, .int kk (q : Int)] w := by
  obtain ⟨i, hi, hs, hby, hz⟩ := HS.inf
  subst hby
  have hr := run_nil_zeros (P := P) w t tn ty e i z kk kn HS.un htn hi hz q (by rw [hs]; omega) (by omega) hb
  have hge := grownCap_ge w q 0 e
  have hle := grownCap_le_maxLen w q 0 e (by simpa [maxLen] using hn)
  have hzs := HS.zs
  unfold Builtin'
  refine vS_run hr ?_
  obtain ⟨arr, har⟩ : ∃ arr, arr = Builtin.zeroCells z.cells q ++ Builtin.zeroCells z.cells (grownCap w q 0 e - q) := ⟨_, rfl⟩
  rw [← har]
  have H2 := (H.go ((Below.refl _ w).drew)).fresh arr.toList e
  rw [Array.toArray_toList] at H2
  refine h w.heap.size (grownCap w q 0 e) arr.toList _ H2 hle ?_
  rw [har]
  simp only [Array.length_toList, Array.size_append, size_zeroCells, hzs]
  omega
theorem boxNil {n : Nat} {w0 w : World} {L : List Ck} {α : Type} {dk : Kd α} {f : α → Value} {R : α → Prop} (hp : IsPlain dk f R) {g c : Nat} {cells : List Value} {e : TypeId} (H : Sep n w0 w (Ck.box g cells e :: L)) (hc : c ≤ maxLen) (hl : c ≤ cells.length) : Sep n w0 w (Ck.own (Kd.slice e dk) [g] [.slice (some ⟨g, 0, none⟩) 0 c] [] :: L) := by
  refine H.swapTo (List.Perm.refl _) fun q hq => ?_
  rcases List.mem_cons.1 hq with rfl | hq
  · have hb : w.heap[g]? = some (.cells cells.toArray e (0, 0)) := H.ok _ (.head _)
    exact hp.slOw.2 ⟨by simp, ⟨by simp, .inr ⟨g, c, cells.toArray, rfl, Nat.zero_le _, hb, Nat.zero_le _, hc, by simpa using hl, by simp⟩⟩, rfl⟩
  · exact H.ok _ (.tail _ hq)
theorem w64_0 : w64 ((0 : Int) - 0) = 0 := w64_id (by omega) (by omega)
theorem growNil_ok {α : Type} {dk : Kd α} {f : α → Value} {R : α → Prop} (hp : IsPlain dk f R) (w : World) (n : Nat) (hn : n ≤ 1000000) :
    ACalls Try.prog 121 #[.slice none 0 0, .int .i64 (n : Int)] w fun r w' => ∃ fp, Sep w.heap.size w w' [Ck.own (Kd.slice 22 dk) fp [r] []] := by
  refine body_of follows Try.func121 rfl rfl _ rfl (by kernel_rfl) (vs ?_)
  refine ve (show ¬ ((n : Int) < 0) by omega) ?_
  refine x_cap Try.underlying31 ?_
  refine ve (And.intro w64_0 (show w64 ((n : Int) - 0) = (n : Int) by rw [w64_id (by omega) (by omega)]; omega)) ?_
  by_cases q : 0 < (n : Int)
  · refine ve q ?_
    refine x_cap Try.underlying31 ?_
    refine vs ?_
    refine x_hiO sl31 (hi := 0) (Nat.le_refl _) ?_
    refine vs ?_
    refine x_appNZ (Sep.start w) sl31 Try.underlying3 (by omega) (by omega) (by omega) fun g c cells w1 H hc hl => vs ?_
    refine x_hiO sl31 (hi := 0) (Nat.zero_le _) ?_
    refine vs ?_
    exact ⟨_, boxNil hp H hc hl⟩
  · refine ve q ?_
    exact ⟨_, (Sep.start w).nothing (sl_zero w)⟩

theorem concat_ok (w : World) (v : Value) (ls : List (List (List UInt8))) (h : (Kd.slice 31 (Kd.slice 22 (bytes 5))).rd w w.heap.size [v] ls) (hn : ls.length ≤ 10) (hl : ∀ l ∈ ls, l.length ≤ 1000) :
    ACalls Try.prog 84 #[v] w fun r w' => ∃ l' fp, l'.map (fun p => p.2.2) = ls.flatten ∧ Sep w.heap.size w w' [Ck.own (Kd.slice 22 (shB w w.heap.size)) fp [r] l'] := by
  obtain ⟨A, c, rfl, _, _, ha⟩ := sl_open h
  refine body_of follows Try.func84 rfl rfl _ rfl (by kernel_rfl) (vs ?_)
  refine loop_at (σ := Nat × Nat) (fun y => [(0, .slice A ls.length c), (3, .int .i64 (y.2 : Int)), (9, .slice A ls.length c), (10, .int .i64 (ls.length : Int)), (11, .int .i64 (y.1 : Int))])
    (fun y w' => y.1 ≤ ls.length ∧ y.2 ≤ 1000 * y.1 ∧ Sep w.heap.size w w' []) (fun y => ls.length - y.1) (0, 0) (vs trivial) ⟨Nat.zero_le _, Nat.zero_le _, Sep.start w⟩ ?_
  rintro ⟨k, sm⟩ s w2 ⟨hk, hs, H⟩
  dsimp only at hk hs H
  refine vs (ways ?_ ?_)
  · refine vh fun hlt => ?_
    have hk2 : k < ls.length := by omega
    have hlk := hl _ (List.getElem_mem hk2)
    refine x_ele H sl123 rfl k hk2 ha rfl fun ad es hb hr hc => vs ?_
    obtain ⟨u, rfl⟩ := sl_one hr
    obtain ⟨A1, c1, rfl, _⟩ := sl_open hr
    refine x_ld1 sc31 hc rfl ?_
    refine ve (show w64 ((sm : Int) + ((ls[k]).length : Int)) = ((sm + (ls[k]).length : Nat) : Int) by rw [w64_id (by omega) (by omega)]; omega) ?_
    refine ve (show ¬ (((sm + (ls[k]).length : Nat) : Int) < 0) by omega) ?_
    exact ⟨(k + 1, sm + (ls[k]).length), ⟨rfl, i64_eq (by show w64 ((k : Int) + 1) = ((k + 1 : Nat) : Int); exact w64_succ (b := 1048576) (by omega) (by omega))⟩, ⟨by dsimp only; omega, by dsimp only; omega, H⟩, by show ls.length - (k + 1) < ls.length - k; omega⟩
  · refine vh fun hlt => ?_
    refine x_callf H (growNil_ok (pl_sh w w.heap.size) w2 sm (by omega)) fun r3 f3 w3 H => vs ?_
    refine loop_at (σ := Nat × Value × List Nat × List ShV) (fun y => [(6, y.2.1), (25, .slice A ls.length c), (26, .int .i64 (ls.length : Int)), (27, .int .i64 (y.1 : Int))])
      (fun y w' => y.1 ≤ ls.length ∧ y.2.2.2.length ≤ 1000 * y.1 ∧ y.2.2.2.map (fun p => p.2.2) = (ls.take y.1).flatten ∧ Sep w.heap.size w w' [Ck.own (Kd.slice 22 (shB w w.heap.size)) y.2.2.1 [y.2.1] y.2.2.2]) (fun y => ls.length - y.1) (0, r3, f3, []) (vs trivial) ⟨Nat.zero_le _, Nat.zero_le _, by simp, H⟩ ?_
    rintro ⟨k, u, fp, l'⟩ s w4 ⟨hk, hln, hmp, H⟩
    dsimp only at hk hln hmp H
    refine vs (ways ?_ ?_)
    · refine vh fun hlt => ?_
      have hk2 : k < ls.length := by omega
      have hlk := hl _ (List.getElem_mem hk2)
      refine x_ele H sl123 rfl k hk2 ha rfl fun ad es hb hr hc => vs ?_
      obtain ⟨u1, rfl⟩ := sl_one hr
      obtain ⟨p', hp', hpm⟩ := toSh hr
      have hpl : p'.length = (ls[k]).length := by rw [← hpm, List.length_map]
      obtain ⟨A1, c1, rfl, _⟩ := sl_open hr
      refine x_ld1 sc31 hc rfl (vs ?_)
      refine x_app H (pl_sh w w.heap.size) sl31 (H.rd hp') ?_ ?_ fun f5 v5 w5 H => vs ?_
      · omega
      · omega
      refine ⟨(k + 1, v5, f5, l' ++ p'), ⟨rfl, i64_eq (by show w64 ((k : Int) + 1) = ((k + 1 : Nat) : Int); exact w64_succ (b := 1048576) (by omega) (by omega))⟩, ⟨by dsimp only; omega, by dsimp only; rw [List.length_append]; omega, ?_, H⟩, by show ls.length - (k + 1) < ls.length - k; omega⟩
      show (l' ++ p').map (fun p => p.2.2) = (ls.take (k + 1)).flatten
      rw [List.map_append, hmp, hpm, List.take_succ_eq_append_getElem hk2, List.flatten_append]
      simp
    · refine vh fun hlt => ?_
      obtain rfl : k = ls.length := by omega
      rw [List.take_length] at hmp
      exact ⟨_, _, hmp, H⟩
end Go.Proofs.Ytagljofpmjaciaa.V
