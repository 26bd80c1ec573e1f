/- Lists whose elements are read of others; two lists held against each other; an owned element put into a list. -/
import Derived.Test.YtlkplnioaiahhaaWdg
namespace Go.Proofs.Ytlkplnioaiahhaa.V
open Go Go.RowKit
set_option maxRecDepth 100000
set_option maxHeartbeats 4000000
set_option linter.unusedSimpArgs false
set_option linter.unusedVariables false
set_option pp.deepTerms false
set_option pp.deepTerms.threshold 3

/-! ### elements read of a world -/
abbrev ShV := Option Addr × Nat × List UInt8
abbrev shB (wb : World) (nb : Nat) : Kd ShV := Kd.plain (fun p => .slice p.1 p.2.2.length p.2.1) (fun _ => rfl) (fun p => (bytes 5).rd wb nb [.slice p.1 p.2.2.length p.2.1] p.2.2)
theorem pl_sh (wb : World) (nb : Nat) : IsPlain (shB wb nb) (fun p => .slice p.1 p.2.2.length p.2.1) (fun p => (bytes 5).rd wb nb [.slice p.1 p.2.2.length p.2.1] p.2.2) := ⟨_, rfl⟩
theorem toSh {w : World} {n : Nat} {v : Value} {l : List (List UInt8)} (h : lists.rd w n [v] l) : ∃ l', (Kd.slice 22 (shB w n)).rd w n [v] l' ∧ l'.map (fun p => p.2.2) = l := by
  obtain ⟨A, c, rfl, h1, h2, ha⟩ := sl_open h
  have key : ∀ i : Fin l.length, ∃ p : ShV, p.2.2 = l[i.val] ∧ (bytes 5).rd w n [.slice p.1 p.2.2.length p.2.1] p.2.2 ∧ A.isSome = true ∧ (adA A).block < n ∧ w.cell? ((adA A).add i.val) = some (.slice p.1 p.2.2.length p.2.1) := fun i => by
    obtain ⟨h3, h4, es, h5, h6⟩ := ha i.val i.isLt
    obtain ⟨u, rfl⟩ := sl_one h5
    obtain ⟨A', c', rfl, _⟩ := sl_open h5
    refine ⟨(A', c', l[i.val]), rfl, h5, h3, h4, ?_⟩
    have := h6 0 (by decide)
    have e : i.val * (bytes 5).sz + 0 = i.val := by show i.val * 1 + 0 = i.val; omega
    rw [e] at this
    simpa using this
  have hf : ∀ i, _ := fun i => Classical.choose_spec (key i)
  refine ⟨List.ofFn fun i => Classical.choose (key i), ⟨A, c, by simp, by simpa using h1, h2, (pl_sh w n).slRd.2 ⟨fun x hx => ?_, fun i hi => ?_⟩⟩, ?_⟩
  · obtain ⟨i, rfl⟩ := List.mem_ofFn.1 hx
    exact (hf i).2.1
  · have hi' : i < l.length := by simpa using hi
    obtain ⟨_, _, h3, h4, h5⟩ := hf ⟨i, hi'⟩
    refine ⟨h3, h4, ?_⟩
    rw [List.getElem_ofFn]
    exact h5
  · refine List.ext_getElem (by simp) fun i h h' => ?_
    rw [List.getElem_map, List.getElem_ofFn]
    exact (hf ⟨i, h'⟩).1
theorem ofSh {wb w : World} {nb n : Nat} {v : Value} {l' : List ShV} (h : (Kd.slice 22 (shB wb nb)).rd w n [v] l') (hb : Below nb wb w) (hn : nb ≤ n) : lists.rd w n [v] (l'.map (fun p => p.2.2)) := by
  obtain ⟨A, c, rfl, h1, h2, ha⟩ := sl_open h
  obtain ⟨hR, hc⟩ := (pl_sh wb nb).slRd.1 ha
  refine ⟨A, c, by simp, by simpa using h1, h2, fun i hi => ?_⟩
  have hi' : i < l'.length := by simpa using hi
  obtain ⟨h3, h4, h5⟩ := hc i hi'
  refine ⟨h3, h4, [.slice l'[i].1 l'[i].2.2.length l'[i].2.1], ?_, fun j hj => ?_⟩
  · rw [List.getElem_map]
    exact Kd.le _ (Kd.mono _ (hR _ (List.getElem_mem hi')) hb) hn
  · have hj : j < 1 := hj
    obtain rfl : j = 0 := by omega
    have e : i * (bytes 5).sz + 0 = i := by show i * 1 + 0 = i; omega
    rw [e]
    simpa using h5

theorem q_str {P : Program} {n : Nat} {w0 : World} {K : Value → Prop} {tg : Tg (n, ([] : List (Nat × Nat)), w0, K)} {s t e : TypeId} {v : Value} {l : List UInt8} (hs : P.underlying s = some (.slice e)) (he : P.underlying e = some (.int .u8)) (ht : P.underlying t = some .string) (hr : (bytes e).rd w0 n [v] l) (h : K (.string ⟨l.toArray⟩)) : QS P n [] w0 K tg (convert s t v) := by
  obtain ⟨A, c, rfl, h1, h2, h3⟩ := sl_open hr
  obtain ⟨_, h4⟩ := pl_u8.slRd.1 h3
  refine QS_of (fun w hw => ?_) h
  have hrd : (bytes e).rd w n [.slice A l.length c] l := ⟨A, c, rfl, h1, h2, pl_u8.slRd.2 ⟨fun _ _ => trivial, fun i hi => ?_⟩⟩
  · exact run_str hs he ht hrd
  · obtain ⟨h5, h6, h7⟩ := h4 i hi
    exact ⟨h5, h6, by rw [hw.cell (by rw [Kd.add_block]; exact h6) (by simp)]; exact h7⟩
theorem sameLists_ok (w : World) (v u : Value) (l : List (List UInt8)) (h : lists.rd w w.heap.size [v] l) (h' : lists.rd w w.heap.size [u] l) :
    ACalls Try.prog 17 #[v, u] w fun r w' => r = .bool true ∧ Below w.heap.size w w' := by
  have hlm := sl_len h
  obtain ⟨A, c, rfl, _, _, ha⟩ := sl_open h
  obtain ⟨B, d, rfl, _, _, hb⟩ := sl_open h'
  refine body_of follows Try.func17 rfl rfl _ rfl (by kernel_rfl) (vs ?_)
  refine loop_at (σ := Nat) (fun k => [(0, .slice A l.length c), (1, .slice B l.length d), (5, .int .i64 (k : Int))])
    (fun k w' => k ≤ l.length ∧ Sep w.heap.size w w' []) (fun k => l.length - k) 0 (vs trivial) ⟨Nat.zero_le _, Sep.start w⟩ ?_
  rintro k s w2 ⟨hk, H⟩
  refine vs (ways ?_ ?_)
  · refine vh fun hlt => ?_
    have hk2 : k < l.length := by omega
    refine draw_at [(0, true), (1, true), (2, true), (3, true), (4, true), (5, true), (6, true), (7, true), (8, true), (9, true), (10, true)] fun w3 hh hb3 => vs ?_
    have H := H.go (hb3 _)
    refine q_ele H sl24 rfl k hk2 ha rfl fun ad es hb' hr hc => vs ?_
    obtain ⟨u1, rfl⟩ := sl_one hr
    refine q_ld1 sc22 hc rfl (Nat.lt_of_lt_of_le hb' H.ns) ?_
    refine vs ?_
    refine q_str Try.underlying22 Try.underlying5 Try.underlying9 (H.rd hr) ?_
    refine vs ?_
    refine q_ele H sl24 rfl k hk2 hb rfl fun ad es hb' hr hc => vs ?_
    obtain ⟨u2, rfl⟩ := sl_one hr
    refine q_ld1 sc22 hc rfl (Nat.lt_of_lt_of_le hb' H.ns) ?_
    refine vs ?_
    refine q_str Try.underlying22 Try.underlying5 Try.underlying9 (H.rd hr) ?_
    refine vs ?_
    exact ⟨k + 1, i64_eq (by unfold w64; omega), ⟨hk2, H⟩, by omega⟩
  · refine vh fun hlt => ?_
    exact H.bel
section
variable {P : Program} {n : Nat} {w0 w : World} {L M : List Ck} {K : Value → World → Prop} {tg : Tg K} {α : Type} {d : Kd α}
/-- A list of one owned element. -/
theorem x_lst1B {t e sz by_ : Nat} {z : Value} (HS : SlT P t e sz by_ z) {fe : List Nat} {es : List Value} {u : Value} {x : α} (H : Sep n w0 w (Ck.own d fe es x :: M)) (hu : u.cells = es.toArray) (hd : d.sz = sz)
    (h : ∀ fp v w', Sep n w0 w' (Ck.own (Kd.slice e d) fp [v] [x] :: M) → Below w.heap.size w w' → K v w') (hsz : sz ≤ 16777216 := by decide) : VS P K tg (Instr.buildSlice t 1 #[(0, u)]) w := by
  obtain ⟨i, hi, hs, _, hz⟩ := HS.inf
  have he : d.ow w fe es x := H.ok _ (.head _)
  have hes : es.length = sz := by rw [← hd]; exact d.own_len he
  have hpos := HS.pos
  have hfill : Instr.fill (fun i => some (i * sz, sz)) ((Array.range (1 * sz)).map (z.cells[· % z.cells.size]!)) [(0, u)] = some es.toArray := by
    have h3 := put_arr es ((Array.range (1 * sz)).map (z.cells[· % z.cells.size]!)) (by simp [hes])
    have h4 : (es.toArray.size ≠ sz || 0 * sz + es.toArray.size > ((Array.range (1 * sz)).map (z.cells[· % z.cells.size]!)).size) = false := by simp [hes]
    simp only [Instr.fill, hu]
    rw [if_neg (by rw [h4]; decide)]
    simp only [Nat.zero_mul, Nat.zero_add]
    rw [h3]
  refine vS_run (v := .slice (some ⟨w.heap.size, 0, none⟩) 1 1) (w' := w.alloc (.cells es.toArray e)) ?_ (h (w.heap.size :: fe) _ _ ?_ (Below.alloc (Below.refl _ _) (Nat.le_refl _) _))
  · have hg : ¬ (16777216 < 1 * sz) := by omega
    have hz0 : ¬ sz = 0 := by omega
    simp only [Nat.one_mul] at hfill hg
    simp [Instr.buildSlice, run_underlying' HS.un, run_sizeOf' hi hs, hg, hz0, run_zeroValue' hi hz, hfill, newRow]
  · have hlt : ∀ b ∈ fe, n ≤ b ∧ b < w.heap.size := fun b hb => H.lo b (List.mem_append_left _ hb)
    have hB := Sep.fresh H es e
    refine hB.swapTo (by simp only [fps, Ck.own_fp, Ck.box, List.cons_append, List.nil_append]; exact List.Perm.refl _) fun c hc => ?_
    rcases List.mem_cons.1 hc with rfl | hc
    · refine ⟨_, [es], [fe], rfl, ⟨?_, rfl, rfl, fun i hi => ?_, by simp [Value.ownBlock], ?_⟩⟩
      · have := owR_of <| World.ownsRow_lit (base := 0) (e := e) (size := sz) w es.toArray 1 (Nat.zero_le _) (by simp [maxLen]) (by simp [hes])
        rw [hd]; simpa using this
      · obtain rfl : i = 0 := by simp at hi; omega
        exact hB.ok _ (.tail _ (.head _))
      · have := hB.nd
        simp only [fps, Ck.own_fp, Ck.box, List.cons_append, List.nil_append] at this
        refine List.nodup_cons.2 ⟨fun hm => ?_, d.own_nodup he⟩
        have := hlt _ hm; omega
    · exact hB.ok _ (.tail _ (.tail _ hc))
end
end Go.Proofs.Ytlkplnioaiahhaa.V
