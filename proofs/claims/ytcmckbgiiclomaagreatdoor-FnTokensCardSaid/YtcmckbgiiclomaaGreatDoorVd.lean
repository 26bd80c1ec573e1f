/- Memory in the small logic: what loads, stores, new blocks, slices and appends come to. -/
import Derived.Test.YtcmckbgiiclomaaGreatDoorVc
namespace Go.Proofs.YtcmckbgiiclomaaGreatDoor.V
open Go Go.RowKit

/-- What is known of a slice type: its element's type, that one's cells and bytes, its zero value. -/
structure SlT (P : Program) (t e : TypeId) (sz by_ : Nat) (z : Value) : Prop where
  un : P.underlying t = some (.slice e)
  inf : ∃ i, P.info? e = some i ∧ i.size = sz ∧ i.bytes = by_ ∧ i.zero = some z
  zs : z.cells.size = sz
  pos : 0 < sz
/-- A type of one cell. -/
structure ScT (P : Program) (e : TypeId) (z : Value) : Prop where
  un : (match P.underlying e with | some (.struct _) | some (.array _ _) | none => false | _ => true) = true
  inf : ∃ i, P.info? e = some i ∧ i.size = 1 ∧ i.zero = some z
/-- A struct type: its fields, its cells, its zero value. -/
structure StT (P : Program) (t : TypeId) (sz : Nat) (z : Array Value) : Prop where
  un : ∃ fs, P.underlying t = some (.struct fs)
  inf : ∃ i, P.info? t = some i ∧ i.size = sz ∧ i.zero = some (.agg z)
  zs : z.size = sz

section
variable {P : Program} {w : World} {K : Value → World → Prop}

theorem run_typeInfo {t : TypeId} {i : TypeInfo} (h : P.info? t = some i) : (typeInfo t).run P w = .ok i w := by simp [typeInfo, h]
theorem run_sizeOf' {t : TypeId} {i : TypeInfo} {n : Nat} (h : P.info? t = some i) (hs : i.size = n) : (sizeOf t).run P w = .ok n w := by simp [sizeOf, run_typeInfo h, hs]
theorem run_underlying' {t : TypeId} {u : TypeDesc} (h : P.underlying t = some u) : (underlying t).run P w = .ok u w := by simp [underlying, h]
theorem run_zeroValue' {t : TypeId} {i : TypeInfo} {z : Value} (h : P.info? t = some i) (hz : i.zero = some z) : (zeroValue t).run P w = .ok z w := by simp [zeroValue, run_typeInfo h, hz]
theorem run_isAgg_sc {e : TypeId} {z : Value} (H : ScT P e z) : (isAgg e).run P w = .ok false w := by
  have h := H.un
  unfold isAgg
  cases hu : P.underlying e with
  | none => rw [hu] at h; cases h
  | some u => rw [hu] at h; simp only [Sem.run_bind, run_underlying' hu, Result.andThen_ok]; cases u <;> first | rfl | cases h

theorem v_index {t e : TypeId} {sz b : Nat} {z : Value} (H : SlT P t e sz b z) {A : Option Addr} {n c : Nat} {k : IntKind} {i : Int} (hA : A.isSome = true) (h0 : 0 ≤ i) (h1 : i < (n : Int)) :
    vS P (Instr.indexAt t (.slice A n c) (.int k i)) w K = K (.pointer (some ((adA A).add (i.toNat * sz)))) w := by
  obtain ⟨ad, rfl⟩ := Option.isSome_iff_exists.1 hA
  obtain ⟨inf, hi, hs, _, _⟩ := H.inf
  simp [vS, Instr.indexAt, asIntOf, run_underlying' H.un, run_sizeOf' hi hs, h0, h1, adA]

theorem v_load {e : TypeId} {z v : Value} (H : ScT P e z) {a : Addr} (h : w.cell? a = some v) : vS P (Instr.loadAt e (.pointer (some a))) w K = K v w := by
  simp [vS, Instr.loadAt, Instr.sureAddr, loadVar, run_isAgg_sc H, h]

theorem v_loadAgg {t : TypeId} {sz : Nat} {z : Array Value} (H : StT P t sz z) {a : Addr} {cs : List Value} (hl : cs.length = sz) (h : ∀ j v, cs[j]? = some v → w.cell? (a.add j) = some v) :
    vS P (Instr.loadAt t (.pointer (some a))) w K = K (.agg cs.toArray) w := by
  obtain ⟨fs, hu⟩ := H.un
  obtain ⟨inf, hi, hs, _⟩ := H.inf
  have hc := run_loadCells_list (P := P) w a cs h
  rw [hl] at hc
  have ha : (isAgg t).run P w = .ok true w := by simp [isAgg, run_underlying' hu]
  simp [vS, Instr.loadAt, Instr.sureAddr, loadVar, ha, run_sizeOf' hi hs, hc]

theorem v_store {e : TypeId} {z v old : Value} (H : ScT P e z) {a : Addr} (hc : w.cell? a = some old) (hf : w.frozen? a = false) (h1 : v.oneCell' = true) :
    vU P (Instr.storeAt e (.pointer (some a)) v) w K = K undef (w.setCell a v) := by
  obtain ⟨inf, hi, hs, _⟩ := H.inf
  have hcs : v.cells = #[v] := by cases v <;> first | rfl | simp [Value.oneCell'] at h1
  have hst : (store a v).run P w = .ok () (w.setCell a v) := by rw [run_store P w a v .plain h1]; simp [hc, hf]
  simp [vU, Instr.storeAt, Instr.sureAddr, storeVar, hcs, run_sizeOf' hi hs, storeCells, hst, Addr.add]

theorem v_box {t : TypeId} {v : Value} : vS P (Instr.box t v) w K = K (.pointer (some ⟨w.heap.size, 0, none⟩)) (w.alloc (.cells v.cells t)) := by
  simp [vS, Instr.box, newVar, newRow]
theorem v_alloc {t : TypeId} {i : TypeInfo} {z : Value} (hi : P.info? t = some i) (hz : i.zero = some z) : vS P (Instr.alloc t true (.tuple #[])) w K = K (.pointer (some ⟨w.heap.size, 0, none⟩)) (w.alloc (.cells z.cells t)) := by
  simp [vS, Instr.alloc, run_zeroValue' hi hz, newVar, newRow]
theorem v_len_slice {t e : TypeId} (h : P.underlying t = some (.slice e)) {ty : TypeId} {A : Option Addr} {n c : Nat} : vS P (Builtin.len_ #[t] ty #[.slice A n c]) w K = K (.int .i64 (n : Int)) w := by
  simp [vS, Builtin.len_, run_underlying' h, goInt]
theorem str_size (l : List UInt8) : (⟨l.toArray⟩ : ByteArray).size = l.length := by show l.toArray.size = _; simp
theorem v_len_str {t : TypeId} (h : P.underlying t = some .string) {ty : TypeId} {l : List UInt8} : vS P (Builtin.len_ #[t] ty #[.string ⟨l.toArray⟩]) w K = K (.int .i64 (l.length : Int)) w := by
  simp [vS, Builtin.len_, run_underlying' h, goInt, str_size]
theorem v_fieldAddr {t : TypeId} {fs : Array Field} (H : P.underlying t = some (.struct fs)) {a : Addr} {f : Nat} {fd : Field} {i : TypeInfo} {m : Nat} (hf : fs[f]? = some fd) (hi : P.info? fd.type = some i) (hs : i.size = m) (hm : m ≠ 0) :
    vS P (Instr.fieldAt t (.pointer (some a)) f) w K = K (.pointer (some (a.add fd.offset))) w := by
  simp [vS, Instr.fieldAt, run_underlying' H, hf, Instr.sureAddr, fieldPlace, run_sizeOf' hi hs, hm]
theorem v_extract {vs : Array Value} {i : Nat} {v : Value} (h : vs[i]? = some v) : vS P (Instr.extract (.tuple vs) i) w K = K v w := by simp [vS, Instr.extract, h]

end
end Go.Proofs.YtcmckbgiiclomaaGreatDoor.V
