/- The laws' helpers on bytes: copies, comparisons, sizes, marks. -/
import Derived.Test.YtcmckbgiiclomaaGreatDoorVs
namespace Go.Proofs.YtcmckbgiiclomaaGreatDoor.V
open Go Go.RowKit
set_option maxRecDepth 100000
set_option maxHeartbeats 4000000
set_option linter.unusedSimpArgs false
set_option linter.unusedVariables false
set_option pp.deepTerms false
set_option pp.deepTerms.threshold 3

theorem l1In_ok (w : World) (x lo hi : Int) : ACalls Tryz.prog 35 #[.int .i64 x, .int .i64 lo, .int .i64 hi] w fun r w' => r = .bool (decide (lo ≤ x ∧ x ≤ hi)) ∧ w' = w := by
  refine body_of follows Tryz.func35 rfl rfl _ rfl (by kernel_rfl) (vs ?_)
  exact ways (vh fun _ => trivial) (vh fun _ => trivial)
theorem in_ok (w : World) (x lo hi : Int) : ACalls Tryz.prog 32 #[.int .i64 x, .int .i64 lo, .int .i64 hi] w fun r w' => r = .bool (decide (lo ≤ x ∧ x ≤ hi)) ∧ w' = w := by
  refine body_of follows Tryz.func32 rfl rfl _ rfl (by kernel_rfl) (vs ?_)
  exact ways (vh fun _ => trivial) (vh fun _ => trivial)

theorem take_set {α : Type} (a : List α) (z : α) (k : Nat) (hk : k < a.length) : (a.take k ++ List.replicate (a.length - k) z).set k a[k] = a.take (k + 1) ++ List.replicate (a.length - (k + 1)) z := by
  apply List.ext_getElem?
  intro i
  rw [List.getElem?_set]
  simp only [List.length_append, List.length_take, List.length_replicate]
  by_cases h : k = i
  · subst h
    rw [if_pos rfl, if_pos (by omega), List.getElem?_append_left (by simp; omega)]
    simp [hk]
  · rw [if_neg h, List.getElem?_append, List.getElem?_append]
    simp only [List.length_take]
    by_cases h1 : i < k
    · rw [if_pos (by omega), if_pos (by omega)]
      simp [List.getElem?_take, h1, show i < k + 1 by omega]
    · rw [if_neg (by omega), if_neg (by omega)]
      simp only [List.getElem?_replicate]
      congr 1
      simp; omega
theorem take_zero_repl {α : Type} (a : List α) (z : α) : a.take 0 ++ List.replicate (a.length - 0) z = List.replicate a.length z := by simp
theorem take_all_repl {α : Type} (a : List α) (z : α) {k : Nat} (h : k = a.length) : a.take k ++ List.replicate (a.length - k) z = a := by subst h; simp
theorem len_tr {α : Type} (a : List α) (z : α) {k : Nat} (h : k ≤ a.length) : (a.take k ++ List.replicate (a.length - k) z).length = a.length := by simp; omega

theorem take_ext {α : Type} {a b : List α} {k : Nat} (h : a.take k = b.take k) (hk : k < a.length) (hk2 : k < b.length) (e : a[k] = b[k]) : a.take (k + 1) = b.take (k + 1) := by
  rw [List.take_add_one, List.take_add_one, h, List.getElem?_eq_getElem hk, List.getElem?_eq_getElem hk2, e]

end Go.Proofs.YtcmckbgiiclomaaGreatDoor.V
