/- Texts laid by programs, part 5. -/
import Derived.Test.YtcmckbgiiclomabGreatDoorU03
import Derived.Test.YtcmckbgiiclomabGreatDoorProg
import Derived.Test.YtcmckbgiiclomabGreatDoorU04
import Derived.ChangeArms
import Derived.ChangeMaps5
namespace Go.Proofs.YtcmckbgiiclomabGreatDoor.V
open Go Go.RowKit
set_option maxRecDepth 100000
set_option maxHeartbeats 4000000
set_option linter.unusedSimpArgs false
set_option linter.unusedVariables false
set_option pp.deepTerms false
set_option pp.deepTerms.threshold 3
theorem follows : Tryz.prog.follows .mixedOrders = true := by kernel_rfl
abbrev FA (t f off : Nat) : Prop := ∀ {K : Value → World → Prop} {tg : Tg K} {w : World} {a : Addr}, VS Tryz.prog K tg (Instr.fieldAt t (.pointer (some a)) f) w = K (.pointer (some (a.add off))) w
abbrev QFA (t f off : Nat) : Prop := ∀ {n : Nat} {G : List (Nat × Nat)} {w0 : World} {K : Value → Prop} {tg : Tg (n, G, w0, K)} {a : Addr}, QS Tryz.prog n G w0 K tg (Instr.fieldAt t (.pointer (some a)) f) = K (.pointer (some (a.add off)))
theorem sc3 : ScT Tryz.prog 3 (.int .i64 0) := .of (by kernel_rfl) (by kernel_rfl)
theorem sc4 : ScT Tryz.prog 4 (.bool false) := .of (by kernel_rfl) (by kernel_rfl)
theorem sc5 : ScT Tryz.prog 5 (.int .u8 0) := .of (by kernel_rfl) (by kernel_rfl)
theorem sc9 : ScT Tryz.prog 9 (.string ⟨#[]⟩) := .of (by kernel_rfl) (by kernel_rfl)
theorem fa13_0 : FA 13 0 0 := fieldAddr_st Tryz.underlying13 rfl (by kernel_rfl)
theorem qfa13_0 : QFA 13 0 0 := qfieldAddr_st Tryz.underlying13 rfl (by kernel_rfl)
theorem fa13_1 : FA 13 1 1 := fieldAddr_st Tryz.underlying13 rfl (by kernel_rfl)
theorem qfa13_1 : QFA 13 1 1 := qfieldAddr_st Tryz.underlying13 rfl (by kernel_rfl)
theorem sl22 : SlT Tryz.prog 22 5 1 1 (.int .u8 0) := .of Tryz.underlying22 (by kernel_rfl) rfl (by decide)
theorem sc22 : ScT Tryz.prog 22 (.slice none 0 0) := .of (by kernel_rfl) (by kernel_rfl)
theorem fa24_0 : FA 24 0 0 := fieldAddr_st Tryz.underlying24 rfl (by kernel_rfl)
theorem qfa24_0 : QFA 24 0 0 := qfieldAddr_st Tryz.underlying24 rfl (by kernel_rfl)
theorem fa24_1 : FA 24 1 1 := fieldAddr_st Tryz.underlying24 rfl (by kernel_rfl)
theorem qfa24_1 : QFA 24 1 1 := qfieldAddr_st Tryz.underlying24 rfl (by kernel_rfl)
theorem fa24_2 : FA 24 2 2 := fieldAddr_st Tryz.underlying24 rfl (by kernel_rfl)
theorem qfa24_2 : QFA 24 2 2 := qfieldAddr_st Tryz.underlying24 rfl (by kernel_rfl)
theorem st25 : StT Tryz.prog 25 3 #[(.int .i64 0), (.slice none 0 0), (.slice none 0 0)] := .of Tryz.underlying25 (by kernel_rfl) rfl
theorem bl25 (ps : List (Nat × Value)) : Tryz.prog.built 25 ps = Instr.fill ((#[(0, 1), (1, 1), (2, 1)] : Array (Nat × Nat))[·]?) #[(.int .i64 0), (.slice none 0 0), (.slice none 0 0)] ps := by kernel_rfl
theorem fa25_0 : FA 25 0 0 := fieldAddr_st Tryz.underlying25 rfl (by kernel_rfl)
theorem qfa25_0 : QFA 25 0 0 := qfieldAddr_st Tryz.underlying25 rfl (by kernel_rfl)
theorem fa25_1 : FA 25 1 1 := fieldAddr_st Tryz.underlying25 rfl (by kernel_rfl)
theorem qfa25_1 : QFA 25 1 1 := qfieldAddr_st Tryz.underlying25 rfl (by kernel_rfl)
theorem fa25_2 : FA 25 2 2 := fieldAddr_st Tryz.underlying25 rfl (by kernel_rfl)
theorem qfa25_2 : QFA 25 2 2 := qfieldAddr_st Tryz.underlying25 rfl (by kernel_rfl)
theorem fa27_0 : FA 27 0 0 := fieldAddr_st Tryz.underlying27 rfl (by kernel_rfl)
theorem qfa27_0 : QFA 27 0 0 := qfieldAddr_st Tryz.underlying27 rfl (by kernel_rfl)
theorem fa27_1 : FA 27 1 1 := fieldAddr_st Tryz.underlying27 rfl (by kernel_rfl)
theorem qfa27_1 : QFA 27 1 1 := qfieldAddr_st Tryz.underlying27 rfl (by kernel_rfl)
theorem fa27_2 : FA 27 2 2 := fieldAddr_st Tryz.underlying27 rfl (by kernel_rfl)
theorem qfa27_2 : QFA 27 2 2 := qfieldAddr_st Tryz.underlying27 rfl (by kernel_rfl)
theorem fa27_3 : FA 27 3 3 := fieldAddr_st Tryz.underlying27 rfl (by kernel_rfl)
theorem qfa27_3 : QFA 27 3 3 := qfieldAddr_st Tryz.underlying27 rfl (by kernel_rfl)
theorem st28 : StT Tryz.prog 28 4 #[(.string ⟨#[]⟩), (.int .i64 0), (.int .i64 0), (.slice none 0 0)] := .of Tryz.underlying28 (by kernel_rfl) rfl
theorem bl28 (ps : List (Nat × Value)) : Tryz.prog.built 28 ps = Instr.fill ((#[(0, 1), (1, 1), (2, 1), (3, 1)] : Array (Nat × Nat))[·]?) #[(.string ⟨#[]⟩), (.int .i64 0), (.int .i64 0), (.slice none 0 0)] ps := by kernel_rfl
theorem fa28_0 : FA 28 0 0 := fieldAddr_st Tryz.underlying28 rfl (by kernel_rfl)
theorem qfa28_0 : QFA 28 0 0 := qfieldAddr_st Tryz.underlying28 rfl (by kernel_rfl)
theorem fa28_1 : FA 28 1 1 := fieldAddr_st Tryz.underlying28 rfl (by kernel_rfl)
theorem qfa28_1 : QFA 28 1 1 := qfieldAddr_st Tryz.underlying28 rfl (by kernel_rfl)
theorem fa28_2 : FA 28 2 2 := fieldAddr_st Tryz.underlying28 rfl (by kernel_rfl)
theorem qfa28_2 : QFA 28 2 2 := qfieldAddr_st Tryz.underlying28 rfl (by kernel_rfl)
theorem fa28_3 : FA 28 3 3 := fieldAddr_st Tryz.underlying28 rfl (by kernel_rfl)
theorem qfa28_3 : QFA 28 3 3 := qfieldAddr_st Tryz.underlying28 rfl (by kernel_rfl)
theorem sl30 : SlT Tryz.prog 30 28 4 56 (.agg #[(.string ⟨#[]⟩), (.int .i64 0), (.int .i64 0), (.slice none 0 0)]) := .of Tryz.underlying30 (by kernel_rfl) rfl (by decide)
theorem sc30 : ScT Tryz.prog 30 (.slice none 0 0) := .of (by kernel_rfl) (by kernel_rfl)
theorem fa31_0 : FA 31 0 0 := fieldAddr_st Tryz.underlying31 rfl (by kernel_rfl)
theorem qfa31_0 : QFA 31 0 0 := qfieldAddr_st Tryz.underlying31 rfl (by kernel_rfl)
theorem fa31_1 : FA 31 1 1 := fieldAddr_st Tryz.underlying31 rfl (by kernel_rfl)
theorem qfa31_1 : QFA 31 1 1 := qfieldAddr_st Tryz.underlying31 rfl (by kernel_rfl)
theorem fa31_2 : FA 31 2 2 := fieldAddr_st Tryz.underlying31 rfl (by kernel_rfl)
theorem qfa31_2 : QFA 31 2 2 := qfieldAddr_st Tryz.underlying31 rfl (by kernel_rfl)
theorem fa31_3 : FA 31 3 3 := fieldAddr_st Tryz.underlying31 rfl (by kernel_rfl)
theorem qfa31_3 : QFA 31 3 3 := qfieldAddr_st Tryz.underlying31 rfl (by kernel_rfl)
theorem st32 : StT Tryz.prog 32 4 #[(.slice none 0 0), (.int .i64 0), (.slice none 0 0), (.int .i64 0)] := .of Tryz.underlying32 (by kernel_rfl) rfl
theorem bl32 (ps : List (Nat × Value)) : Tryz.prog.built 32 ps = Instr.fill ((#[(0, 1), (1, 1), (2, 1), (3, 1)] : Array (Nat × Nat))[·]?) #[(.slice none 0 0), (.int .i64 0), (.slice none 0 0), (.int .i64 0)] ps := by kernel_rfl
theorem fa32_0 : FA 32 0 0 := fieldAddr_st Tryz.underlying32 rfl (by kernel_rfl)
theorem qfa32_0 : QFA 32 0 0 := qfieldAddr_st Tryz.underlying32 rfl (by kernel_rfl)
theorem fa32_1 : FA 32 1 1 := fieldAddr_st Tryz.underlying32 rfl (by kernel_rfl)
theorem qfa32_1 : QFA 32 1 1 := qfieldAddr_st Tryz.underlying32 rfl (by kernel_rfl)
theorem fa32_2 : FA 32 2 2 := fieldAddr_st Tryz.underlying32 rfl (by kernel_rfl)
theorem qfa32_2 : QFA 32 2 2 := qfieldAddr_st Tryz.underlying32 rfl (by kernel_rfl)
theorem fa32_3 : FA 32 3 3 := fieldAddr_st Tryz.underlying32 rfl (by kernel_rfl)
theorem qfa32_3 : QFA 32 3 3 := qfieldAddr_st Tryz.underlying32 rfl (by kernel_rfl)
theorem sl33 : SlT Tryz.prog 33 22 1 24 (.slice none 0 0) := .of Tryz.underlying33 (by kernel_rfl) rfl (by decide)
theorem sc33 : ScT Tryz.prog 33 (.slice none 0 0) := .of (by kernel_rfl) (by kernel_rfl)
theorem fa34_0 : FA 34 0 0 := fieldAddr_st Tryz.underlying34 rfl (by kernel_rfl)
theorem qfa34_0 : QFA 34 0 0 := qfieldAddr_st Tryz.underlying34 rfl (by kernel_rfl)
theorem fa34_1 : FA 34 1 1 := fieldAddr_st Tryz.underlying34 rfl (by kernel_rfl)
theorem qfa34_1 : QFA 34 1 1 := qfieldAddr_st Tryz.underlying34 rfl (by kernel_rfl)
theorem fa34_2 : FA 34 2 2 := fieldAddr_st Tryz.underlying34 rfl (by kernel_rfl)
theorem qfa34_2 : QFA 34 2 2 := qfieldAddr_st Tryz.underlying34 rfl (by kernel_rfl)
theorem fa34_3 : FA 34 3 3 := fieldAddr_st Tryz.underlying34 rfl (by kernel_rfl)
theorem qfa34_3 : QFA 34 3 3 := qfieldAddr_st Tryz.underlying34 rfl (by kernel_rfl)
theorem st35 : StT Tryz.prog 35 4 #[(.slice none 0 0), (.int .i64 0), (.slice none 0 0), (.slice none 0 0)] := .of Tryz.underlying35 (by kernel_rfl) rfl
theorem bl35 (ps : List (Nat × Value)) : Tryz.prog.built 35 ps = Instr.fill ((#[(0, 1), (1, 1), (2, 1), (3, 1)] : Array (Nat × Nat))[·]?) #[(.slice none 0 0), (.int .i64 0), (.slice none 0 0), (.slice none 0 0)] ps := by kernel_rfl
theorem fa35_0 : FA 35 0 0 := fieldAddr_st Tryz.underlying35 rfl (by kernel_rfl)
theorem qfa35_0 : QFA 35 0 0 := qfieldAddr_st Tryz.underlying35 rfl (by kernel_rfl)
theorem fa35_1 : FA 35 1 1 := fieldAddr_st Tryz.underlying35 rfl (by kernel_rfl)
theorem qfa35_1 : QFA 35 1 1 := qfieldAddr_st Tryz.underlying35 rfl (by kernel_rfl)
theorem fa35_2 : FA 35 2 2 := fieldAddr_st Tryz.underlying35 rfl (by kernel_rfl)
theorem qfa35_2 : QFA 35 2 2 := qfieldAddr_st Tryz.underlying35 rfl (by kernel_rfl)
theorem fa35_3 : FA 35 3 3 := fieldAddr_st Tryz.underlying35 rfl (by kernel_rfl)
theorem qfa35_3 : QFA 35 3 3 := qfieldAddr_st Tryz.underlying35 rfl (by kernel_rfl)
theorem sl36 : SlT Tryz.prog 36 64 6 88 (.agg #[(.bool false), (.string ⟨#[]⟩), (.int .i64 0), (.int .i64 0), (.slice none 0 0), (.slice none 0 0)]) := .of Tryz.underlying36 (by kernel_rfl) rfl (by decide)
theorem sc36 : ScT Tryz.prog 36 (.slice none 0 0) := .of (by kernel_rfl) (by kernel_rfl)
theorem sl37 : SlT Tryz.prog 37 66 4 72 (.agg #[(.string ⟨#[]⟩), (.int .i64 0), (.slice none 0 0), (.slice none 0 0)]) := .of Tryz.underlying37 (by kernel_rfl) rfl (by decide)
theorem sc37 : ScT Tryz.prog 37 (.slice none 0 0) := .of (by kernel_rfl) (by kernel_rfl)
theorem fa38_0 : FA 38 0 0 := fieldAddr_st Tryz.underlying38 rfl (by kernel_rfl)
theorem qfa38_0 : QFA 38 0 0 := qfieldAddr_st Tryz.underlying38 rfl (by kernel_rfl)
theorem fa38_1 : FA 38 1 1 := fieldAddr_st Tryz.underlying38 rfl (by kernel_rfl)
theorem qfa38_1 : QFA 38 1 1 := qfieldAddr_st Tryz.underlying38 rfl (by kernel_rfl)
theorem fa38_2 : FA 38 2 2 := fieldAddr_st Tryz.underlying38 rfl (by kernel_rfl)
theorem qfa38_2 : QFA 38 2 2 := qfieldAddr_st Tryz.underlying38 rfl (by kernel_rfl)
theorem fa38_3 : FA 38 3 3 := fieldAddr_st Tryz.underlying38 rfl (by kernel_rfl)
theorem qfa38_3 : QFA 38 3 3 := qfieldAddr_st Tryz.underlying38 rfl (by kernel_rfl)
theorem fa38_4 : FA 38 4 7 := fieldAddr_st Tryz.underlying38 rfl (by kernel_rfl)
theorem qfa38_4 : QFA 38 4 7 := qfieldAddr_st Tryz.underlying38 rfl (by kernel_rfl)
theorem fa38_5 : FA 38 5 11 := fieldAddr_st Tryz.underlying38 rfl (by kernel_rfl)
theorem qfa38_5 : QFA 38 5 11 := qfieldAddr_st Tryz.underlying38 rfl (by kernel_rfl)
theorem fa38_6 : FA 38 6 12 := fieldAddr_st Tryz.underlying38 rfl (by kernel_rfl)
theorem qfa38_6 : QFA 38 6 12 := qfieldAddr_st Tryz.underlying38 rfl (by kernel_rfl)
theorem st39 : StT Tryz.prog 39 13 #[(.slice none 0 0), (.int .i64 0), (.int .i64 0), (.slice none 0 0), (.int .i64 0), (.slice none 0 0), (.int .i64 0), (.slice none 0 0), (.int .i64 0), (.slice none 0 0), (.slice none 0 0), (.slice none 0 0), (.slice none 0 0)] := .of Tryz.underlying39 (by kernel_rfl) rfl
theorem bl39 (ps : List (Nat × Value)) : Tryz.prog.built 39 ps = Instr.fill ((#[(0, 1), (1, 1), (2, 1), (3, 4), (7, 4), (11, 1), (12, 1)] : Array (Nat × Nat))[·]?) #[(.slice none 0 0), (.int .i64 0), (.int .i64 0), (.slice none 0 0), (.int .i64 0), (.slice none 0 0), (.int .i64 0), (.slice none 0 0), (.int .i64 0), (.slice none 0 0), (.slice none 0 0), (.slice none 0 0), (.slice none 0 0)] ps := by kernel_rfl
theorem fa39_0 : FA 39 0 0 := fieldAddr_st Tryz.underlying39 rfl (by kernel_rfl)
theorem qfa39_0 : QFA 39 0 0 := qfieldAddr_st Tryz.underlying39 rfl (by kernel_rfl)
theorem fa39_1 : FA 39 1 1 := fieldAddr_st Tryz.underlying39 rfl (by kernel_rfl)
theorem qfa39_1 : QFA 39 1 1 := qfieldAddr_st Tryz.underlying39 rfl (by kernel_rfl)
theorem fa39_2 : FA 39 2 2 := fieldAddr_st Tryz.underlying39 rfl (by kernel_rfl)
theorem qfa39_2 : QFA 39 2 2 := qfieldAddr_st Tryz.underlying39 rfl (by kernel_rfl)
theorem fa39_3 : FA 39 3 3 := fieldAddr_st Tryz.underlying39 rfl (by kernel_rfl)
theorem qfa39_3 : QFA 39 3 3 := qfieldAddr_st Tryz.underlying39 rfl (by kernel_rfl)
theorem fa39_4 : FA 39 4 7 := fieldAddr_st Tryz.underlying39 rfl (by kernel_rfl)
theorem qfa39_4 : QFA 39 4 7 := qfieldAddr_st Tryz.underlying39 rfl (by kernel_rfl)
theorem fa39_5 : FA 39 5 11 := fieldAddr_st Tryz.underlying39 rfl (by kernel_rfl)
theorem qfa39_5 : QFA 39 5 11 := qfieldAddr_st Tryz.underlying39 rfl (by kernel_rfl)
theorem fa39_6 : FA 39 6 12 := fieldAddr_st Tryz.underlying39 rfl (by kernel_rfl)
theorem qfa39_6 : QFA 39 6 12 := qfieldAddr_st Tryz.underlying39 rfl (by kernel_rfl)
theorem sl55 : SlT Tryz.prog 55 3 1 8 (.int .i64 0) := .of Tryz.underlying55 (by kernel_rfl) rfl (by decide)
theorem fa56_0 : FA 56 0 0 := fieldAddr_st Tryz.underlying56 rfl (by kernel_rfl)
theorem qfa56_0 : QFA 56 0 0 := qfieldAddr_st Tryz.underlying56 rfl (by kernel_rfl)
theorem fa56_1 : FA 56 1 1 := fieldAddr_st Tryz.underlying56 rfl (by kernel_rfl)
theorem qfa56_1 : QFA 56 1 1 := qfieldAddr_st Tryz.underlying56 rfl (by kernel_rfl)
theorem fa56_2 : FA 56 2 2 := fieldAddr_st Tryz.underlying56 rfl (by kernel_rfl)
theorem qfa56_2 : QFA 56 2 2 := qfieldAddr_st Tryz.underlying56 rfl (by kernel_rfl)
theorem bl57 (ps : List (Nat × Value)) : Tryz.prog.built 57 ps = Instr.fill ((#[(0, 1), (1, 1), (2, 1)] : Array (Nat × Nat))[·]?) #[(.slice none 0 0), (.int .i64 0), (.int .i64 0)] ps := by kernel_rfl
theorem fa57_0 : FA 57 0 0 := fieldAddr_st Tryz.underlying57 rfl (by kernel_rfl)
theorem qfa57_0 : QFA 57 0 0 := qfieldAddr_st Tryz.underlying57 rfl (by kernel_rfl)
theorem fa57_1 : FA 57 1 1 := fieldAddr_st Tryz.underlying57 rfl (by kernel_rfl)
theorem qfa57_1 : QFA 57 1 1 := qfieldAddr_st Tryz.underlying57 rfl (by kernel_rfl)
theorem fa57_2 : FA 57 2 2 := fieldAddr_st Tryz.underlying57 rfl (by kernel_rfl)
theorem qfa57_2 : QFA 57 2 2 := qfieldAddr_st Tryz.underlying57 rfl (by kernel_rfl)
theorem sl60 : SlT Tryz.prog 60 9 1 16 (.string ⟨#[]⟩) := .of Tryz.underlying60 (by kernel_rfl) rfl (by decide)
theorem fa63_0 : FA 63 0 0 := fieldAddr_st Tryz.underlying63 rfl (by kernel_rfl)
theorem qfa63_0 : QFA 63 0 0 := qfieldAddr_st Tryz.underlying63 rfl (by kernel_rfl)
theorem fa63_1 : FA 63 1 1 := fieldAddr_st Tryz.underlying63 rfl (by kernel_rfl)
theorem qfa63_1 : QFA 63 1 1 := qfieldAddr_st Tryz.underlying63 rfl (by kernel_rfl)
theorem fa63_2 : FA 63 2 5 := fieldAddr_st Tryz.underlying63 rfl (by kernel_rfl)
theorem qfa63_2 : QFA 63 2 5 := qfieldAddr_st Tryz.underlying63 rfl (by kernel_rfl)
theorem st64 : StT Tryz.prog 64 6 #[(.bool false), (.string ⟨#[]⟩), (.int .i64 0), (.int .i64 0), (.slice none 0 0), (.slice none 0 0)] := .of Tryz.underlying64 (by kernel_rfl) rfl
theorem bl64 (ps : List (Nat × Value)) : Tryz.prog.built 64 ps = Instr.fill ((#[(0, 1), (1, 4), (5, 1)] : Array (Nat × Nat))[·]?) #[(.bool false), (.string ⟨#[]⟩), (.int .i64 0), (.int .i64 0), (.slice none 0 0), (.slice none 0 0)] ps := by kernel_rfl
theorem fa64_0 : FA 64 0 0 := fieldAddr_st Tryz.underlying64 rfl (by kernel_rfl)
theorem qfa64_0 : QFA 64 0 0 := qfieldAddr_st Tryz.underlying64 rfl (by kernel_rfl)
theorem fa64_1 : FA 64 1 1 := fieldAddr_st Tryz.underlying64 rfl (by kernel_rfl)
theorem qfa64_1 : QFA 64 1 1 := qfieldAddr_st Tryz.underlying64 rfl (by kernel_rfl)
theorem fa64_2 : FA 64 2 5 := fieldAddr_st Tryz.underlying64 rfl (by kernel_rfl)
theorem qfa64_2 : QFA 64 2 5 := qfieldAddr_st Tryz.underlying64 rfl (by kernel_rfl)
theorem fa65_0 : FA 65 0 0 := fieldAddr_st Tryz.underlying65 rfl (by kernel_rfl)
theorem qfa65_0 : QFA 65 0 0 := qfieldAddr_st Tryz.underlying65 rfl (by kernel_rfl)
theorem fa65_1 : FA 65 1 1 := fieldAddr_st Tryz.underlying65 rfl (by kernel_rfl)
theorem qfa65_1 : QFA 65 1 1 := qfieldAddr_st Tryz.underlying65 rfl (by kernel_rfl)
theorem fa65_2 : FA 65 2 2 := fieldAddr_st Tryz.underlying65 rfl (by kernel_rfl)
theorem qfa65_2 : QFA 65 2 2 := qfieldAddr_st Tryz.underlying65 rfl (by kernel_rfl)
theorem fa65_3 : FA 65 3 3 := fieldAddr_st Tryz.underlying65 rfl (by kernel_rfl)
theorem qfa65_3 : QFA 65 3 3 := qfieldAddr_st Tryz.underlying65 rfl (by kernel_rfl)
theorem st66 : StT Tryz.prog 66 4 #[(.string ⟨#[]⟩), (.int .i64 0), (.slice none 0 0), (.slice none 0 0)] := .of Tryz.underlying66 (by kernel_rfl) rfl
theorem bl66 (ps : List (Nat × Value)) : Tryz.prog.built 66 ps = Instr.fill ((#[(0, 1), (1, 1), (2, 1), (3, 1)] : Array (Nat × Nat))[·]?) #[(.string ⟨#[]⟩), (.int .i64 0), (.slice none 0 0), (.slice none 0 0)] ps := by kernel_rfl
theorem fa66_0 : FA 66 0 0 := fieldAddr_st Tryz.underlying66 rfl (by kernel_rfl)
theorem qfa66_0 : QFA 66 0 0 := qfieldAddr_st Tryz.underlying66 rfl (by kernel_rfl)
theorem fa66_1 : FA 66 1 1 := fieldAddr_st Tryz.underlying66 rfl (by kernel_rfl)
theorem qfa66_1 : QFA 66 1 1 := qfieldAddr_st Tryz.underlying66 rfl (by kernel_rfl)
theorem fa66_2 : FA 66 2 2 := fieldAddr_st Tryz.underlying66 rfl (by kernel_rfl)
theorem qfa66_2 : QFA 66 2 2 := qfieldAddr_st Tryz.underlying66 rfl (by kernel_rfl)
theorem fa66_3 : FA 66 3 3 := fieldAddr_st Tryz.underlying66 rfl (by kernel_rfl)
theorem qfa66_3 : QFA 66 3 3 := qfieldAddr_st Tryz.underlying66 rfl (by kernel_rfl)
theorem sl69 : SlT Tryz.prog 69 78 4 48 (.agg #[(.int .i64 0), (.int .i64 0), (.int .i64 0), (.slice none 0 0)]) := .of Tryz.underlying69 (by kernel_rfl) rfl (by decide)
theorem fa77_0 : FA 77 0 0 := fieldAddr_st Tryz.underlying77 rfl (by kernel_rfl)
theorem qfa77_0 : QFA 77 0 0 := qfieldAddr_st Tryz.underlying77 rfl (by kernel_rfl)
theorem fa77_1 : FA 77 1 1 := fieldAddr_st Tryz.underlying77 rfl (by kernel_rfl)
theorem qfa77_1 : QFA 77 1 1 := qfieldAddr_st Tryz.underlying77 rfl (by kernel_rfl)
theorem fa77_2 : FA 77 2 2 := fieldAddr_st Tryz.underlying77 rfl (by kernel_rfl)
theorem qfa77_2 : QFA 77 2 2 := qfieldAddr_st Tryz.underlying77 rfl (by kernel_rfl)
theorem fa77_3 : FA 77 3 3 := fieldAddr_st Tryz.underlying77 rfl (by kernel_rfl)
theorem qfa77_3 : QFA 77 3 3 := qfieldAddr_st Tryz.underlying77 rfl (by kernel_rfl)
theorem st78 : StT Tryz.prog 78 4 #[(.int .i64 0), (.int .i64 0), (.int .i64 0), (.slice none 0 0)] := .of Tryz.underlying78 (by kernel_rfl) rfl
theorem bl78 (ps : List (Nat × Value)) : Tryz.prog.built 78 ps = Instr.fill ((#[(0, 1), (1, 1), (2, 1), (3, 1)] : Array (Nat × Nat))[·]?) #[(.int .i64 0), (.int .i64 0), (.int .i64 0), (.slice none 0 0)] ps := by kernel_rfl
theorem fa78_0 : FA 78 0 0 := fieldAddr_st Tryz.underlying78 rfl (by kernel_rfl)
theorem qfa78_0 : QFA 78 0 0 := qfieldAddr_st Tryz.underlying78 rfl (by kernel_rfl)
theorem fa78_1 : FA 78 1 1 := fieldAddr_st Tryz.underlying78 rfl (by kernel_rfl)
theorem qfa78_1 : QFA 78 1 1 := qfieldAddr_st Tryz.underlying78 rfl (by kernel_rfl)
theorem fa78_2 : FA 78 2 2 := fieldAddr_st Tryz.underlying78 rfl (by kernel_rfl)
theorem qfa78_2 : QFA 78 2 2 := qfieldAddr_st Tryz.underlying78 rfl (by kernel_rfl)
theorem fa78_3 : FA 78 3 3 := fieldAddr_st Tryz.underlying78 rfl (by kernel_rfl)
theorem qfa78_3 : QFA 78 3 3 := qfieldAddr_st Tryz.underlying78 rfl (by kernel_rfl)
theorem fa102_0 : FA 102 0 0 := fieldAddr_st Tryz.underlying102 rfl (by kernel_rfl)
theorem qfa102_0 : QFA 102 0 0 := qfieldAddr_st Tryz.underlying102 rfl (by kernel_rfl)
theorem fa102_1 : FA 102 1 1 := fieldAddr_st Tryz.underlying102 rfl (by kernel_rfl)
theorem qfa102_1 : QFA 102 1 1 := qfieldAddr_st Tryz.underlying102 rfl (by kernel_rfl)
theorem fa102_2 : FA 102 2 2 := fieldAddr_st Tryz.underlying102 rfl (by kernel_rfl)
theorem qfa102_2 : QFA 102 2 2 := qfieldAddr_st Tryz.underlying102 rfl (by kernel_rfl)
theorem fa102_3 : FA 102 3 3 := fieldAddr_st Tryz.underlying102 rfl (by kernel_rfl)
theorem qfa102_3 : QFA 102 3 3 := qfieldAddr_st Tryz.underlying102 rfl (by kernel_rfl)
theorem fa102_4 : FA 102 4 4 := fieldAddr_st Tryz.underlying102 rfl (by kernel_rfl)
theorem qfa102_4 : QFA 102 4 4 := qfieldAddr_st Tryz.underlying102 rfl (by kernel_rfl)
theorem st103 : StT Tryz.prog 103 5 #[(.int .i64 0), (.string ⟨#[]⟩), (.int .i64 0), (.int .i64 0), (.slice none 0 0)] := .of Tryz.underlying103 (by kernel_rfl) rfl
theorem bl103 (ps : List (Nat × Value)) : Tryz.prog.built 103 ps = Instr.fill ((#[(0, 1), (1, 1), (2, 1), (3, 1), (4, 1)] : Array (Nat × Nat))[·]?) #[(.int .i64 0), (.string ⟨#[]⟩), (.int .i64 0), (.int .i64 0), (.slice none 0 0)] ps := by kernel_rfl
theorem fa103_0 : FA 103 0 0 := fieldAddr_st Tryz.underlying103 rfl (by kernel_rfl)
theorem qfa103_0 : QFA 103 0 0 := qfieldAddr_st Tryz.underlying103 rfl (by kernel_rfl)
theorem fa103_1 : FA 103 1 1 := fieldAddr_st Tryz.underlying103 rfl (by kernel_rfl)
theorem qfa103_1 : QFA 103 1 1 := qfieldAddr_st Tryz.underlying103 rfl (by kernel_rfl)
theorem fa103_2 : FA 103 2 2 := fieldAddr_st Tryz.underlying103 rfl (by kernel_rfl)
theorem qfa103_2 : QFA 103 2 2 := qfieldAddr_st Tryz.underlying103 rfl (by kernel_rfl)
theorem fa103_3 : FA 103 3 3 := fieldAddr_st Tryz.underlying103 rfl (by kernel_rfl)
theorem qfa103_3 : QFA 103 3 3 := qfieldAddr_st Tryz.underlying103 rfl (by kernel_rfl)
theorem fa103_4 : FA 103 4 4 := fieldAddr_st Tryz.underlying103 rfl (by kernel_rfl)
theorem qfa103_4 : QFA 103 4 4 := qfieldAddr_st Tryz.underlying103 rfl (by kernel_rfl)
theorem en2 : entersB Tryz.prog 2 = true := by kernel_rfl
theorem en3 : entersB Tryz.prog 3 = true := by kernel_rfl
theorem en4 : entersB Tryz.prog 4 = true := by kernel_rfl
theorem en5 : entersB Tryz.prog 5 = true := by kernel_rfl
theorem en6 : entersB Tryz.prog 6 = true := by kernel_rfl
theorem en7 : entersB Tryz.prog 7 = true := by kernel_rfl
theorem en8 : entersB Tryz.prog 8 = true := by kernel_rfl
theorem en9 : entersB Tryz.prog 9 = true := by kernel_rfl
theorem en10 : entersB Tryz.prog 10 = true := by kernel_rfl
theorem en11 : entersB Tryz.prog 11 = true := by kernel_rfl
theorem en12 : entersB Tryz.prog 12 = true := by kernel_rfl
theorem en13 : entersB Tryz.prog 13 = true := by kernel_rfl
theorem en14 : entersB Tryz.prog 14 = true := by kernel_rfl
theorem en15 : entersB Tryz.prog 15 = true := by kernel_rfl
theorem en16 : entersB Tryz.prog 16 = true := by kernel_rfl
theorem en17 : entersB Tryz.prog 17 = true := by kernel_rfl
theorem en18 : entersB Tryz.prog 18 = true := by kernel_rfl
theorem en19 : entersB Tryz.prog 19 = true := by kernel_rfl
theorem en20 : entersB Tryz.prog 20 = true := by kernel_rfl
theorem en21 : entersB Tryz.prog 21 = true := by kernel_rfl
theorem en22 : entersB Tryz.prog 22 = true := by kernel_rfl
theorem en23 : entersB Tryz.prog 23 = true := by kernel_rfl
theorem en24 : entersB Tryz.prog 24 = true := by kernel_rfl
theorem en25 : entersB Tryz.prog 25 = true := by kernel_rfl
theorem en26 : entersB Tryz.prog 26 = true := by kernel_rfl
theorem en27 : entersB Tryz.prog 27 = true := by kernel_rfl
theorem en28 : entersB Tryz.prog 28 = true := by kernel_rfl
theorem en29 : entersB Tryz.prog 29 = true := by kernel_rfl
theorem en30 : entersB Tryz.prog 30 = true := by kernel_rfl
theorem en31 : entersB Tryz.prog 31 = true := by kernel_rfl
theorem en32 : entersB Tryz.prog 32 = true := by kernel_rfl
theorem en33 : entersB Tryz.prog 33 = true := by kernel_rfl
theorem en34 : entersB Tryz.prog 34 = true := by kernel_rfl
theorem en35 : entersB Tryz.prog 35 = true := by kernel_rfl
theorem en36 : entersB Tryz.prog 36 = true := by kernel_rfl
theorem en37 : entersB Tryz.prog 37 = true := by kernel_rfl
theorem en38 : entersB Tryz.prog 38 = true := by kernel_rfl
theorem en39 : entersB Tryz.prog 39 = true := by kernel_rfl
theorem en40 : entersB Tryz.prog 40 = true := by kernel_rfl
theorem en41 : entersB Tryz.prog 41 = true := by kernel_rfl
theorem en42 : entersB Tryz.prog 42 = true := by kernel_rfl
theorem en43 : entersB Tryz.prog 43 = true := by kernel_rfl
theorem en44 : entersB Tryz.prog 44 = true := by kernel_rfl
theorem en45 : entersB Tryz.prog 45 = true := by kernel_rfl
theorem en46 : entersB Tryz.prog 46 = true := by kernel_rfl
theorem en47 : entersB Tryz.prog 47 = true := by kernel_rfl
theorem en48 : entersB Tryz.prog 48 = true := by kernel_rfl
theorem en49 : entersB Tryz.prog 49 = true := by kernel_rfl
theorem en50 : entersB Tryz.prog 50 = true := by kernel_rfl
theorem en51 : entersB Tryz.prog 51 = true := by kernel_rfl
theorem en52 : entersB Tryz.prog 52 = true := by kernel_rfl
theorem en53 : entersB Tryz.prog 53 = true := by kernel_rfl
theorem en54 : entersB Tryz.prog 54 = true := by kernel_rfl
theorem en55 : entersB Tryz.prog 55 = true := by kernel_rfl
theorem en56 : entersB Tryz.prog 56 = true := by kernel_rfl
theorem en57 : entersB Tryz.prog 57 = true := by kernel_rfl
theorem en58 : entersB Tryz.prog 58 = true := by kernel_rfl
theorem en59 : entersB Tryz.prog 59 = true := by kernel_rfl
theorem en60 : entersB Tryz.prog 60 = true := by kernel_rfl
theorem en61 : entersB Tryz.prog 61 = true := by kernel_rfl
theorem en62 : entersB Tryz.prog 62 = true := by kernel_rfl
theorem en63 : entersB Tryz.prog 63 = true := by kernel_rfl
theorem en64 : entersB Tryz.prog 64 = true := by kernel_rfl
theorem en65 : entersB Tryz.prog 65 = true := by kernel_rfl
theorem en66 : entersB Tryz.prog 66 = true := by kernel_rfl
theorem en67 : entersB Tryz.prog 67 = true := by kernel_rfl
theorem en68 : entersB Tryz.prog 68 = true := by kernel_rfl
theorem en69 : entersB Tryz.prog 69 = true := by kernel_rfl
theorem en70 : entersB Tryz.prog 70 = true := by kernel_rfl
theorem en71 : entersB Tryz.prog 71 = true := by kernel_rfl
theorem en72 : entersB Tryz.prog 72 = true := by kernel_rfl
theorem en73 : entersB Tryz.prog 73 = true := by kernel_rfl
theorem en74 : entersB Tryz.prog 74 = true := by kernel_rfl
theorem en75 : entersB Tryz.prog 75 = true := by kernel_rfl
theorem en76 : entersB Tryz.prog 76 = true := by kernel_rfl
theorem en77 : entersB Tryz.prog 77 = true := by kernel_rfl
theorem en78 : entersB Tryz.prog 78 = true := by kernel_rfl
theorem en79 : entersB Tryz.prog 79 = true := by kernel_rfl
theorem en80 : entersB Tryz.prog 80 = true := by kernel_rfl
theorem en81 : entersB Tryz.prog 81 = true := by kernel_rfl
theorem en82 : entersB Tryz.prog 82 = true := by kernel_rfl
theorem en83 : entersB Tryz.prog 83 = true := by kernel_rfl
theorem en84 : entersB Tryz.prog 84 = true := by kernel_rfl
theorem en85 : entersB Tryz.prog 85 = true := by kernel_rfl
theorem en86 : entersB Tryz.prog 86 = true := by kernel_rfl
theorem en87 : entersB Tryz.prog 87 = true := by kernel_rfl
theorem en88 : entersB Tryz.prog 88 = true := by kernel_rfl
theorem en89 : entersB Tryz.prog 89 = true := by kernel_rfl
theorem en90 : entersB Tryz.prog 90 = true := by kernel_rfl
theorem en91 : entersB Tryz.prog 91 = true := by kernel_rfl
theorem en92 : entersB Tryz.prog 92 = true := by kernel_rfl
theorem en93 : entersB Tryz.prog 93 = true := by kernel_rfl
theorem en94 : entersB Tryz.prog 94 = true := by kernel_rfl
theorem en95 : entersB Tryz.prog 95 = true := by kernel_rfl
theorem en96 : entersB Tryz.prog 96 = true := by kernel_rfl
theorem en97 : entersB Tryz.prog 97 = true := by kernel_rfl
theorem en98 : entersB Tryz.prog 98 = true := by kernel_rfl
theorem en99 : entersB Tryz.prog 99 = true := by kernel_rfl
theorem en100 : entersB Tryz.prog 100 = true := by kernel_rfl
theorem en101 : entersB Tryz.prog 101 = true := by kernel_rfl
theorem en102 : entersB Tryz.prog 102 = true := by kernel_rfl
theorem en103 : entersB Tryz.prog 103 = true := by kernel_rfl
theorem en104 : entersB Tryz.prog 104 = true := by kernel_rfl
theorem en105 : entersB Tryz.prog 105 = true := by kernel_rfl
theorem en106 : entersB Tryz.prog 106 = true := by kernel_rfl
theorem en107 : entersB Tryz.prog 107 = true := by kernel_rfl
theorem en108 : entersB Tryz.prog 108 = true := by kernel_rfl
theorem en109 : entersB Tryz.prog 109 = true := by kernel_rfl
theorem en110 : entersB Tryz.prog 110 = true := by kernel_rfl
theorem en111 : entersB Tryz.prog 111 = true := by kernel_rfl
theorem en112 : entersB Tryz.prog 112 = true := by kernel_rfl
theorem en113 : entersB Tryz.prog 113 = true := by kernel_rfl
theorem en114 : entersB Tryz.prog 114 = true := by kernel_rfl
theorem en115 : entersB Tryz.prog 115 = true := by kernel_rfl
theorem en116 : entersB Tryz.prog 116 = true := by kernel_rfl
theorem en117 : entersB Tryz.prog 117 = true := by kernel_rfl
theorem en118 : entersB Tryz.prog 118 = true := by kernel_rfl
theorem en119 : entersB Tryz.prog 119 = true := by kernel_rfl
theorem en120 : entersB Tryz.prog 120 = true := by kernel_rfl
theorem en121 : entersB Tryz.prog 121 = true := by kernel_rfl
theorem en122 : entersB Tryz.prog 122 = true := by kernel_rfl
theorem en123 : entersB Tryz.prog 123 = true := by kernel_rfl
theorem en124 : entersB Tryz.prog 124 = true := by kernel_rfl
theorem en125 : entersB Tryz.prog 125 = true := by kernel_rfl
theorem en126 : entersB Tryz.prog 126 = true := by kernel_rfl
theorem en127 : entersB Tryz.prog 127 = true := by kernel_rfl
theorem en128 : entersB Tryz.prog 128 = true := by kernel_rfl
theorem en129 : entersB Tryz.prog 129 = true := by kernel_rfl
theorem en130 : entersB Tryz.prog 130 = true := by kernel_rfl
theorem en131 : entersB Tryz.prog 131 = true := by kernel_rfl
theorem en132 : entersB Tryz.prog 132 = true := by kernel_rfl
theorem en133 : entersB Tryz.prog 133 = true := by kernel_rfl
theorem en134 : entersB Tryz.prog 134 = true := by kernel_rfl
theorem en135 : entersB Tryz.prog 135 = true := by kernel_rfl
theorem en136 : entersB Tryz.prog 136 = true := by kernel_rfl
theorem en137 : entersB Tryz.prog 137 = true := by kernel_rfl
theorem en138 : entersB Tryz.prog 138 = true := by kernel_rfl
theorem en139 : entersB Tryz.prog 139 = true := by kernel_rfl
theorem en140 : entersB Tryz.prog 140 = true := by kernel_rfl
theorem en141 : entersB Tryz.prog 141 = true := by kernel_rfl
theorem en142 : entersB Tryz.prog 142 = true := by kernel_rfl
theorem en143 : entersB Tryz.prog 143 = true := by kernel_rfl
theorem en144 : entersB Tryz.prog 144 = true := by kernel_rfl
theorem en145 : entersB Tryz.prog 145 = true := by kernel_rfl
theorem en146 : entersB Tryz.prog 146 = true := by kernel_rfl
theorem en147 : entersB Tryz.prog 147 = true := by kernel_rfl
theorem en148 : entersB Tryz.prog 148 = true := by kernel_rfl
theorem en149 : entersB Tryz.prog 149 = true := by kernel_rfl
theorem en150 : entersB Tryz.prog 150 = true := by kernel_rfl
theorem en151 : entersB Tryz.prog 151 = true := by kernel_rfl
theorem en152 : entersB Tryz.prog 152 = true := by kernel_rfl
theorem en153 : entersB Tryz.prog 153 = true := by kernel_rfl
theorem en154 : entersB Tryz.prog 154 = true := by kernel_rfl
theorem en155 : entersB Tryz.prog 155 = true := by kernel_rfl
theorem en156 : entersB Tryz.prog 156 = true := by kernel_rfl
theorem en157 : entersB Tryz.prog 157 = true := by kernel_rfl
theorem en158 : entersB Tryz.prog 158 = true := by kernel_rfl
theorem en159 : entersB Tryz.prog 159 = true := by kernel_rfl
theorem en181 : entersB Tryz.prog 181 = true := by kernel_rfl
theorem vs {G G' : Prop} (h : G') (e : G = G' := by (simp -dsimp -implicitDefEqProofs only [ac_skip, ac_region, ac_draw, ac_seq, ac_cond, br_bool, if_true, if_false, if_not, ac_block, ac_loop, ac_exit, ac_ret, then_normal, then_exit, then_ret, block_normal, block_exit, block_ret, ret_ret, ret_normal, as_nil, as_cons, as_guard, putS_some, putS_none, ev_tmp, ev_const, ev_func, upd_at, argS_nil, argS_cons, yl_at, boolOf_bool, some_bool, boolOf_undef, none_bool,
      o_move, o_assign, o_pick, pick_bool, o_alloc, o_box, o_build, o_buildSlice, o_load, o_store, o_bin, o_un, o_convert, o_makeFunc, o_makeSlice, o_slice, o_fieldAddr, o_field, o_indexAddr, o_index, o_extract, o_callv, o_len, o_append, o_copy, o_clear, o_min, o_max,
      b_add, b_sub, b_mul, b_lss, b_leq, b_gtr, b_geq, b_eql, b_neq, u_not, u_neg, wrap_i64, wrap_u8, extract_eq, b_and, b_or, b_xor, b_shl, b_shr, b_shl_lit, b_shr_lit, b_seql, b_sneq, qb_and, qb_or, qb_xor, qb_shl, qb_shr, qb_shl_lit, qb_shr_lit, qb_seql, qb_sneq, add_zero', Kd.add_at, Nat.zero_add, adA_some, Nat.mul_one, Int.toNat_natCast,
      encB_def, enc_inj, w64_u8, slots_nil, slots_cons, putAll_nil, putAll_cons, dp_nil, dp_take, dp_all, wanted_none, wanted_some, q_move, q_assign, q_pick, qpick_bool, q_load, q_bin, q_un, q_convert, q_slice, q_fieldAddr, q_indexAddr, q_index, q_extract, q_build, q_len, qb_add, qb_sub, qb_mul, qb_lss, qb_leq, qb_gtr, qb_geq, qb_eql, qb_neq, qu_not,
      resOf, oneOf, List.getElem?_cons_zero, List.getElem?_cons_succ, List.getElem?_nil, Option.bind_some, Option.bind_none, List.map_cons, List.map_nil, Option.map_some, Option.map_none, Value.cells, Option.some.injEq, exists_eq_left', exists_eq_left,
      decide_eq_true_eq, decide_eq_false_iff_not, Bool.not_eq_true', Bool.not_eq_false', Bool.not_true, Bool.not_false, Bool.true_eq_false, Bool.false_eq_true, decide_not, decide_true, decide_false, not_true_eq_false, not_false_eq_true, ↓reduceIte, Nat.reduceAdd, Nat.reduceEqDiff, reduceCtorEq, Int.ofNat_zero, Int.natCast_zero, eq_self, true_and, and_true, false_and, and_false,
      len_str Tryz.underlying9, qlen_str Tryz.underlying9, fa13_0, qfa13_0, fa13_1, qfa13_1, len_slice Tryz.underlying22, qlen_slice Tryz.underlying22, fa24_0, qfa24_0, fa24_1, qfa24_1, fa24_2, qfa24_2, fa25_0, qfa25_0, fa25_1, qfa25_1, fa25_2, qfa25_2, fa27_0, qfa27_0, fa27_1, qfa27_1, fa27_2, qfa27_2, fa27_3, qfa27_3, fa28_0, qfa28_0, fa28_1, qfa28_1, fa28_2, qfa28_2, fa28_3, qfa28_3, len_slice Tryz.underlying30, qlen_slice Tryz.underlying30, fa31_0, qfa31_0, fa31_1, qfa31_1, fa31_2, qfa31_2, fa31_3, qfa31_3, fa32_0, qfa32_0, fa32_1, qfa32_1, fa32_2, qfa32_2, fa32_3, qfa32_3, len_slice Tryz.underlying33, qlen_slice Tryz.underlying33, fa34_0, qfa34_0, fa34_1, qfa34_1, fa34_2, qfa34_2, fa34_3, qfa34_3, fa35_0, qfa35_0, fa35_1, qfa35_1, fa35_2, qfa35_2, fa35_3, qfa35_3, len_slice Tryz.underlying36, qlen_slice Tryz.underlying36, len_slice Tryz.underlying37, qlen_slice Tryz.underlying37, fa38_0, qfa38_0, fa38_1, qfa38_1, fa38_2, qfa38_2, fa38_3, qfa38_3, fa38_4, qfa38_4, fa38_5, qfa38_5, fa38_6, qfa38_6, fa39_0, qfa39_0, fa39_1, qfa39_1, fa39_2, qfa39_2, fa39_3, qfa39_3, fa39_4, qfa39_4, fa39_5, qfa39_5, fa39_6, qfa39_6, len_slice Tryz.underlying55, qlen_slice Tryz.underlying55, fa56_0, qfa56_0, fa56_1, qfa56_1, fa56_2, qfa56_2, fa57_0, qfa57_0, fa57_1, qfa57_1, fa57_2, qfa57_2, len_slice Tryz.underlying60, qlen_slice Tryz.underlying60, fa63_0, qfa63_0, fa63_1, qfa63_1, fa63_2, qfa63_2, fa64_0, qfa64_0, fa64_1, qfa64_1, fa64_2, qfa64_2, fa65_0, qfa65_0, fa65_1, qfa65_1, fa65_2, qfa65_2, fa65_3, qfa65_3, fa66_0, qfa66_0, fa66_1, qfa66_1, fa66_2, qfa66_2, fa66_3, qfa66_3, len_slice Tryz.underlying69, qlen_slice Tryz.underlying69, fa77_0, qfa77_0, fa77_1, qfa77_1, fa77_2, qfa77_2, fa77_3, qfa77_3, fa78_0, qfa78_0, fa78_1, qfa78_1, fa78_2, qfa78_2, fa78_3, qfa78_3, fa102_0, qfa102_0, fa102_1, qfa102_1, fa102_2, qfa102_2, fa102_3, qfa102_3, fa102_4, qfa102_4, fa103_0, qfa103_0, fa103_1, qfa103_1, fa103_2, qfa103_2, fa103_3, qfa103_3, fa103_4, qfa103_4, cv_int Tryz.underlying2 Tryz.underlying110, qcv_int Tryz.underlying2 Tryz.underlying110, cv_int Tryz.underlying3 Tryz.underlying5, qcv_int Tryz.underlying3 Tryz.underlying5, cv_int Tryz.underlying3 Tryz.underlying67, qcv_int Tryz.underlying3 Tryz.underlying67, cv_int Tryz.underlying3 Tryz.underlying110, qcv_int Tryz.underlying3 Tryz.underlying110, cv_int Tryz.underlying5 Tryz.underlying3, qcv_int Tryz.underlying5 Tryz.underlying3, cv_int Tryz.underlying67 Tryz.underlying139, qcv_int Tryz.underlying67 Tryz.underlying139, cv_int Tryz.underlying110 Tryz.underlying5, qcv_int Tryz.underlying110 Tryz.underlying5, cv_int Tryz.underlying110 Tryz.underlying139, qcv_int Tryz.underlying110 Tryz.underlying139, cv_int Tryz.underlying139 Tryz.underlying5, qcv_int Tryz.underlying139 Tryz.underlying5, b_beql Tryz.underlying4, b_bneq Tryz.underlying4, qb_beql Tryz.underlying4, qb_bneq Tryz.underlying4, o_call en2, o_call en3, o_call en4, o_call en5, o_call en6, o_call en7, o_call en8, o_call en9, o_call en10, o_call en11, o_call en12, o_call en13, o_call en14, o_call en15, o_call en16, o_call en17, o_call en18, o_call en19, o_call en20, o_call en21, o_call en22, o_call en23, o_call en24, o_call en25, o_call en26, o_call en27, o_call en28, o_call en29, o_call en30, o_call en31, o_call en32, o_call en33, o_call en34, o_call en35, o_call en36, o_call en37, o_call en38, o_call en39, o_call en40, o_call en41, o_call en42, o_call en43, o_call en44, o_call en45, o_call en46, o_call en47, o_call en48, o_call en49, o_call en50, o_call en51, o_call en52, o_call en53, o_call en54, o_call en55, o_call en56, o_call en57, o_call en58, o_call en59, o_call en60, o_call en61, o_call en62, o_call en63, o_call en64, o_call en65, o_call en66, o_call en67, o_call en68, o_call en69, o_call en70, o_call en71, o_call en72, o_call en73, o_call en74, o_call en75, o_call en76, o_call en77, o_call en78, o_call en79, o_call en80, o_call en81, o_call en82, o_call en83, o_call en84, o_call en85, o_call en86, o_call en87, o_call en88, o_call en89, o_call en90, o_call en91, o_call en92, o_call en93, o_call en94, o_call en95, o_call en96, o_call en97, o_call en98, o_call en99, o_call en100, o_call en101, o_call en102, o_call en103, o_call en104, o_call en105, o_call en106, o_call en107, o_call en108, o_call en109, o_call en110, o_call en111, o_call en112, o_call en113, o_call en114, o_call en115, o_call en116, o_call en117, o_call en118, o_call en119, o_call en120, o_call en121, o_call en122, o_call en123, o_call en124, o_call en125, o_call en126, o_call en127, o_call en128, o_call en129, o_call en130, o_call en131, o_call en132, o_call en133, o_call en134, o_call en135, o_call en136, o_call en137, o_call en138, o_call en139, o_call en140, o_call en141, o_call en142, o_call en143, o_call en144, o_call en145, o_call en146, o_call en147, o_call en148, o_call en149, o_call en150, o_call en151, o_call en152, o_call en153, o_call en154, o_call en155, o_call en156, o_call en157, o_call en158, o_call en159, o_call en181]) <;> first | exact rfl | exact eq_true rfl) : G := e.mpr h
theorem vh {p G G' : Prop} (h : p → G') (e : p → G = G' := by
    intro hp
    (simp -dsimp -implicitDefEqProofs only [ac_skip, ac_region, ac_draw, ac_seq, ac_cond, br_bool, if_true, if_false, if_not, ac_block, ac_loop, ac_exit, ac_ret, then_normal, then_exit, then_ret, block_normal, block_exit, block_ret, ret_ret, ret_normal, as_nil, as_cons, as_guard, putS_some, putS_none, ev_tmp, ev_const, ev_func, upd_at, argS_nil, argS_cons, yl_at, boolOf_bool, some_bool, boolOf_undef, none_bool,
      o_move, o_assign, o_pick, pick_bool, o_alloc, o_box, o_build, o_buildSlice, o_load, o_store, o_bin, o_un, o_convert, o_makeFunc, o_makeSlice, o_slice, o_fieldAddr, o_field, o_indexAddr, o_index, o_extract, o_callv, o_len, o_append, o_copy, o_clear, o_min, o_max,
      b_add, b_sub, b_mul, b_lss, b_leq, b_gtr, b_geq, b_eql, b_neq, u_not, u_neg, wrap_i64, wrap_u8, extract_eq, b_and, b_or, b_xor, b_shl, b_shr, b_shl_lit, b_shr_lit, b_seql, b_sneq, qb_and, qb_or, qb_xor, qb_shl, qb_shr, qb_shl_lit, qb_shr_lit, qb_seql, qb_sneq, add_zero', Kd.add_at, Nat.zero_add, adA_some, Nat.mul_one, Int.toNat_natCast,
      encB_def, enc_inj, w64_u8, slots_nil, slots_cons, putAll_nil, putAll_cons, dp_nil, dp_take, dp_all, wanted_none, wanted_some, q_move, q_assign, q_pick, qpick_bool, q_load, q_bin, q_un, q_convert, q_slice, q_fieldAddr, q_indexAddr, q_index, q_extract, q_build, q_len, qb_add, qb_sub, qb_mul, qb_lss, qb_leq, qb_gtr, qb_geq, qb_eql, qb_neq, qu_not,
      resOf, oneOf, List.getElem?_cons_zero, List.getElem?_cons_succ, List.getElem?_nil, Option.bind_some, Option.bind_none, List.map_cons, List.map_nil, Option.map_some, Option.map_none, Value.cells, Option.some.injEq, exists_eq_left', exists_eq_left,
      decide_eq_true_eq, decide_eq_false_iff_not, Bool.not_eq_true', Bool.not_eq_false', Bool.not_true, Bool.not_false, Bool.true_eq_false, Bool.false_eq_true, decide_not, decide_true, decide_false, not_true_eq_false, not_false_eq_true, ↓reduceIte, Nat.reduceAdd, Nat.reduceEqDiff, reduceCtorEq, Int.ofNat_zero, Int.natCast_zero, eq_self, true_and, and_true, false_and, and_false,
      len_str Tryz.underlying9, qlen_str Tryz.underlying9, fa13_0, qfa13_0, fa13_1, qfa13_1, len_slice Tryz.underlying22, qlen_slice Tryz.underlying22, fa24_0, qfa24_0, fa24_1, qfa24_1, fa24_2, qfa24_2, fa25_0, qfa25_0, fa25_1, qfa25_1, fa25_2, qfa25_2, fa27_0, qfa27_0, fa27_1, qfa27_1, fa27_2, qfa27_2, fa27_3, qfa27_3, fa28_0, qfa28_0, fa28_1, qfa28_1, fa28_2, qfa28_2, fa28_3, qfa28_3, len_slice Tryz.underlying30, qlen_slice Tryz.underlying30, fa31_0, qfa31_0, fa31_1, qfa31_1, fa31_2, qfa31_2, fa31_3, qfa31_3, fa32_0, qfa32_0, fa32_1, qfa32_1, fa32_2, qfa32_2, fa32_3, qfa32_3, len_slice Tryz.underlying33, qlen_slice Tryz.underlying33, fa34_0, qfa34_0, fa34_1, qfa34_1, fa34_2, qfa34_2, fa34_3, qfa34_3, fa35_0, qfa35_0, fa35_1, qfa35_1, fa35_2, qfa35_2, fa35_3, qfa35_3, len_slice Tryz.underlying36, qlen_slice Tryz.underlying36, len_slice Tryz.underlying37, qlen_slice Tryz.underlying37, fa38_0, qfa38_0, fa38_1, qfa38_1, fa38_2, qfa38_2, fa38_3, qfa38_3, fa38_4, qfa38_4, fa38_5, qfa38_5, fa38_6, qfa38_6, fa39_0, qfa39_0, fa39_1, qfa39_1, fa39_2, qfa39_2, fa39_3, qfa39_3, fa39_4, qfa39_4, fa39_5, qfa39_5, fa39_6, qfa39_6, len_slice Tryz.underlying55, qlen_slice Tryz.underlying55, fa56_0, qfa56_0, fa56_1, qfa56_1, fa56_2, qfa56_2, fa57_0, qfa57_0, fa57_1, qfa57_1, fa57_2, qfa57_2, len_slice Tryz.underlying60, qlen_slice Tryz.underlying60, fa63_0, qfa63_0, fa63_1, qfa63_1, fa63_2, qfa63_2, fa64_0, qfa64_0, fa64_1, qfa64_1, fa64_2, qfa64_2, fa65_0, qfa65_0, fa65_1, qfa65_1, fa65_2, qfa65_2, fa65_3, qfa65_3, fa66_0, qfa66_0, fa66_1, qfa66_1, fa66_2, qfa66_2, fa66_3, qfa66_3, len_slice Tryz.underlying69, qlen_slice Tryz.underlying69, fa77_0, qfa77_0, fa77_1, qfa77_1, fa77_2, qfa77_2, fa77_3, qfa77_3, fa78_0, qfa78_0, fa78_1, qfa78_1, fa78_2, qfa78_2, fa78_3, qfa78_3, fa102_0, qfa102_0, fa102_1, qfa102_1, fa102_2, qfa102_2, fa102_3, qfa102_3, fa102_4, qfa102_4, fa103_0, qfa103_0, fa103_1, qfa103_1, fa103_2, qfa103_2, fa103_3, qfa103_3, fa103_4, qfa103_4, cv_int Tryz.underlying2 Tryz.underlying110, qcv_int Tryz.underlying2 Tryz.underlying110, cv_int Tryz.underlying3 Tryz.underlying5, qcv_int Tryz.underlying3 Tryz.underlying5, cv_int Tryz.underlying3 Tryz.underlying67, qcv_int Tryz.underlying3 Tryz.underlying67, cv_int Tryz.underlying3 Tryz.underlying110, qcv_int Tryz.underlying3 Tryz.underlying110, cv_int Tryz.underlying5 Tryz.underlying3, qcv_int Tryz.underlying5 Tryz.underlying3, cv_int Tryz.underlying67 Tryz.underlying139, qcv_int Tryz.underlying67 Tryz.underlying139, cv_int Tryz.underlying110 Tryz.underlying5, qcv_int Tryz.underlying110 Tryz.underlying5, cv_int Tryz.underlying110 Tryz.underlying139, qcv_int Tryz.underlying110 Tryz.underlying139, cv_int Tryz.underlying139 Tryz.underlying5, qcv_int Tryz.underlying139 Tryz.underlying5, b_beql Tryz.underlying4, b_bneq Tryz.underlying4, qb_beql Tryz.underlying4, qb_bneq Tryz.underlying4, o_call en2, o_call en3, o_call en4, o_call en5, o_call en6, o_call en7, o_call en8, o_call en9, o_call en10, o_call en11, o_call en12, o_call en13, o_call en14, o_call en15, o_call en16, o_call en17, o_call en18, o_call en19, o_call en20, o_call en21, o_call en22, o_call en23, o_call en24, o_call en25, o_call en26, o_call en27, o_call en28, o_call en29, o_call en30, o_call en31, o_call en32, o_call en33, o_call en34, o_call en35, o_call en36, o_call en37, o_call en38, o_call en39, o_call en40, o_call en41, o_call en42, o_call en43, o_call en44, o_call en45, o_call en46, o_call en47, o_call en48, o_call en49, o_call en50, o_call en51, o_call en52, o_call en53, o_call en54, o_call en55, o_call en56, o_call en57, o_call en58, o_call en59, o_call en60, o_call en61, o_call en62, o_call en63, o_call en64, o_call en65, o_call en66, o_call en67, o_call en68, o_call en69, o_call en70, o_call en71, o_call en72, o_call en73, o_call en74, o_call en75, o_call en76, o_call en77, o_call en78, o_call en79, o_call en80, o_call en81, o_call en82, o_call en83, o_call en84, o_call en85, o_call en86, o_call en87, o_call en88, o_call en89, o_call en90, o_call en91, o_call en92, o_call en93, o_call en94, o_call en95, o_call en96, o_call en97, o_call en98, o_call en99, o_call en100, o_call en101, o_call en102, o_call en103, o_call en104, o_call en105, o_call en106, o_call en107, o_call en108, o_call en109, o_call en110, o_call en111, o_call en112, o_call en113, o_call en114, o_call en115, o_call en116, o_call en117, o_call en118, o_call en119, o_call en120, o_call en121, o_call en122, o_call en123, o_call en124, o_call en125, o_call en126, o_call en127, o_call en128, o_call en129, o_call en130, o_call en131, o_call en132, o_call en133, o_call en134, o_call en135, o_call en136, o_call en137, o_call en138, o_call en139, o_call en140, o_call en141, o_call en142, o_call en143, o_call en144, o_call en145, o_call en146, o_call en147, o_call en148, o_call en149, o_call en150, o_call en151, o_call en152, o_call en153, o_call en154, o_call en155, o_call en156, o_call en157, o_call en158, o_call en159, o_call en181, hp]) <;> first | exact rfl | exact eq_true rfl) : p → G := fun hp => (e hp).mpr (h hp)
theorem ve {p G G' : Prop} (hp : p) (h : G') (e : p → G = G' := by
    intro hp
    (simp -dsimp -implicitDefEqProofs only [ac_skip, ac_region, ac_draw, ac_seq, ac_cond, br_bool, if_true, if_false, if_not, ac_block, ac_loop, ac_exit, ac_ret, then_normal, then_exit, then_ret, block_normal, block_exit, block_ret, ret_ret, ret_normal, as_nil, as_cons, as_guard, putS_some, putS_none, ev_tmp, ev_const, ev_func, upd_at, argS_nil, argS_cons, yl_at, boolOf_bool, some_bool, boolOf_undef, none_bool,
      o_move, o_assign, o_pick, pick_bool, o_alloc, o_box, o_build, o_buildSlice, o_load, o_store, o_bin, o_un, o_convert, o_makeFunc, o_makeSlice, o_slice, o_fieldAddr, o_field, o_indexAddr, o_index, o_extract, o_callv, o_len, o_append, o_copy, o_clear, o_min, o_max,
      b_add, b_sub, b_mul, b_lss, b_leq, b_gtr, b_geq, b_eql, b_neq, u_not, u_neg, wrap_i64, wrap_u8, extract_eq, b_and, b_or, b_xor, b_shl, b_shr, b_shl_lit, b_shr_lit, b_seql, b_sneq, qb_and, qb_or, qb_xor, qb_shl, qb_shr, qb_shl_lit, qb_shr_lit, qb_seql, qb_sneq, add_zero', Kd.add_at, Nat.zero_add, adA_some, Nat.mul_one, Int.toNat_natCast,
      encB_def, enc_inj, w64_u8, slots_nil, slots_cons, putAll_nil, putAll_cons, dp_nil, dp_take, dp_all, wanted_none, wanted_some, q_move, q_assign, q_pick, qpick_bool, q_load, q_bin, q_un, q_convert, q_slice, q_fieldAddr, q_indexAddr, q_index, q_extract, q_build, q_len, qb_add, qb_sub, qb_mul, qb_lss, qb_leq, qb_gtr, qb_geq, qb_eql, qb_neq, qu_not,
      resOf, oneOf, List.getElem?_cons_zero, List.getElem?_cons_succ, List.getElem?_nil, Option.bind_some, Option.bind_none, List.map_cons, List.map_nil, Option.map_some, Option.map_none, Value.cells, Option.some.injEq, exists_eq_left', exists_eq_left,
      decide_eq_true_eq, decide_eq_false_iff_not, Bool.not_eq_true', Bool.not_eq_false', Bool.not_true, Bool.not_false, Bool.true_eq_false, Bool.false_eq_true, decide_not, decide_true, decide_false, not_true_eq_false, not_false_eq_true, ↓reduceIte, Nat.reduceAdd, Nat.reduceEqDiff, reduceCtorEq, Int.ofNat_zero, Int.natCast_zero, eq_self, true_and, and_true, false_and, and_false,
      len_str Tryz.underlying9, qlen_str Tryz.underlying9, fa13_0, qfa13_0, fa13_1, qfa13_1, len_slice Tryz.underlying22, qlen_slice Tryz.underlying22, fa24_0, qfa24_0, fa24_1, qfa24_1, fa24_2, qfa24_2, fa25_0, qfa25_0, fa25_1, qfa25_1, fa25_2, qfa25_2, fa27_0, qfa27_0, fa27_1, qfa27_1, fa27_2, qfa27_2, fa27_3, qfa27_3, fa28_0, qfa28_0, fa28_1, qfa28_1, fa28_2, qfa28_2, fa28_3, qfa28_3, len_slice Tryz.underlying30, qlen_slice Tryz.underlying30, fa31_0, qfa31_0, fa31_1, qfa31_1, fa31_2, qfa31_2, fa31_3, qfa31_3, fa32_0, qfa32_0, fa32_1, qfa32_1, fa32_2, qfa32_2, fa32_3, qfa32_3, len_slice Tryz.underlying33, qlen_slice Tryz.underlying33, fa34_0, qfa34_0, fa34_1, qfa34_1, fa34_2, qfa34_2, fa34_3, qfa34_3, fa35_0, qfa35_0, fa35_1, qfa35_1, fa35_2, qfa35_2, fa35_3, qfa35_3, len_slice Tryz.underlying36, qlen_slice Tryz.underlying36, len_slice Tryz.underlying37, qlen_slice Tryz.underlying37, fa38_0, qfa38_0, fa38_1, qfa38_1, fa38_2, qfa38_2, fa38_3, qfa38_3, fa38_4, qfa38_4, fa38_5, qfa38_5, fa38_6, qfa38_6, fa39_0, qfa39_0, fa39_1, qfa39_1, fa39_2, qfa39_2, fa39_3, qfa39_3, fa39_4, qfa39_4, fa39_5, qfa39_5, fa39_6, qfa39_6, len_slice Tryz.underlying55, qlen_slice Tryz.underlying55, fa56_0, qfa56_0, fa56_1, qfa56_1, fa56_2, qfa56_2, fa57_0, qfa57_0, fa57_1, qfa57_1, fa57_2, qfa57_2, len_slice Tryz.underlying60, qlen_slice Tryz.underlying60, fa63_0, qfa63_0, fa63_1, qfa63_1, fa63_2, qfa63_2, fa64_0, qfa64_0, fa64_1, qfa64_1, fa64_2, qfa64_2, fa65_0, qfa65_0, fa65_1, qfa65_1, fa65_2, qfa65_2, fa65_3, qfa65_3, fa66_0, qfa66_0, fa66_1, qfa66_1, fa66_2, qfa66_2, fa66_3, qfa66_3, len_slice Tryz.underlying69, qlen_slice Tryz.underlying69, fa77_0, qfa77_0, fa77_1, qfa77_1, fa77_2, qfa77_2, fa77_3, qfa77_3, fa78_0, qfa78_0, fa78_1, qfa78_1, fa78_2, qfa78_2, fa78_3, qfa78_3, fa102_0, qfa102_0, fa102_1, qfa102_1, fa102_2, qfa102_2, fa102_3, qfa102_3, fa102_4, qfa102_4, fa103_0, qfa103_0, fa103_1, qfa103_1, fa103_2, qfa103_2, fa103_3, qfa103_3, fa103_4, qfa103_4, cv_int Tryz.underlying2 Tryz.underlying110, qcv_int Tryz.underlying2 Tryz.underlying110, cv_int Tryz.underlying3 Tryz.underlying5, qcv_int Tryz.underlying3 Tryz.underlying5, cv_int Tryz.underlying3 Tryz.underlying67, qcv_int Tryz.underlying3 Tryz.underlying67, cv_int Tryz.underlying3 Tryz.underlying110, qcv_int Tryz.underlying3 Tryz.underlying110, cv_int Tryz.underlying5 Tryz.underlying3, qcv_int Tryz.underlying5 Tryz.underlying3, cv_int Tryz.underlying67 Tryz.underlying139, qcv_int Tryz.underlying67 Tryz.underlying139, cv_int Tryz.underlying110 Tryz.underlying5, qcv_int Tryz.underlying110 Tryz.underlying5, cv_int Tryz.underlying110 Tryz.underlying139, qcv_int Tryz.underlying110 Tryz.underlying139, cv_int Tryz.underlying139 Tryz.underlying5, qcv_int Tryz.underlying139 Tryz.underlying5, b_beql Tryz.underlying4, b_bneq Tryz.underlying4, qb_beql Tryz.underlying4, qb_bneq Tryz.underlying4, o_call en2, o_call en3, o_call en4, o_call en5, o_call en6, o_call en7, o_call en8, o_call en9, o_call en10, o_call en11, o_call en12, o_call en13, o_call en14, o_call en15, o_call en16, o_call en17, o_call en18, o_call en19, o_call en20, o_call en21, o_call en22, o_call en23, o_call en24, o_call en25, o_call en26, o_call en27, o_call en28, o_call en29, o_call en30, o_call en31, o_call en32, o_call en33, o_call en34, o_call en35, o_call en36, o_call en37, o_call en38, o_call en39, o_call en40, o_call en41, o_call en42, o_call en43, o_call en44, o_call en45, o_call en46, o_call en47, o_call en48, o_call en49, o_call en50, o_call en51, o_call en52, o_call en53, o_call en54, o_call en55, o_call en56, o_call en57, o_call en58, o_call en59, o_call en60, o_call en61, o_call en62, o_call en63, o_call en64, o_call en65, o_call en66, o_call en67, o_call en68, o_call en69, o_call en70, o_call en71, o_call en72, o_call en73, o_call en74, o_call en75, o_call en76, o_call en77, o_call en78, o_call en79, o_call en80, o_call en81, o_call en82, o_call en83, o_call en84, o_call en85, o_call en86, o_call en87, o_call en88, o_call en89, o_call en90, o_call en91, o_call en92, o_call en93, o_call en94, o_call en95, o_call en96, o_call en97, o_call en98, o_call en99, o_call en100, o_call en101, o_call en102, o_call en103, o_call en104, o_call en105, o_call en106, o_call en107, o_call en108, o_call en109, o_call en110, o_call en111, o_call en112, o_call en113, o_call en114, o_call en115, o_call en116, o_call en117, o_call en118, o_call en119, o_call en120, o_call en121, o_call en122, o_call en123, o_call en124, o_call en125, o_call en126, o_call en127, o_call en128, o_call en129, o_call en130, o_call en131, o_call en132, o_call en133, o_call en134, o_call en135, o_call en136, o_call en137, o_call en138, o_call en139, o_call en140, o_call en141, o_call en142, o_call en143, o_call en144, o_call en145, o_call en146, o_call en147, o_call en148, o_call en149, o_call en150, o_call en151, o_call en152, o_call en153, o_call en154, o_call en155, o_call en156, o_call en157, o_call en158, o_call en159, o_call en181, hp]) <;> first | exact rfl | exact eq_true rfl) : G := (e hp).mpr h
theorem l1In_ok (w : World) (x lo hi : Int) : ACalls Tryz.prog 65 #[.int .i64 x, .int .i64 lo, .int .i64 hi] w fun r w' => r = .bool (decide (lo ≤ x ∧ x ≤ hi)) ∧ w' = w := by
  refine body_of follows Tryz.func65 rfl rfl _ rfl (by kernel_rfl) (vs ?_); exact ways (vh fun _ => trivial) (vh fun _ => trivial)
theorem take_set {α : Type} (a : List α) (z : α) (k : Nat) (hk : k < a.length) : (a.take k ++ List.replicate (a.length - k) z).set k a[k] = a.take (k + 1) ++ List.replicate (a.length - (k + 1)) z := by
  apply List.ext_getElem?
  intro i; rw [List.getElem?_set]; simp only [List.length_append, List.length_take, List.length_replicate]
  by_cases h : k = i
  · subst h
    rw [if_pos rfl, if_pos (by omega), List.getElem?_append_left (by simp; omega)]
    simp [hk]
  · rw [if_neg h, List.getElem?_append, List.getElem?_append]
    simp only [List.length_take]
    by_cases h1 : i < k
    · rw [if_pos (by omega), if_pos (by omega)]
      simp [List.getElem?_take, h1, show i < k + 1 by omega]
    · rw [if_neg (by omega), if_neg (by omega)]
      simp only [List.getElem?_replicate]
      congr 1
      simp; omega
theorem iand_le {a : Int} {b : Nat} (hb : b < 9223372036854775808) : 0 ≤ iand .i64 a (b : Int) ∧ iand .i64 a (b : Int) ≤ b := by
  have h : (BitVec.ofInt IntKind.i64.bits a &&& BitVec.ofInt IntKind.i64.bits (b : Int)).toNat ≤ b := by
    show (BitVec.ofInt 64 a &&& BitVec.ofInt 64 (b : Int)).toNat ≤ b
    rw [BitVec.toNat_and, toNat_nat64, Nat.mod_eq_of_lt (by omega)]; exact Nat.and_le_right
  unfold iand; generalize (BitVec.ofInt IntKind.i64.bits a &&& BitVec.ofInt IntKind.i64.bits (b : Int)).toNat = m at h; rw [wrap_nat64 (by omega)]
  omega
theorem iand_255 (a : Int) : ∃ k : Nat, k < 256 ∧ iand .i64 a 255 = (k : Int) := by
  have := iand_le (a := a) (b := 255) (by omega); have h : iand .i64 a ((255 : Nat) : Int) = iand .i64 a 255 := rfl; rw [h] at this; exact ⟨(iand .i64 a 255).toNat, by omega, by omega⟩
section
variable {P : Program} {s : Sl} {w : World} {K : Value → World → Prop} {d : Option Tmp} {ty : TypeId} {pos : String} {af : Array Edge} {g : Option (Nat × Bool)}
theorem x_nilc {x : Operand} {a : Addr} {t : Tg ((⟨d, .nilCheck x, ty, pos, af, g⟩ : Oper), K)} (h : K (.pointer (some a)) w) (he : ev s x = .pointer (some a) := by rfl) : Aop P ⟨d, .nilCheck x, ty, pos, af, g⟩ K t s w := by
  have e : execOp (ev s) ⟨d, .nilCheck x, ty, pos, af, g⟩ = pure (.value (.pointer (some a))) := by simp [execOp, he]
  unfold Aop aop; rw [e]; exact h
theorem q_nilc {n : Nat} {G : List (Nat × Nat)} {w0 : World} {K : Value → Prop} {x : Operand} {a : Addr} {t : Tg (n, G, w0, (⟨d, .nilCheck x, ty, pos, af, g⟩ : Oper), K)} (h : K (.pointer (some a))) (he : ev s x = .pointer (some a) := by rfl) : Qop P n G w0 ⟨d, .nilCheck x, ty, pos, af, g⟩ K t s := by
  rw [qop_now (v := .pointer (some a)) (by simp [execOp, he])]; exact h
end
theorem Sep.drops' {n : Nat} {w0 w : World} {L M : List Ck} {c : Ck} (H : Sep n w0 w (L ++ c :: M)) : Sep n w0 w (L ++ M) := by
  have h : ∀ L : List Ck, Out c (L ++ c :: M) (L ++ M) := fun L => by
    induction L with
    | nil => exact .here
    | cons a L ih => exact .there ih
  exact (H.out (h L)).tail
abbrev curB (g : Nat) (v : Value) (i h : Int) : Ck := Ck.box g [v, .int .i64 i, .int .i64 h] 57
theorem l1Byte_ok {n : Nat} {w0 w : World} {L : List Ck} {g : Nat} {v : Value} {i h : Int} {a : List UInt8} (H : Sep n w0 w (curB g v i h :: L)) (hv : (bytes 5).rd w0 n [v] a) (hi : 0 ≤ i ∧ i ≤ a.length) :
    ACalls Tryz.prog 34 #[.pointer (some ⟨g, 0, none⟩)] w fun r w' => ∃ (k : Nat) (i' h' : Int), r = .int .i64 (k : Int) ∧ k < 256 ∧ (0 ≤ i' ∧ i' ≤ a.length) ∧ Sep n w0 w' (curB g v i' h' :: L) := by
  have hlm := sl_len hv; obtain ⟨A, c, rfl, hc1, hc2, ha⟩ := sl_open hv; refine body_of follows Tryz.func34 rfl rfl _ rfl (by kernel_rfl) (vs ?_); refine x_nilc ?_; refine vs ?_; refine x_ld H sc3 ?_; refine vs ?_; refine x_nilc ?_; refine vs ?_; refine x_st H sc3 fun w1 H => vs ?_; refine draw_at [(0, true), (1, true), (2, true), (3, true), (4, true), (5, true), (6, true), (7, true), (8, true), (9, true), (10, true), (11, true), (12, true)] fun w2 hh hb2 => vs ?_; have H := H.go (hb2 _); refine q_nilc ?_; refine vs ?_; refine q_ld H sc3 ?_; refine vs ?_; refine q_nilc ?_; refine vs ?_; refine q_ld H sc3 ?_; refine vs ?_; generalize ixor .i64 (ishr .i64 _ 33) (ishr .i64 _ 45) = b0; obtain ⟨k0, hk0, e0⟩ := iand_255 b0; refine ve e0 ?_
  clear e0
  refine draw_at [(0, true), (1, true), (2, true), (3, true), (4, true), (5, true), (6, true), (7, true), (8, true), (9, true)] fun w3 hh3 hb3 => vs ?_; have H := H.go (hb3 _); refine q_nilc ?_; refine vs ?_; refine q_ld H sc3 ?_; refine vs ?_; refine q_nilc ?_; refine vs ?_; refine q_ld H sc22 ?_
  by_cases q : i < (a.length : Int)
  · refine ve q ?_
    refine draw_at [(0, true), (1, true), (2, true), (3, true), (4, true), (5, true), (6, true), (7, true), (8, true), (9, true), (10, true), (11, true), (12, true), (13, true), (14, true)] fun w4 hh4 hb4 => vs ?_; have H := H.go (hb4 _); refine q_nilc ?_; refine vs ?_; refine q_ld H sc22 ?_; refine vs ?_; refine q_nilc ?_; refine vs ?_; refine q_ld H sc3 ?_; refine vs ?_; refine q_elV pl_u8 sl22 (x := a[i.toNat]'(by omega)) i.toNat (ha.mono H.bel) (List.getElem?_eq_getElem _) (by omega) rfl fun ad hb hc _ => vs ?_; refine qx_load sc5 hc (Nat.lt_of_lt_of_le hb H.ns) (by simp) ?_; refine vs ?_; generalize w64 ((k0 : Int) + _) = b1; obtain ⟨k1, hk1, e1⟩ := iand_255 b1; refine x_nilc ?_; refine vs ?_; refine x_ld H sc3 ?_; have ew : w64 (i + 1) = i + 1 := w64_id (by omega) (by omega); refine ve ew ?_
    clear ew
    refine x_nilc ?_; refine vs ?_; refine x_st H sc3 fun w5 H => vs ?_; exact ⟨k1, _, _, by rw [e1], hk1, ⟨by omega, by omega⟩, H⟩
  · refine ve q ?_
    exact ⟨k0, _, _, rfl, hk0, hi, H⟩
theorem tmod_nat {a b : Nat} : ((a : Int)).tmod (b : Int) = ((a % b : Nat) : Int) := by
  rw [Int.ofNat_tmod]
theorem l1Below_ok {n : Nat} {w0 w : World} {L : List Ck} {g : Nat} {v : Value} {i h : Int} {a : List UInt8} (m : Int) (H : Sep n w0 w (curB g v i h :: L)) (hv : (bytes 5).rd w0 n [v] a) (hi : 0 ≤ i ∧ i ≤ a.length) :
    ACalls Tryz.prog 23 #[.pointer (some ⟨g, 0, none⟩), .int .i64 m] w fun r w' => ∃ (k : Nat) (i' h' : Int), r = .int .i64 (k : Int) ∧ (k = 0 ∨ (k : Int) < m) ∧ (0 ≤ i' ∧ i' ≤ a.length) ∧ Sep n w0 w' (curB g v i' h' :: L) := by
  refine body_of follows Tryz.func23 rfl rfl _ rfl (by kernel_rfl) (vs ?_)
  by_cases q : m ≤ 0
  · refine ve q ?_
    exact ⟨0, _, _, rfl, .inl rfl, hi, H⟩
  refine ve q ?_; obtain ⟨m, rfl⟩ : ∃ k : Nat, m = (k : Int) := ⟨m.toNat, by omega⟩; have hm : 0 < m := by omega
  by_cases q2 : (m : Int) ≤ 256
  · refine ve q2 ?_
    refine x_call (l1Byte_ok H hv hi) fun _ w1 ⟨k, i1, h1, e, hk, hi1, H⟩ => ?_; subst e; refine vs ?_; refine x_rem (h := ?_) (hb := by omega); rw [tmod_nat]; refine vs ?_; exact ⟨_, _, _, rfl, .inr (by have := Nat.mod_lt k hm; omega), hi1, H⟩
  · refine ve q2 ?_
    refine x_call (l1Byte_ok H hv hi) fun _ w1 ⟨k1, i1, h1, e, hk1, hi1, H⟩ => ?_; subst e; refine vs ?_; refine x_call (l1Byte_ok H hv hi1) fun _ w2 ⟨k2, i2, h2, e, hk2, hi2, H⟩ => ?_; subst e; refine vs ?_; refine x_call (l1Byte_ok H hv hi2) fun _ w3 ⟨k3, i3, h3, e, hk3, hi3, H⟩ => ?_; subst e; refine vs ?_; refine x_call (l1Byte_ok H hv hi3) fun _ w4 ⟨k4, i4, h4, e, hk4, hi4, H⟩ => ?_; subst e; refine vs ?_
    have e : w64 (w64 (w64 (w64 ((k1 : Int) * 16777216) + w64 ((k2 : Int) * 65536)) + w64 ((k3 : Int) * 256)) + (k4 : Int)) = ((k1 * 16777216 + k2 * 65536 + k3 * 256 + k4 : Nat) : Int) := by
      rw [w64_id (n := (k1 : Int) * 16777216) (by omega) (by omega), w64_id (n := (k2 : Int) * 65536) (by omega) (by omega), w64_id (n := (k3 : Int) * 256) (by omega) (by omega), w64_id (n := (k1 : Int) * 16777216 + (k2 : Int) * 65536) (by omega) (by omega), w64_id (n := (k1 : Int) * 16777216 + (k2 : Int) * 65536 + (k3 : Int) * 256) (by omega) (by omega), w64_id (by omega) (by omega)]
      omega
    rw [e]
    clear e
    refine x_rem (h := ?_) (hb := by omega); rw [tmod_nat]; refine vs ?_; exact ⟨_, _, _, rfl, .inr (by have := Nat.mod_lt (k1 * 16777216 + k2 * 65536 + k3 * 256 + k4) hm; omega), hi4, H⟩
theorem l1New_ok (w : World) (v : Value) (a : List UInt8) (hv : (bytes 5).rd w w.heap.size [v] a) :
    ACalls Tryz.prog 15 #[v] w fun r w' => ∃ (g : Nat) (i' h' : Int), r = .pointer (some ⟨g, 0, none⟩) ∧ (0 ≤ i' ∧ i' ≤ a.length) ∧ Sep w.heap.size w w' [curB g v i' h'] := by
  have hlm := sl_len hv; obtain ⟨A, c, rfl, hc1, hc2, ha⟩ := sl_open hv; have H := Sep.start w; refine body_of follows Tryz.func15 rfl rfl _ rfl (by kernel_rfl) (vs ?_)
  refine loop_at (σ := Nat × Int) (fun y => [(0, .slice A a.length c), (3, .int .i64 y.2), (4, .int .i64 (y.1 : Int))])
    (fun y w' => Sep w.heap.size w w' []) (fun y => a.length - y.1) (0, w64 (27508 + (a.length : Int))) (vs trivial) H ?_
  rintro ⟨k, hh⟩ s w2 H; refine vs ?_
  by_cases q1 : (k : Int) < (a.length : Int)
  · refine ve q1 ?_
    by_cases q2 : (k : Int) < 4000
    · refine ve q2 ?_
      refine x_el pl_u8 sl22 (ha.mono H.bel) (by omega) q1 fun ad hb hc _ => vs ?_; refine x_load sc5 hc (vs ?_); exact ⟨(k + 1, _), ⟨rfl, i64_eq (by show w64 ((k : Int) + 1) = ((k + 1 : Nat) : Int); exact w64_succ (b := 4000) (by omega) (by omega))⟩, H, by show a.length - (k + 1) < a.length - k; omega⟩
    · refine ve q2 ?_
      refine x_build bl57 [.slice A a.length c, .int .i64 0, .int .i64 hh] ?_; refine vs ?_; refine x_bx H [.slice A a.length c, .int .i64 0, .int .i64 hh] fun g w3 H => vs ?_; exact ⟨g, 0, hh, rfl, ⟨by omega, by omega⟩, H⟩
  · refine ve q1 ?_
    refine x_build bl57 [.slice A a.length c, .int .i64 0, .int .i64 hh] ?_; refine vs ?_; refine x_bx H [.slice A a.length c, .int .i64 0, .int .i64 hh] fun g w3 H => vs ?_; exact ⟨g, 0, hh, rfl, ⟨by omega, by omega⟩, H⟩
theorem u8_low {k : Nat} (h : k < 256) : (k : Int) % 256 = ((UInt8.ofNat k).toNat : Int) := by
  rw [UInt8.toNat_ofNat']; omega
theorem l1DrawBytes_ok {n : Nat} {w0 w : World} {L : List Ck} {g : Nat} {v : Value} {i h : Int} {a : List UInt8} (m : Nat) (H : Sep n w0 w (curB g v i h :: L)) (hv : (bytes 5).rd w0 n [v] a) (hi : 0 ≤ i ∧ i ≤ a.length) (hm : m ≤ 1048576) :
    ACalls Tryz.prog 28 #[.pointer (some ⟨g, 0, none⟩), .int .i64 (m : Int)] w fun r w' => ∃ (b : List UInt8) (fp : List Nat) (i' h' : Int), b.length ≤ m ∧ (0 ≤ i' ∧ i' ≤ a.length) ∧ Sep n w0 w' (Ck.own (bytes 5) fp [r] b :: curB g v i' h' :: L) := by
  refine body_of follows Tryz.func28 rfl rfl _ rfl (by kernel_rfl) (vs ?_); refine x_emp H pl_u8 sl22 fun g1 w1 H => vs ?_; refine ve (show w64 ((m : Int) + 1) = (m : Int) + 1 from w64_id (by omega) (by omega)) ?_; have H := H.front (c := curB g v i h); refine x_call (l1Below_ok ((m : Int) + 1) H hv hi) fun _ w2 ⟨k, i1, h1, e, hk, hi1, H⟩ => ?_; subst e; refine vs ?_; have hkm : k ≤ m := by omega
  refine loop_at (σ := Nat × Value × List UInt8 × List Nat × Int × Int) (fun y => [(0, .pointer (some ⟨g, 0, none⟩)), (5, y.2.1), (6, .int .i64 (k : Int)), (7, .int .i64 (y.1 : Int))])
    (fun y w' => y.1 ≤ k ∧ y.2.2.1.length = y.1 ∧ (0 ≤ y.2.2.2.2.1 ∧ y.2.2.2.2.1 ≤ a.length) ∧ Sep n w0 w' (Ck.own (bytes 5) y.2.2.2.1 [y.2.1] y.2.2.1 :: curB g v y.2.2.2.2.1 y.2.2.2.2.2 :: L)) (fun y => k - y.1) (0, .slice (some ⟨g1, 0, none⟩) 0 0, [], [g1], i1, h1) (vs trivial) ⟨Nat.zero_le _, rfl, hi1, H.front⟩ ?_
  rintro ⟨j, u, b, fp, i2, h2⟩ s w3 ⟨hj, hb, hi2, H⟩; dsimp only at hj hb hi2 H; refine vs (ways ?_ ?_)
  · refine vh fun hlt => ?_
    have H := H.front (c := curB g v i2 h2); refine x_call (l1Below_ok 256 H hv hi2) fun _ w4 ⟨q, i3, h3, e, hq, hi3, H⟩ => ?_; subst e; refine ve (u8_low (k := q) (by omega)) ?_; refine x_lst H pl_u8 sl22 [UInt8.ofNat q] (by simp) fun g4 w4 H => vs ?_; refine x_app H pl_u8 sl22 (H.own (.head _)) ?_ ?_ fun f5 v5 w5 H => vs ?_
    · simp only [List.length_cons, List.length_nil]; omega
    · simp only [List.length_cons, List.length_nil]; omega
    refine ⟨(j + 1, v5, b ++ [UInt8.ofNat q], f5, i3, h3), ⟨rfl, i64_eq (by show w64 ((j : Int) + 1) = ((j + 1 : Nat) : Int); exact w64_succ (b := 1048576) (by omega) (by omega))⟩, ⟨by dsimp only; omega, by dsimp only; simp [hb], hi3, ?_⟩, by show k - (j + 1) < k - j; omega⟩; have H := H.front (c := Ck.own (bytes 5) f5 [v5] (b ++ [UInt8.ofNat q])); exact H.drops' (L := [_])
  · refine vh fun hlt => ?_
    exact ⟨_, _, _, _, by omega, hi2, H⟩

theorem l1PickInt_ok {n : Nat} {w0 w : World} {L : List Ck} {g : Nat} {v u : Value} {i h : Int} {a : List UInt8} {fp : List Nat} (l : List Int) (H : Sep n w0 w (Ck.own (Kd.slice 3 Kd.i64) fp [u] l :: curB g v i h :: L)) (hv : (bytes 5).rd w0 n [v] a) (hi : 0 ≤ i ∧ i ≤ a.length) (hl : 0 < l.length) :
    ACalls Tryz.prog 25 #[.pointer (some ⟨g, 0, none⟩), u] w fun r w' => ∃ (x : Int) (i' h' : Int), r = .int .i64 x ∧ x ∈ l ∧ (-9223372036854775808 ≤ x ∧ x < 9223372036854775808) ∧ (0 ≤ i' ∧ i' ≤ a.length) ∧ Sep n w0 w' (curB g v i' h' :: L) := by
  obtain ⟨A, c, rfl, hc1, hc2, _⟩ := sl_open (H.own (.head _)); refine body_of follows Tryz.func25 rfl rfl _ rfl (by kernel_rfl) (vs ?_); have H := H.front (c := curB g v i h); refine x_call (l1Below_ok (l.length : Int) H hv hi) fun _ w2 ⟨k, i1, h1, e, hk, hi1, H⟩ => ?_; subst e; refine vs ?_; have hk2 : k < l.length := by omega
  obtain ⟨A', c', e', hc1', hc2', ha'⟩ := sl_open (H.own (.tail _ (.head _))); simp only [Value.slice.injEq] at e'; obtain ⟨rfl, _, rfl⟩ := e'; refine x_elV pl_i64 sl55 (x := l[k]) k ha' (List.getElem?_eq_getElem _) rfl rfl fun ad hb hc hr => vs ?_; refine x_load sc3 hc (vs ?_); exact ⟨_, _, _, rfl, List.getElem_mem _, hr, hi1, H.drops' (L := [_])⟩
theorem l1Pick_ok {n : Nat} {w0 w : World} {L : List Ck} {g : Nat} {v u : Value} {i h : Int} {a : List UInt8} {fp : List Nat} (l : List (List UInt8)) (H : Sep n w0 w (Ck.own (Kd.slice 9 Kd.str) fp [u] l :: curB g v i h :: L)) (hv : (bytes 5).rd w0 n [v] a) (hi : 0 ≤ i ∧ i ≤ a.length) (hl : 0 < l.length) :
    ACalls Tryz.prog 29 #[.pointer (some ⟨g, 0, none⟩), u] w fun r w' => ∃ (x : List UInt8) (i' h' : Int), r = .string ⟨x.toArray⟩ ∧ x ∈ l ∧ (0 ≤ i' ∧ i' ≤ a.length) ∧ Sep n w0 w' (curB g v i' h' :: L) := by
  obtain ⟨A, c, rfl, hc1, hc2, _⟩ := sl_open (H.own (.head _)); refine body_of follows Tryz.func29 rfl rfl _ rfl (by kernel_rfl) (vs ?_); have H := H.front (c := curB g v i h); refine x_call (l1Below_ok (l.length : Int) H hv hi) fun _ w2 ⟨k, i1, h1, e, hk, hi1, H⟩ => ?_; subst e; refine vs ?_; have hk2 : k < l.length := by omega
  obtain ⟨A', c', e', hc1', hc2', ha'⟩ := sl_open (H.own (.tail _ (.head _))); simp only [Value.slice.injEq] at e'; obtain ⟨rfl, _, rfl⟩ := e'; refine x_elV pl_str sl60 (x := l[k]) k ha' (List.getElem?_eq_getElem _) rfl rfl fun ad hb hc hr => vs ?_; refine x_load sc9 hc (vs ?_); exact ⟨_, _, _, rfl, List.getElem_mem _, hi1, H.drops' (L := [_])⟩
theorem l1Once_ok {n : Nat} {w0 w : World} {L : List Ck} {g : Nat} {v : Value} {i h : Int} {a : List UInt8} (m : Int) (H : Sep n w0 w (curB g v i h :: L)) (hv : (bytes 5).rd w0 n [v] a) (hi : 0 ≤ i ∧ i ≤ a.length) :
    ACalls Tryz.prog 32 #[.pointer (some ⟨g, 0, none⟩), .int .i64 m] w fun r w' => ∃ (b : Bool) (i' h' : Int), r = .bool b ∧ (0 ≤ i' ∧ i' ≤ a.length) ∧ Sep n w0 w' (curB g v i' h' :: L) := by
  refine body_of follows Tryz.func32 rfl rfl _ rfl (by kernel_rfl) (vs ?_); refine x_call (l1Below_ok m H hv hi) fun _ w1 ⟨k, i1, h1, e, hk, hi1, H⟩ => ?_; subst e; refine vs ?_; exact ⟨_, _, _, rfl, hi1, H⟩
def routeS : List (List UInt8) := [[48, 48, 48, 48, 48, 48, 48, 48, 48, 48, 48, 48, 48, 48, 48, 48], [48, 48, 48, 48, 48, 48, 48, 48, 48, 48, 48, 48, 48, 48, 102, 102], [97, 98, 99, 100, 101, 102, 48, 49, 50, 51, 52, 53, 54, 55, 56, 57]]
theorem routeS_len : ∀ x ∈ routeS, x.length = 16 := by
  intro x hx; simp only [routeS, List.mem_cons, List.not_mem_nil, or_false] at hx
  rcases hx with rfl | rfl | rfl <;> rfl
theorem routeS_lo : ∀ x ∈ routeS, x.length ≤ 9223372036854775807 := fun x hx => by rw [routeS_len x hx]; omega
theorem l13DrawRoute_ok {n : Nat} {w0 w : World} {L : List Ck} {g : Nat} {v : Value} {i h : Int} {a : List UInt8} (H : Sep n w0 w (curB g v i h :: L)) (hv : (bytes 5).rd w0 n [v] a) (hi : 0 ≤ i ∧ i ≤ a.length) :
    ACalls Tryz.prog 27 #[.pointer (some ⟨g, 0, none⟩)] w fun r w' => ∃ (x : List UInt8) (i' h' : Int), r = .string ⟨x.toArray⟩ ∧ x.length = 16 ∧ (0 ≤ i' ∧ i' ≤ a.length) ∧ Sep n w0 w' (curB g v i' h' :: L) := by
  refine body_of follows Tryz.func27 rfl rfl _ rfl (by kernel_rfl) (vs ?_); refine x_lst H pl_str sl60 routeS routeS_lo fun g1 w1 H => vs ?_; refine x_call (l1Pick_ok routeS H hv hi (by decide)) fun _ w2 ⟨x, i1, h1, e, hx, hi1, H⟩ => ?_; subst e; refine vs ?_; exact ⟨x, _, _, rfl, routeS_len x hx, hi1, H⟩
def Opens {α : Type} (P : Program) (t : TypeId) (d : Kd α) : Prop :=
  ∀ {H : Type} (enc : TypeId × Value → H) (w : World) (fuel : Nat) (cs : List Value) (x : DataW H × List MemPlace), DataW.trod enc P w 0 (fun _ => true) true fuel t cs = some x → ∃ y, d.rd w w.heap.size cs y
section
variable {P : Program} {t e : TypeId} {α β : Type}
theorem opens_u8 (ht : P.underlying t = some (.int .u8)) : Opens P t Kd.u8 := fun enc w fuel cs x h => by
  obtain ⟨n, rfl, _, hw⟩ := DataW.trod_int ht h
  simp [Lit.wf, IntKind.min, IntKind.max, IntKind.bits, IntKind.signed] at hw
  refine ⟨UInt8.ofNat n.toNat, ?_, trivial⟩
  show [Value.int .u8 n] = [Value.int .u8 _]
  rw [UInt8.toNat_ofNat_of_lt' (by show n.toNat < 256; omega), Int.toNat_of_nonneg (by omega)]
theorem all_choose {Q : Nat → α → Prop} : ∀ (n : Nat), (∀ i, i < n → ∃ x, Q i x) → ∃ l : List α, l.length = n ∧ ∀ i (h : i < l.length), Q i l[i]
  | 0, _ => ⟨[], rfl, fun i h => by simp at h⟩
  | n + 1, h => by
    obtain ⟨l, hl, hq⟩ := all_choose n fun i hi => h i (by omega); obtain ⟨x, hx⟩ := h n (by omega); refine ⟨l ++ [x], by simp [hl], fun i hi => ?_⟩
    by_cases h1 : i < l.length
    · rw [List.getElem_append_left h1]; exact hq i h1
    · have : i = l.length := by simp at hi; omega
      subst this; rw [List.getElem_concat_length rfl, hl]; exact hx
theorem opens_slice {d : Kd α} {e' : TypeId} (ht : P.underlying t = some (.slice e)) (hd : Opens P e d) (hs : d.sz = P.cellsOf e) (hpos : 0 < d.sz) : Opens P t (Kd.slice e' d) := fun enc w fuel cs x h => by
  rcases DataW.trod_slice ht h with ⟨rfl, _⟩ | ⟨a, len, cap, elems, rest, n, _, rfl, _, _, hl, hm, hlen, hel, _, _⟩
  · exact ⟨[], none, 0, rfl, by simp, by simp [maxLen], fun i hi => absurd hi (by simp)⟩
  · have key : ∀ i, i < len → ∃ y, a.block < w.heap.size ∧ ∃ es, d.rd w w.heap.size es y ∧ ∀ j, j < d.sz → w.cell? (a.add (i * d.sz + j)) = es[j]? := by
      intro i hi; have h1 := hel i hi; rw [List.getElem?_eq_getElem (by omega), Option.bind_eq_some_iff] at h1; obtain ⟨es, h2, h3⟩ := h1; obtain ⟨y, hy⟩ := hd enc w n es _ h3; obtain ⟨_, h5, h6⟩ := World.cells?_some h2; refine ⟨y, ?_, es, hy, fun j hj => ?_⟩
      · have := World.cells?_block h2 (by omega)
        rw [Kd.add_block] at this; exact this
      · have := h6 j (by omega)
        rw [Kd.add_add, ← hs] at this; exact this
    obtain ⟨l, hll, hq⟩ := all_choose len key; refine ⟨l, some a, cap, by rw [hll], by omega, hm, fun i hi => ?_⟩; obtain ⟨h1, es, h2, h3⟩ := hq i hi; exact ⟨rfl, h1, es, h2, h3⟩
end
end Go.Proofs.YtcmckbgiiclomabGreatDoor.V
