/-
  No cell of these rows narrows 'for every input' (looked for: loops, veiled, ifaces, maps, wideKeys, modest, calm, conditions, laid).
  DERIVED. THE GIVEN ROWS OF THIS SEAT. 8 by the template 'for every input the law returns true; each argument reads behind the call as it read before'; 0 by the template 'total and deterministic' (their statements: YtfhbglaigjekpaaGreatTotals.lean).
  GIVEN WITH THE SEED: the statements are not yours to turn. If you find one false, say at which input.
  Laid BY PROGRAM, IN A SANDBOX (cutbox-rows.mjs): the forced cells as the released guide's own fill.sh prints them over the translation 53fb5be48dc0c9b5… (all of the seat's roots in one cut). By AI agents, Wed Nov 11 2026. No macro, syntax, notation, axiom, sorry.
-/
import Derived.Test.YtfhbglaigjekpaaGreatChecked
import GoSem.Claim
import GoSem.ClaimJoined
import GoSem.ClaimMapViews
import Derived.JoinedTies
import Derived.KernelRfl
namespace Go.Proofs.YtfhbglaigjekpaaGreat
/- THE CELL 'sum', in the pinned program and in every row, IS THE sha256 OF THE DUMP (.gsa) THAT YtfhbglaigjekpaaGreatProg.lean LOADS. Nothing in Lean hashes anything: it is a label: what it is worth is what the hold of that sum in a sandbox is worth. -/
noncomputable def Tryz.pinned : Pinned := { name := "ytfhbglaigjekpaagreat", sum := "53fb5be48dc0c9b5d370123d2e9fc0972118ccb6fa4e5b069479557d439af1b0", checked := Tryz.checked }
namespace Rows
def none {H : Type} : Left H := { results := [], args := [] }

/-- 'laws.FnExactWorldOk': WHATEVER THE INPUT: true; the input reads as it did. -/
def fnExactWorldOkSpec : ChangeSpec := { name := "fnExactWorldOk", fn := fun _ => fun
  | [d] => { results := [.lit (.bool true)], args := [d] }
  | _ => none }
def fnExactWorldOkRow : OpenClaim := { program := "ytfhbglaigjekpaagreat", sum := "53fb5be48dc0c9b5d370123d2e9fc0972118ccb6fa4e5b069479557d439af1b0", func := "loop.example/g00473/laws.FnExactWorldOk", spec := "fnExactWorldOk", inPlace := ["internal/bytealg.IndexByteString", "internal/bytealg.MakeNoZero"], unfollowed := true, recurses := true, apart := false }
def FnExactWorldOkSaid : Prop := fnExactWorldOkRow.holds Tryz.pinned (OpenSpec.ofChange fnExactWorldOkSpec)

/-- ITS FALSE NEIGHBOUR: 'it returns false'. Refute it at one input. -/
def fnExactWorldOkWrong : ChangeSpec := { name := "fnExactWorldOk", fn := fun _ => fun
  | [d] => { results := [.lit (.bool false)], args := [d] }
  | _ => none }
def FnExactWorldOkWrongFalsely : Prop := fnExactWorldOkRow.holds Tryz.pinned (OpenSpec.ofChange fnExactWorldOkWrong)

/-- 'laws.FnExactJudgeOnce': WHATEVER THE INPUT: true; the input reads as it did. -/
def fnExactJudgeOnceSpec : ChangeSpec := { name := "fnExactJudgeOnce", fn := fun _ => fun
  | [d] => { results := [.lit (.bool true)], args := [d] }
  | _ => none }
def fnExactJudgeOnceRow : OpenClaim := { program := "ytfhbglaigjekpaagreat", sum := "53fb5be48dc0c9b5d370123d2e9fc0972118ccb6fa4e5b069479557d439af1b0", func := "loop.example/g00473/laws.FnExactJudgeOnce", spec := "fnExactJudgeOnce", inPlace := ["internal/bytealg.IndexByteString", "internal/bytealg.MakeNoZero"], unfollowed := true, recurses := true, apart := false }
def FnExactJudgeOnceSaid : Prop := fnExactJudgeOnceRow.holds Tryz.pinned (OpenSpec.ofChange fnExactJudgeOnceSpec)

/-- ITS FALSE NEIGHBOUR: 'it returns false'. Refute it at one input. -/
def fnExactJudgeOnceWrong : ChangeSpec := { name := "fnExactJudgeOnce", fn := fun _ => fun
  | [d] => { results := [.lit (.bool false)], args := [d] }
  | _ => none }
def FnExactJudgeOnceWrongFalsely : Prop := fnExactJudgeOnceRow.holds Tryz.pinned (OpenSpec.ofChange fnExactJudgeOnceWrong)

/-- 'laws.FnExactWorldNew': WHATEVER THE INPUT: true; the input reads as it did. -/
def fnExactWorldNewSpec : ChangeSpec := { name := "fnExactWorldNew", fn := fun _ => fun
  | [d1, d2] => { results := [.lit (.bool true)], args := [d1, d2] }
  | _ => none }
def fnExactWorldNewRow : OpenClaim := { program := "ytfhbglaigjekpaagreat", sum := "53fb5be48dc0c9b5d370123d2e9fc0972118ccb6fa4e5b069479557d439af1b0", func := "loop.example/g00473/laws.FnExactWorldNew", spec := "fnExactWorldNew", inPlace := ["internal/bytealg.IndexByteString", "internal/bytealg.MakeNoZero"], unfollowed := true, recurses := true, apart := false }
def FnExactWorldNewSaid : Prop := fnExactWorldNewRow.holds Tryz.pinned (OpenSpec.ofChange fnExactWorldNewSpec)

/-- ITS FALSE NEIGHBOUR: 'it returns false'. Refute it at one input. -/
def fnExactWorldNewWrong : ChangeSpec := { name := "fnExactWorldNew", fn := fun _ => fun
  | [d1, d2] => { results := [.lit (.bool false)], args := [d1, d2] }
  | _ => none }
def FnExactWorldNewWrongFalsely : Prop := fnExactWorldNewRow.holds Tryz.pinned (OpenSpec.ofChange fnExactWorldNewWrong)

/-- 'laws.FnExactJudgeRead': WHATEVER THE INPUT: true; the input reads as it did. -/
def fnExactJudgeReadSpec : ChangeSpec := { name := "fnExactJudgeRead", fn := fun _ => fun
  | [d] => { results := [.lit (.bool true)], args := [d] }
  | _ => none }
def fnExactJudgeReadRow : OpenClaim := { program := "ytfhbglaigjekpaagreat", sum := "53fb5be48dc0c9b5d370123d2e9fc0972118ccb6fa4e5b069479557d439af1b0", func := "loop.example/g00473/laws.FnExactJudgeRead", spec := "fnExactJudgeRead", inPlace := ["internal/bytealg.IndexByteString", "internal/bytealg.MakeNoZero"], unfollowed := true, recurses := true, apart := false }
def FnExactJudgeReadSaid : Prop := fnExactJudgeReadRow.holds Tryz.pinned (OpenSpec.ofChange fnExactJudgeReadSpec)

/-- ITS FALSE NEIGHBOUR: 'it returns false'. Refute it at one input. -/
def fnExactJudgeReadWrong : ChangeSpec := { name := "fnExactJudgeRead", fn := fun _ => fun
  | [d] => { results := [.lit (.bool false)], args := [d] }
  | _ => none }
def FnExactJudgeReadWrongFalsely : Prop := fnExactJudgeReadRow.holds Tryz.pinned (OpenSpec.ofChange fnExactJudgeReadWrong)

/-- 'laws.FnExactJudgeBlind': WHATEVER THE INPUT: true; the input reads as it did. -/
def fnExactJudgeBlindSpec : ChangeSpec := { name := "fnExactJudgeBlind", fn := fun _ => fun
  | [d] => { results := [.lit (.bool true)], args := [d] }
  | _ => none }
def fnExactJudgeBlindRow : OpenClaim := { program := "ytfhbglaigjekpaagreat", sum := "53fb5be48dc0c9b5d370123d2e9fc0972118ccb6fa4e5b069479557d439af1b0", func := "loop.example/g00473/laws.FnExactJudgeBlind", spec := "fnExactJudgeBlind", inPlace := ["internal/bytealg.IndexByteString", "internal/bytealg.MakeNoZero"], unfollowed := true, recurses := true, apart := false }
def FnExactJudgeBlindSaid : Prop := fnExactJudgeBlindRow.holds Tryz.pinned (OpenSpec.ofChange fnExactJudgeBlindSpec)

/-- ITS FALSE NEIGHBOUR: 'it returns false'. Refute it at one input. -/
def fnExactJudgeBlindWrong : ChangeSpec := { name := "fnExactJudgeBlind", fn := fun _ => fun
  | [d] => { results := [.lit (.bool false)], args := [d] }
  | _ => none }
def FnExactJudgeBlindWrongFalsely : Prop := fnExactJudgeBlindRow.holds Tryz.pinned (OpenSpec.ofChange fnExactJudgeBlindWrong)

/-- 'laws.FnExactJudgeAll': WHATEVER THE INPUT: true; the input reads as it did. -/
def fnExactJudgeAllSpec : ChangeSpec := { name := "fnExactJudgeAll", fn := fun _ => fun
  | [d] => { results := [.lit (.bool true)], args := [d] }
  | _ => none }
def fnExactJudgeAllRow : OpenClaim := { program := "ytfhbglaigjekpaagreat", sum := "53fb5be48dc0c9b5d370123d2e9fc0972118ccb6fa4e5b069479557d439af1b0", func := "loop.example/g00473/laws.FnExactJudgeAll", spec := "fnExactJudgeAll", inPlace := ["internal/bytealg.IndexByteString", "internal/bytealg.MakeNoZero"], unfollowed := true, recurses := true, apart := false }
def FnExactJudgeAllSaid : Prop := fnExactJudgeAllRow.holds Tryz.pinned (OpenSpec.ofChange fnExactJudgeAllSpec)

/-- ITS FALSE NEIGHBOUR: 'it returns false'. Refute it at one input. -/
def fnExactJudgeAllWrong : ChangeSpec := { name := "fnExactJudgeAll", fn := fun _ => fun
  | [d] => { results := [.lit (.bool false)], args := [d] }
  | _ => none }
def FnExactJudgeAllWrongFalsely : Prop := fnExactJudgeAllRow.holds Tryz.pinned (OpenSpec.ofChange fnExactJudgeAllWrong)

/-- 'laws.FnAudits': WHATEVER THE INPUT: true; the input reads as it did. -/
def fnAuditsSpec : ChangeSpec := { name := "fnAudits", fn := fun _ => fun
  | [d] => { results := [.lit (.bool true)], args := [d] }
  | _ => none }
def fnAuditsRow : OpenClaim := { program := "ytfhbglaigjekpaagreat", sum := "53fb5be48dc0c9b5d370123d2e9fc0972118ccb6fa4e5b069479557d439af1b0", func := "loop.example/g00473/laws.FnAudits", spec := "fnAudits", inPlace := ["internal/bytealg.IndexByteString", "internal/bytealg.MakeNoZero"], unfollowed := true, recurses := true, apart := false }
def FnAuditsSaid : Prop := fnAuditsRow.holds Tryz.pinned (OpenSpec.ofChange fnAuditsSpec)

/-- ITS FALSE NEIGHBOUR: 'it returns false'. Refute it at one input. -/
def fnAuditsWrong : ChangeSpec := { name := "fnAudits", fn := fun _ => fun
  | [d] => { results := [.lit (.bool false)], args := [d] }
  | _ => none }
def FnAuditsWrongFalsely : Prop := fnAuditsRow.holds Tryz.pinned (OpenSpec.ofChange fnAuditsWrong)

/-- 'laws.FnJudges': WHATEVER THE INPUT: true; the input reads as it did. -/
def fnJudgesSpec : ChangeSpec := { name := "fnJudges", fn := fun _ => fun
  | [d] => { results := [.lit (.bool true)], args := [d] }
  | _ => none }
def fnJudgesRow : OpenClaim := { program := "ytfhbglaigjekpaagreat", sum := "53fb5be48dc0c9b5d370123d2e9fc0972118ccb6fa4e5b069479557d439af1b0", func := "loop.example/g00473/laws.FnJudges", spec := "fnJudges", inPlace := ["internal/bytealg.IndexByteString", "internal/bytealg.MakeNoZero"], unfollowed := true, recurses := true, apart := false }
def FnJudgesSaid : Prop := fnJudgesRow.holds Tryz.pinned (OpenSpec.ofChange fnJudgesSpec)

/-- ITS FALSE NEIGHBOUR: 'it returns false'. Refute it at one input. -/
def fnJudgesWrong : ChangeSpec := { name := "fnJudges", fn := fun _ => fun
  | [d] => { results := [.lit (.bool false)], args := [d] }
  | _ => none }
def FnJudgesWrongFalsely : Prop := fnJudgesRow.holds Tryz.pinned (OpenSpec.ofChange fnJudgesWrong)

/- THE SECOND FORM. 'bulk': how many values and letters a reading holds, each counted each time it is reached (what is shared counts as often as it is met; a slice's spare places count too). A statement '..UptoSaid' is the law's where the arguments, and the package variables that the reading takes, are together of bulk at most 1048576: NARROWER than '..Said'. Prove '..Said' where nothing that the law and all that it calls make is longer than what came in: it says more and counts as full. Else prove '..UptoSaid'. A law counts once. -/
mutual
def uptoBulk {H : Type} : DataW H → Nat
  | .lit (.string bytes) => bytes.length + 1
  | .lit _ => 1
  | .nil => 1
  | .ptr d => uptoBulk d + 1
  | .slice elems spare => uptoBulkAll elems + uptoBulkAll spare + 1
  | .agg parts => uptoBulkAll parts + 1
  | .iface _ d => uptoBulk d + 1
  | .map entries => uptoBulkEntries entries + 1
  | .held _ => 1
def uptoBulkAll {H : Type} : List (DataW H) → Nat
  | [] => 0
  | d :: r => uptoBulk d + uptoBulkAll r
def uptoBulkEntries {H : Type} : List (Lit × DataW H) → Nat
  | [] => 0
  | x :: r => uptoBulkEntry x + uptoBulkEntries r
def uptoBulkEntry {H : Type} : Lit × DataW H → Nat
  | (.string bytes, d) => bytes.length + uptoBulk d + 1
  | (_, d) => uptoBulk d + 1
 end
def uptoSmall : (H : Type) → List (DataW H) → Bool := fun _ ds => decide (uptoBulkAll ds ≤ 1048576)
def OpenSpec.upto (s : _root_.Go.ChangeSpec) : _root_.Go.OpenSpec := { _root_.Go.OpenSpec.ofChange s with cond := some uptoSmall }

/-- 'laws.FnExactWorldOk', WHERE WHAT IT READS IS OF BULK AT MOST 1048576: true; the input reads as it did. -/
def fnExactWorldOkUptoRow : OpenClaim := { program := "ytfhbglaigjekpaagreat", sum := "53fb5be48dc0c9b5d370123d2e9fc0972118ccb6fa4e5b069479557d439af1b0", func := "loop.example/g00473/laws.FnExactWorldOk", spec := "fnExactWorldOk", inPlace := ["internal/bytealg.IndexByteString", "internal/bytealg.MakeNoZero"], unfollowed := true, recurses := true, apart := false, narrowed := true }
def FnExactWorldOkUptoSaid : Prop := fnExactWorldOkUptoRow.holds Tryz.pinned (OpenSpec.upto fnExactWorldOkSpec)

/-- 'laws.FnExactJudgeOnce', WHERE WHAT IT READS IS OF BULK AT MOST 1048576: true; the input reads as it did. -/
def fnExactJudgeOnceUptoRow : OpenClaim := { program := "ytfhbglaigjekpaagreat", sum := "53fb5be48dc0c9b5d370123d2e9fc0972118ccb6fa4e5b069479557d439af1b0", func := "loop.example/g00473/laws.FnExactJudgeOnce", spec := "fnExactJudgeOnce", inPlace := ["internal/bytealg.IndexByteString", "internal/bytealg.MakeNoZero"], unfollowed := true, recurses := true, apart := false, narrowed := true }
def FnExactJudgeOnceUptoSaid : Prop := fnExactJudgeOnceUptoRow.holds Tryz.pinned (OpenSpec.upto fnExactJudgeOnceSpec)

/-- 'laws.FnExactWorldNew', WHERE WHAT IT READS IS OF BULK AT MOST 1048576: true; the input reads as it did. -/
def fnExactWorldNewUptoRow : OpenClaim := { program := "ytfhbglaigjekpaagreat", sum := "53fb5be48dc0c9b5d370123d2e9fc0972118ccb6fa4e5b069479557d439af1b0", func := "loop.example/g00473/laws.FnExactWorldNew", spec := "fnExactWorldNew", inPlace := ["internal/bytealg.IndexByteString", "internal/bytealg.MakeNoZero"], unfollowed := true, recurses := true, apart := false, narrowed := true }
def FnExactWorldNewUptoSaid : Prop := fnExactWorldNewUptoRow.holds Tryz.pinned (OpenSpec.upto fnExactWorldNewSpec)

/-- 'laws.FnExactJudgeRead', WHERE WHAT IT READS IS OF BULK AT MOST 1048576: true; the input reads as it did. -/
def fnExactJudgeReadUptoRow : OpenClaim := { program := "ytfhbglaigjekpaagreat", sum := "53fb5be48dc0c9b5d370123d2e9fc0972118ccb6fa4e5b069479557d439af1b0", func := "loop.example/g00473/laws.FnExactJudgeRead", spec := "fnExactJudgeRead", inPlace := ["internal/bytealg.IndexByteString", "internal/bytealg.MakeNoZero"], unfollowed := true, recurses := true, apart := false, narrowed := true }
def FnExactJudgeReadUptoSaid : Prop := fnExactJudgeReadUptoRow.holds Tryz.pinned (OpenSpec.upto fnExactJudgeReadSpec)

/-- 'laws.FnExactJudgeBlind', WHERE WHAT IT READS IS OF BULK AT MOST 1048576: true; the input reads as it did. -/
def fnExactJudgeBlindUptoRow : OpenClaim := { program := "ytfhbglaigjekpaagreat", sum := "53fb5be48dc0c9b5d370123d2e9fc0972118ccb6fa4e5b069479557d439af1b0", func := "loop.example/g00473/laws.FnExactJudgeBlind", spec := "fnExactJudgeBlind", inPlace := ["internal/bytealg.IndexByteString", "internal/bytealg.MakeNoZero"], unfollowed := true, recurses := true, apart := false, narrowed := true }
def FnExactJudgeBlindUptoSaid : Prop := fnExactJudgeBlindUptoRow.holds Tryz.pinned (OpenSpec.upto fnExactJudgeBlindSpec)

/-- 'laws.FnExactJudgeAll', WHERE WHAT IT READS IS OF BULK AT MOST 1048576: true; the input reads as it did. -/
def fnExactJudgeAllUptoRow : OpenClaim := { program := "ytfhbglaigjekpaagreat", sum := "53fb5be48dc0c9b5d370123d2e9fc0972118ccb6fa4e5b069479557d439af1b0", func := "loop.example/g00473/laws.FnExactJudgeAll", spec := "fnExactJudgeAll", inPlace := ["internal/bytealg.IndexByteString", "internal/bytealg.MakeNoZero"], unfollowed := true, recurses := true, apart := false, narrowed := true }
def FnExactJudgeAllUptoSaid : Prop := fnExactJudgeAllUptoRow.holds Tryz.pinned (OpenSpec.upto fnExactJudgeAllSpec)

/-- 'laws.FnAudits', WHERE WHAT IT READS IS OF BULK AT MOST 1048576: true; the input reads as it did. -/
def fnAuditsUptoRow : OpenClaim := { program := "ytfhbglaigjekpaagreat", sum := "53fb5be48dc0c9b5d370123d2e9fc0972118ccb6fa4e5b069479557d439af1b0", func := "loop.example/g00473/laws.FnAudits", spec := "fnAudits", inPlace := ["internal/bytealg.IndexByteString", "internal/bytealg.MakeNoZero"], unfollowed := true, recurses := true, apart := false, narrowed := true }
def FnAuditsUptoSaid : Prop := fnAuditsUptoRow.holds Tryz.pinned (OpenSpec.upto fnAuditsSpec)

/-- 'laws.FnJudges', WHERE WHAT IT READS IS OF BULK AT MOST 1048576: true; the input reads as it did. -/
def fnJudgesUptoRow : OpenClaim := { program := "ytfhbglaigjekpaagreat", sum := "53fb5be48dc0c9b5d370123d2e9fc0972118ccb6fa4e5b069479557d439af1b0", func := "loop.example/g00473/laws.FnJudges", spec := "fnJudges", inPlace := ["internal/bytealg.IndexByteString", "internal/bytealg.MakeNoZero"], unfollowed := true, recurses := true, apart := false, narrowed := true }
def FnJudgesUptoSaid : Prop := fnJudgesUptoRow.holds Tryz.pinned (OpenSpec.upto fnJudgesSpec)

end Rows
end Go.Proofs.YtfhbglaigjekpaaGreat
