/-
  No cell of these rows narrows 'for every input' (looked for: loops, veiled, ifaces, maps, wideKeys, modest, calm, conditions, laid).
  DERIVED. THE GIVEN ROWS OF THIS SEAT. 10 by the template 'for every input the law returns true; each argument reads behind the call as it read before'; 0 by the template 'total and deterministic' (their statements: YtlkplnioaiahhaaTotals.lean).
  GIVEN WITH THE SEED: the statements are not yours to turn. If you find one false, say at which input.
  Laid BY PROGRAM, IN A SANDBOX (cutbox-rows.mjs): the forced cells as the released guide's own fill.sh prints them over the translation db4bcaf601af397f… (all of the seat's roots in one cut). By AI agents, Wed Nov 11 2026. No macro, syntax, notation, axiom, sorry.
-/
import Derived.Test.YtlkplnioaiahhaaChecked
import GoSem.Claim
import GoSem.ClaimJoined
import GoSem.ClaimMapViews
import Derived.JoinedTies
import Derived.KernelRfl
namespace Go.Proofs.Ytlkplnioaiahhaa
/- THE CELL 'sum', in the pinned program and in every row, IS THE sha256 OF THE DUMP (.gsa) THAT YtlkplnioaiahhaaProg.lean LOADS. Nothing in Lean hashes anything: it is a label: what it is worth is what the hold of that sum in a sandbox is worth. -/
noncomputable def Try.pinned : Pinned := { name := "ytlkplnioaiahhaa", sum := "db4bcaf601af397ffb988bc8b1f1dba3f7633055b44320c1da6e680775387efb", checked := Try.checked }
namespace Rows
def none {H : Type} : Left H := { results := [], args := [] }

/-- 'laws.FnGrown': WHATEVER THE INPUT: true; the input reads as it did. -/
def fnGrownSpec : ChangeSpec := { name := "fnGrown", fn := fun _ => fun
  | [d] => { results := [.lit (.bool true)], args := [d] }
  | _ => none }
def fnGrownRow : OpenClaim := { program := "ytlkplnioaiahhaa", sum := "db4bcaf601af397ffb988bc8b1f1dba3f7633055b44320c1da6e680775387efb", func := "loop.example/g00473/laws.FnGrown", spec := "fnGrown", inPlace := ["internal/bytealg.MakeNoZero"], recurses := true, apart := false }
def FnGrownSaid : Prop := fnGrownRow.holds Try.pinned (OpenSpec.ofChange fnGrownSpec)

/-- ITS FALSE NEIGHBOUR: 'it returns false'. Refute it at one input. -/
def fnGrownWrong : ChangeSpec := { name := "fnGrown", fn := fun _ => fun
  | [d] => { results := [.lit (.bool false)], args := [d] }
  | _ => none }
def FnGrownWrongFalsely : Prop := fnGrownRow.holds Try.pinned (OpenSpec.ofChange fnGrownWrong)

/-- 'laws.FnExactLeafOf': WHATEVER THE INPUT: true; the input reads as it did. -/
def fnExactLeafOfSpec : ChangeSpec := { name := "fnExactLeafOf", fn := fun _ => fun
  | [d] => { results := [.lit (.bool true)], args := [d] }
  | _ => none }
def fnExactLeafOfRow : OpenClaim := { program := "ytlkplnioaiahhaa", sum := "db4bcaf601af397ffb988bc8b1f1dba3f7633055b44320c1da6e680775387efb", func := "loop.example/g00473/laws.FnExactLeafOf", spec := "fnExactLeafOf", inPlace := ["internal/bytealg.MakeNoZero"], apart := false }
def FnExactLeafOfSaid : Prop := fnExactLeafOfRow.holds Try.pinned (OpenSpec.ofChange fnExactLeafOfSpec)

/-- ITS FALSE NEIGHBOUR: 'it returns false'. Refute it at one input. -/
def fnExactLeafOfWrong : ChangeSpec := { name := "fnExactLeafOf", fn := fun _ => fun
  | [d] => { results := [.lit (.bool false)], args := [d] }
  | _ => none }
def FnExactLeafOfWrongFalsely : Prop := fnExactLeafOfRow.holds Try.pinned (OpenSpec.ofChange fnExactLeafOfWrong)

/-- 'laws.FnExactNodeOf': WHATEVER THE INPUT: true; the input reads as it did. -/
def fnExactNodeOfSpec : ChangeSpec := { name := "fnExactNodeOf", fn := fun _ => fun
  | [d1, d2] => { results := [.lit (.bool true)], args := [d1, d2] }
  | _ => none }
def fnExactNodeOfRow : OpenClaim := { program := "ytlkplnioaiahhaa", sum := "db4bcaf601af397ffb988bc8b1f1dba3f7633055b44320c1da6e680775387efb", func := "loop.example/g00473/laws.FnExactNodeOf", spec := "fnExactNodeOf", inPlace := ["internal/bytealg.MakeNoZero"], apart := false }
def FnExactNodeOfSaid : Prop := fnExactNodeOfRow.holds Try.pinned (OpenSpec.ofChange fnExactNodeOfSpec)

/-- ITS FALSE NEIGHBOUR: 'it returns false'. Refute it at one input. -/
def fnExactNodeOfWrong : ChangeSpec := { name := "fnExactNodeOf", fn := fun _ => fun
  | [d1, d2] => { results := [.lit (.bool false)], args := [d1, d2] }
  | _ => none }
def FnExactNodeOfWrongFalsely : Prop := fnExactNodeOfRow.holds Try.pinned (OpenSpec.ofChange fnExactNodeOfWrong)

/-- 'laws.FnRootsGrow': WHATEVER THE INPUT: true; the input reads as it did. -/
def fnRootsGrowSpec : ChangeSpec := { name := "fnRootsGrow", fn := fun _ => fun
  | [d] => { results := [.lit (.bool true)], args := [d] }
  | _ => none }
def fnRootsGrowRow : OpenClaim := { program := "ytlkplnioaiahhaa", sum := "db4bcaf601af397ffb988bc8b1f1dba3f7633055b44320c1da6e680775387efb", func := "loop.example/g00473/laws.FnRootsGrow", spec := "fnRootsGrow", inPlace := ["internal/bytealg.MakeNoZero"], recurses := true, apart := false }
def FnRootsGrowSaid : Prop := fnRootsGrowRow.holds Try.pinned (OpenSpec.ofChange fnRootsGrowSpec)

/-- ITS FALSE NEIGHBOUR: 'it returns false'. Refute it at one input. -/
def fnRootsGrowWrong : ChangeSpec := { name := "fnRootsGrow", fn := fun _ => fun
  | [d] => { results := [.lit (.bool false)], args := [d] }
  | _ => none }
def FnRootsGrowWrongFalsely : Prop := fnRootsGrowRow.holds Try.pinned (OpenSpec.ofChange fnRootsGrowWrong)

/-- 'laws.FnExactRootOf': WHATEVER THE INPUT: true; the input reads as it did. -/
def fnExactRootOfSpec : ChangeSpec := { name := "fnExactRootOf", fn := fun _ => fun
  | [d] => { results := [.lit (.bool true)], args := [d] }
  | _ => none }
def fnExactRootOfRow : OpenClaim := { program := "ytlkplnioaiahhaa", sum := "db4bcaf601af397ffb988bc8b1f1dba3f7633055b44320c1da6e680775387efb", func := "loop.example/g00473/laws.FnExactRootOf", spec := "fnExactRootOf", inPlace := ["internal/bytealg.MakeNoZero"], recurses := true, apart := false }
def FnExactRootOfSaid : Prop := fnExactRootOfRow.holds Try.pinned (OpenSpec.ofChange fnExactRootOfSpec)

/-- ITS FALSE NEIGHBOUR: 'it returns false'. Refute it at one input. -/
def fnExactRootOfWrong : ChangeSpec := { name := "fnExactRootOf", fn := fun _ => fun
  | [d] => { results := [.lit (.bool false)], args := [d] }
  | _ => none }
def FnExactRootOfWrongFalsely : Prop := fnExactRootOfRow.holds Try.pinned (OpenSpec.ofChange fnExactRootOfWrong)

/-- 'laws.FnExactGrownOk': WHATEVER THE INPUT: true; the input reads as it did. -/
def fnExactGrownOkSpec : ChangeSpec := { name := "fnExactGrownOk", fn := fun _ => fun
  | [d1, d2, d3, d4, d5] => { results := [.lit (.bool true)], args := [d1, d2, d3, d4, d5] }
  | _ => none }
def fnExactGrownOkRow : OpenClaim := { program := "ytlkplnioaiahhaa", sum := "db4bcaf601af397ffb988bc8b1f1dba3f7633055b44320c1da6e680775387efb", func := "loop.example/g00473/laws.FnExactGrownOk", spec := "fnExactGrownOk", inPlace := ["internal/bytealg.MakeNoZero"], recurses := true, apart := false }
def FnExactGrownOkSaid : Prop := fnExactGrownOkRow.holds Try.pinned (OpenSpec.ofChange fnExactGrownOkSpec)

/-- ITS FALSE NEIGHBOUR: 'it returns false'. Refute it at one input. -/
def fnExactGrownOkWrong : ChangeSpec := { name := "fnExactGrownOk", fn := fun _ => fun
  | [d1, d2, d3, d4, d5] => { results := [.lit (.bool false)], args := [d1, d2, d3, d4, d5] }
  | _ => none }
def FnExactGrownOkWrongFalsely : Prop := fnExactGrownOkRow.holds Try.pinned (OpenSpec.ofChange fnExactGrownOkWrong)

/-- 'laws.FnExactPathOf': WHATEVER THE INPUT: true; the input reads as it did. -/
def fnExactPathOfSpec : ChangeSpec := { name := "fnExactPathOf", fn := fun _ => fun
  | [d1, d2] => { results := [.lit (.bool true)], args := [d1, d2] }
  | _ => none }
def fnExactPathOfRow : OpenClaim := { program := "ytlkplnioaiahhaa", sum := "db4bcaf601af397ffb988bc8b1f1dba3f7633055b44320c1da6e680775387efb", func := "loop.example/g00473/laws.FnExactPathOf", spec := "fnExactPathOf", inPlace := ["internal/bytealg.MakeNoZero"], recurses := true, apart := false }
def FnExactPathOfSaid : Prop := fnExactPathOfRow.holds Try.pinned (OpenSpec.ofChange fnExactPathOfSpec)

/-- ITS FALSE NEIGHBOUR: 'it returns false'. Refute it at one input. -/
def fnExactPathOfWrong : ChangeSpec := { name := "fnExactPathOf", fn := fun _ => fun
  | [d1, d2] => { results := [.lit (.bool false)], args := [d1, d2] }
  | _ => none }
def FnExactPathOfWrongFalsely : Prop := fnExactPathOfRow.holds Try.pinned (OpenSpec.ofChange fnExactPathOfWrong)

/-- 'laws.FnExactRootBy': WHATEVER THE INPUT: true; the input reads as it did. -/
def fnExactRootBySpec : ChangeSpec := { name := "fnExactRootBy", fn := fun _ => fun
  | [d1, d2, d3, d4] => { results := [.lit (.bool true)], args := [d1, d2, d3, d4] }
  | _ => none }
def fnExactRootByRow : OpenClaim := { program := "ytlkplnioaiahhaa", sum := "db4bcaf601af397ffb988bc8b1f1dba3f7633055b44320c1da6e680775387efb", func := "loop.example/g00473/laws.FnExactRootBy", spec := "fnExactRootBy", inPlace := ["internal/bytealg.MakeNoZero"], recurses := true, apart := false }
def FnExactRootBySaid : Prop := fnExactRootByRow.holds Try.pinned (OpenSpec.ofChange fnExactRootBySpec)

/-- ITS FALSE NEIGHBOUR: 'it returns false'. Refute it at one input. -/
def fnExactRootByWrong : ChangeSpec := { name := "fnExactRootBy", fn := fun _ => fun
  | [d1, d2, d3, d4] => { results := [.lit (.bool false)], args := [d1, d2, d3, d4] }
  | _ => none }
def FnExactRootByWrongFalsely : Prop := fnExactRootByRow.holds Try.pinned (OpenSpec.ofChange fnExactRootByWrong)

/-- 'laws.FnExactGrownOf': WHATEVER THE INPUT: true; the input reads as it did. -/
def fnExactGrownOfSpec : ChangeSpec := { name := "fnExactGrownOf", fn := fun _ => fun
  | [d1, d2] => { results := [.lit (.bool true)], args := [d1, d2] }
  | _ => none }
def fnExactGrownOfRow : OpenClaim := { program := "ytlkplnioaiahhaa", sum := "db4bcaf601af397ffb988bc8b1f1dba3f7633055b44320c1da6e680775387efb", func := "loop.example/g00473/laws.FnExactGrownOf", spec := "fnExactGrownOf", inPlace := ["internal/bytealg.MakeNoZero"], recurses := true, apart := false }
def FnExactGrownOfSaid : Prop := fnExactGrownOfRow.holds Try.pinned (OpenSpec.ofChange fnExactGrownOfSpec)

/-- ITS FALSE NEIGHBOUR: 'it returns false'. Refute it at one input. -/
def fnExactGrownOfWrong : ChangeSpec := { name := "fnExactGrownOf", fn := fun _ => fun
  | [d1, d2] => { results := [.lit (.bool false)], args := [d1, d2] }
  | _ => none }
def FnExactGrownOfWrongFalsely : Prop := fnExactGrownOfRow.holds Try.pinned (OpenSpec.ofChange fnExactGrownOfWrong)

/-- 'laws.FnProofs': WHATEVER THE INPUT: true; the input reads as it did. -/
def fnProofsSpec : ChangeSpec := { name := "fnProofs", fn := fun _ => fun
  | [d] => { results := [.lit (.bool true)], args := [d] }
  | _ => none }
def fnProofsRow : OpenClaim := { program := "ytlkplnioaiahhaa", sum := "db4bcaf601af397ffb988bc8b1f1dba3f7633055b44320c1da6e680775387efb", func := "loop.example/g00473/laws.FnProofs", spec := "fnProofs", inPlace := ["internal/bytealg.MakeNoZero"], recurses := true, apart := false }
def FnProofsSaid : Prop := fnProofsRow.holds Try.pinned (OpenSpec.ofChange fnProofsSpec)

/-- ITS FALSE NEIGHBOUR: 'it returns false'. Refute it at one input. -/
def fnProofsWrong : ChangeSpec := { name := "fnProofs", fn := fun _ => fun
  | [d] => { results := [.lit (.bool false)], args := [d] }
  | _ => none }
def FnProofsWrongFalsely : Prop := fnProofsRow.holds Try.pinned (OpenSpec.ofChange fnProofsWrong)

/- THE SECOND FORM. 'bulk': how many values and letters a reading holds, each counted each time it is reached (what is shared counts as often as it is met; a slice's spare places count too). A statement '..UptoSaid' is the law's where the arguments, and the package variables that the reading takes, are together of bulk at most 1048576: NARROWER than '..Said'. Prove '..Said' where nothing that the law and all that it calls make is longer than what came in: it says more and counts as full. Else prove '..UptoSaid'. A law counts once. -/
mutual
def uptoBulk {H : Type} : DataW H → Nat
  | .lit (.string bytes) => bytes.length + 1
  | .lit _ => 1
  | .nil => 1
  | .ptr d => uptoBulk d + 1
  | .slice elems spare => uptoBulkAll elems + uptoBulkAll spare + 1
  | .agg parts => uptoBulkAll parts + 1
  | .iface _ d => uptoBulk d + 1
  | .map entries => uptoBulkEntries entries + 1
  | .held _ => 1
def uptoBulkAll {H : Type} : List (DataW H) → Nat
  | [] => 0
  | d :: r => uptoBulk d + uptoBulkAll r
def uptoBulkEntries {H : Type} : List (Lit × DataW H) → Nat
  | [] => 0
  | x :: r => uptoBulkEntry x + uptoBulkEntries r
def uptoBulkEntry {H : Type} : Lit × DataW H → Nat
  | (.string bytes, d) => bytes.length + uptoBulk d + 1
  | (_, d) => uptoBulk d + 1
 end
def uptoSmall : (H : Type) → List (DataW H) → Bool := fun _ ds => decide (uptoBulkAll ds ≤ 1048576)
def OpenSpec.upto (s : _root_.Go.ChangeSpec) : _root_.Go.OpenSpec := { _root_.Go.OpenSpec.ofChange s with cond := some uptoSmall }

/-- 'laws.FnGrown', WHERE WHAT IT READS IS OF BULK AT MOST 1048576: true; the input reads as it did. -/
def fnGrownUptoRow : OpenClaim := { program := "ytlkplnioaiahhaa", sum := "db4bcaf601af397ffb988bc8b1f1dba3f7633055b44320c1da6e680775387efb", func := "loop.example/g00473/laws.FnGrown", spec := "fnGrown", inPlace := ["internal/bytealg.MakeNoZero"], recurses := true, apart := false, narrowed := true }
def FnGrownUptoSaid : Prop := fnGrownUptoRow.holds Try.pinned (OpenSpec.upto fnGrownSpec)

/-- 'laws.FnExactLeafOf', WHERE WHAT IT READS IS OF BULK AT MOST 1048576: true; the input reads as it did. -/
def fnExactLeafOfUptoRow : OpenClaim := { program := "ytlkplnioaiahhaa", sum := "db4bcaf601af397ffb988bc8b1f1dba3f7633055b44320c1da6e680775387efb", func := "loop.example/g00473/laws.FnExactLeafOf", spec := "fnExactLeafOf", inPlace := ["internal/bytealg.MakeNoZero"], apart := false, narrowed := true }
def FnExactLeafOfUptoSaid : Prop := fnExactLeafOfUptoRow.holds Try.pinned (OpenSpec.upto fnExactLeafOfSpec)

/-- 'laws.FnExactNodeOf', WHERE WHAT IT READS IS OF BULK AT MOST 1048576: true; the input reads as it did. -/
def fnExactNodeOfUptoRow : OpenClaim := { program := "ytlkplnioaiahhaa", sum := "db4bcaf601af397ffb988bc8b1f1dba3f7633055b44320c1da6e680775387efb", func := "loop.example/g00473/laws.FnExactNodeOf", spec := "fnExactNodeOf", inPlace := ["internal/bytealg.MakeNoZero"], apart := false, narrowed := true }
def FnExactNodeOfUptoSaid : Prop := fnExactNodeOfUptoRow.holds Try.pinned (OpenSpec.upto fnExactNodeOfSpec)

/-- 'laws.FnRootsGrow', WHERE WHAT IT READS IS OF BULK AT MOST 1048576: true; the input reads as it did. -/
def fnRootsGrowUptoRow : OpenClaim := { program := "ytlkplnioaiahhaa", sum := "db4bcaf601af397ffb988bc8b1f1dba3f7633055b44320c1da6e680775387efb", func := "loop.example/g00473/laws.FnRootsGrow", spec := "fnRootsGrow", inPlace := ["internal/bytealg.MakeNoZero"], recurses := true, apart := false, narrowed := true }
def FnRootsGrowUptoSaid : Prop := fnRootsGrowUptoRow.holds Try.pinned (OpenSpec.upto fnRootsGrowSpec)

/-- 'laws.FnExactRootOf', WHERE WHAT IT READS IS OF BULK AT MOST 1048576: true; the input reads as it did. -/
def fnExactRootOfUptoRow : OpenClaim := { program := "ytlkplnioaiahhaa", sum := "db4bcaf601af397ffb988bc8b1f1dba3f7633055b44320c1da6e680775387efb", func := "loop.example/g00473/laws.FnExactRootOf", spec := "fnExactRootOf", inPlace := ["internal/bytealg.MakeNoZero"], recurses := true, apart := false, narrowed := true }
def FnExactRootOfUptoSaid : Prop := fnExactRootOfUptoRow.holds Try.pinned (OpenSpec.upto fnExactRootOfSpec)

/-- 'laws.FnExactGrownOk', WHERE WHAT IT READS IS OF BULK AT MOST 1048576: true; the input reads as it did. -/
def fnExactGrownOkUptoRow : OpenClaim := { program := "ytlkplnioaiahhaa", sum := "db4bcaf601af397ffb988bc8b1f1dba3f7633055b44320c1da6e680775387efb", func := "loop.example/g00473/laws.FnExactGrownOk", spec := "fnExactGrownOk", inPlace := ["internal/bytealg.MakeNoZero"], recurses := true, apart := false, narrowed := true }
def FnExactGrownOkUptoSaid : Prop := fnExactGrownOkUptoRow.holds Try.pinned (OpenSpec.upto fnExactGrownOkSpec)

/-- 'laws.FnExactPathOf', WHERE WHAT IT READS IS OF BULK AT MOST 1048576: true; the input reads as it did. -/
def fnExactPathOfUptoRow : OpenClaim := { program := "ytlkplnioaiahhaa", sum := "db4bcaf601af397ffb988bc8b1f1dba3f7633055b44320c1da6e680775387efb", func := "loop.example/g00473/laws.FnExactPathOf", spec := "fnExactPathOf", inPlace := ["internal/bytealg.MakeNoZero"], recurses := true, apart := false, narrowed := true }
def FnExactPathOfUptoSaid : Prop := fnExactPathOfUptoRow.holds Try.pinned (OpenSpec.upto fnExactPathOfSpec)

/-- 'laws.FnExactRootBy', WHERE WHAT IT READS IS OF BULK AT MOST 1048576: true; the input reads as it did. -/
def fnExactRootByUptoRow : OpenClaim := { program := "ytlkplnioaiahhaa", sum := "db4bcaf601af397ffb988bc8b1f1dba3f7633055b44320c1da6e680775387efb", func := "loop.example/g00473/laws.FnExactRootBy", spec := "fnExactRootBy", inPlace := ["internal/bytealg.MakeNoZero"], recurses := true, apart := false, narrowed := true }
def FnExactRootByUptoSaid : Prop := fnExactRootByUptoRow.holds Try.pinned (OpenSpec.upto fnExactRootBySpec)

/-- 'laws.FnExactGrownOf', WHERE WHAT IT READS IS OF BULK AT MOST 1048576: true; the input reads as it did. -/
def fnExactGrownOfUptoRow : OpenClaim := { program := "ytlkplnioaiahhaa", sum := "db4bcaf601af397ffb988bc8b1f1dba3f7633055b44320c1da6e680775387efb", func := "loop.example/g00473/laws.FnExactGrownOf", spec := "fnExactGrownOf", inPlace := ["internal/bytealg.MakeNoZero"], recurses := true, apart := false, narrowed := true }
def FnExactGrownOfUptoSaid : Prop := fnExactGrownOfUptoRow.holds Try.pinned (OpenSpec.upto fnExactGrownOfSpec)

/-- 'laws.FnProofs', WHERE WHAT IT READS IS OF BULK AT MOST 1048576: true; the input reads as it did. -/
def fnProofsUptoRow : OpenClaim := { program := "ytlkplnioaiahhaa", sum := "db4bcaf601af397ffb988bc8b1f1dba3f7633055b44320c1da6e680775387efb", func := "loop.example/g00473/laws.FnProofs", spec := "fnProofs", inPlace := ["internal/bytealg.MakeNoZero"], recurses := true, apart := false, narrowed := true }
def FnProofsUptoSaid : Prop := fnProofsUptoRow.holds Try.pinned (OpenSpec.upto fnProofsSpec)

end Rows
end Go.Proofs.Ytlkplnioaiahhaa
