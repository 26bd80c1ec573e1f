/-
  No cell of these rows narrows 'for every input' (looked for: loops, veiled, ifaces, maps, wideKeys, modest, calm, conditions, laid).
  DERIVED. THE GIVEN ROWS OF THIS SEAT. 9 by the template 'for every input the law returns true; each argument reads behind the call as it read before'; 0 by the template 'total and deterministic' (their statements: YtagljofpmjaciaaTotals.lean).
  GIVEN WITH THE SEED: the statements are not yours to turn. If you find one false, say at which input.
  Laid BY PROGRAM, IN A SANDBOX (cutbox-rows.mjs): the forced cells as the released guide's own fill.sh prints them over the translation e8e4ab6cc070079c… (all of the seat's roots in one cut). By AI agents, Wed Nov 11 2026. No macro, syntax, notation, axiom, sorry.
-/
import Derived.Test.YtagljofpmjaciaaChecked
import GoSem.Claim
import GoSem.ClaimJoined
import GoSem.ClaimMapViews
import Derived.JoinedTies
import Derived.KernelRfl
namespace Go.Proofs.Ytagljofpmjaciaa
/- THE CELL 'sum', in the pinned program and in every row, IS THE sha256 OF THE DUMP (.gsa) THAT YtagljofpmjaciaaProg.lean LOADS. Nothing in Lean hashes anything: it is a label: what it is worth is what the hold of that sum in a sandbox is worth. -/
noncomputable def Try.pinned : Pinned := { name := "ytagljofpmjaciaa", sum := "e8e4ab6cc070079c6c5fe16a0f83dd8bca8c4aa40ffb58a7d37269ab656522a0", checked := Try.checked }
namespace Rows
def none {H : Type} : Left H := { results := [], args := [] }

/-- 'laws.FnSixes': WHATEVER THE INPUT: true; the input reads as it did. -/
def fnSixesSpec : ChangeSpec := { name := "fnSixes", fn := fun _ => fun
  | [d] => { results := [.lit (.bool true)], args := [d] }
  | _ => none }
def fnSixesRow : OpenClaim := { program := "ytagljofpmjaciaa", sum := "e8e4ab6cc070079c6c5fe16a0f83dd8bca8c4aa40ffb58a7d37269ab656522a0", func := "loop.example/g00473/laws.FnSixes", spec := "fnSixes", inPlace := ["internal/bytealg.IndexByteString"], apart := false }
def FnSixesSaid : Prop := fnSixesRow.holds Try.pinned (OpenSpec.ofChange fnSixesSpec)

/-- ITS FALSE NEIGHBOUR: 'it returns false'. Refute it at one input. -/
def fnSixesWrong : ChangeSpec := { name := "fnSixes", fn := fun _ => fun
  | [d] => { results := [.lit (.bool false)], args := [d] }
  | _ => none }
def FnSixesWrongFalsely : Prop := fnSixesRow.holds Try.pinned (OpenSpec.ofChange fnSixesWrong)

/-- 'laws.FnExactReaderBytes': WHATEVER THE INPUT: true; the input reads as it did. -/
def fnExactReaderBytesSpec : ChangeSpec := { name := "fnExactReaderBytes", fn := fun _ => fun
  | [d] => { results := [.lit (.bool true)], args := [d] }
  | _ => none }
def fnExactReaderBytesRow : OpenClaim := { program := "ytagljofpmjaciaa", sum := "e8e4ab6cc070079c6c5fe16a0f83dd8bca8c4aa40ffb58a7d37269ab656522a0", func := "loop.example/g00473/laws.FnExactReaderBytes", spec := "fnExactReaderBytes", inPlace := ["internal/bytealg.MakeNoZero"], unfollowed := true, recurses := true, apart := false }
def FnExactReaderBytesSaid : Prop := fnExactReaderBytesRow.holds Try.pinned (OpenSpec.ofChange fnExactReaderBytesSpec)

/-- ITS FALSE NEIGHBOUR: 'it returns false'. Refute it at one input. -/
def fnExactReaderBytesWrong : ChangeSpec := { name := "fnExactReaderBytes", fn := fun _ => fun
  | [d] => { results := [.lit (.bool false)], args := [d] }
  | _ => none }
def FnExactReaderBytesWrongFalsely : Prop := fnExactReaderBytesRow.holds Try.pinned (OpenSpec.ofChange fnExactReaderBytesWrong)

/-- 'laws.FnAnyOrder': WHATEVER THE INPUT: true; the input reads as it did. -/
def fnAnyOrderSpec : ChangeSpec := { name := "fnAnyOrder", fn := fun _ => fun
  | [d] => { results := [.lit (.bool true)], args := [d] }
  | _ => none }
def fnAnyOrderRow : OpenClaim := { program := "ytagljofpmjaciaa", sum := "e8e4ab6cc070079c6c5fe16a0f83dd8bca8c4aa40ffb58a7d37269ab656522a0", func := "loop.example/g00473/laws.FnAnyOrder", spec := "fnAnyOrder", inPlace := ["internal/bytealg.MakeNoZero"], unfollowed := true, recurses := true, apart := false }
def FnAnyOrderSaid : Prop := fnAnyOrderRow.holds Try.pinned (OpenSpec.ofChange fnAnyOrderSpec)

/-- ITS FALSE NEIGHBOUR: 'it returns false'. Refute it at one input. -/
def fnAnyOrderWrong : ChangeSpec := { name := "fnAnyOrder", fn := fun _ => fun
  | [d] => { results := [.lit (.bool false)], args := [d] }
  | _ => none }
def FnAnyOrderWrongFalsely : Prop := fnAnyOrderRow.holds Try.pinned (OpenSpec.ofChange fnAnyOrderWrong)

/-- 'laws.FnExactStretch': WHATEVER THE INPUT: true; the input reads as it did. -/
def fnExactStretchSpec : ChangeSpec := { name := "fnExactStretch", fn := fun _ => fun
  | [d1, d2, d3, d4] => { results := [.lit (.bool true)], args := [d1, d2, d3, d4] }
  | _ => none }
def fnExactStretchRow : OpenClaim := { program := "ytagljofpmjaciaa", sum := "e8e4ab6cc070079c6c5fe16a0f83dd8bca8c4aa40ffb58a7d37269ab656522a0", func := "loop.example/g00473/laws.FnExactStretch", spec := "fnExactStretch", inPlace := ["internal/bytealg.MakeNoZero"], apart := false }
def FnExactStretchSaid : Prop := fnExactStretchRow.holds Try.pinned (OpenSpec.ofChange fnExactStretchSpec)

/-- ITS FALSE NEIGHBOUR: 'it returns false'. Refute it at one input. -/
def fnExactStretchWrong : ChangeSpec := { name := "fnExactStretch", fn := fun _ => fun
  | [d1, d2, d3, d4] => { results := [.lit (.bool false)], args := [d1, d2, d3, d4] }
  | _ => none }
def FnExactStretchWrongFalsely : Prop := fnExactStretchRow.holds Try.pinned (OpenSpec.ofChange fnExactStretchWrong)

/-- 'laws.FnStretched': WHATEVER THE INPUT: true; the input reads as it did. -/
def fnStretchedSpec : ChangeSpec := { name := "fnStretched", fn := fun _ => fun
  | [d] => { results := [.lit (.bool true)], args := [d] }
  | _ => none }
def fnStretchedRow : OpenClaim := { program := "ytagljofpmjaciaa", sum := "e8e4ab6cc070079c6c5fe16a0f83dd8bca8c4aa40ffb58a7d37269ab656522a0", func := "loop.example/g00473/laws.FnStretched", spec := "fnStretched", inPlace := ["internal/bytealg.MakeNoZero"], apart := false }
def FnStretchedSaid : Prop := fnStretchedRow.holds Try.pinned (OpenSpec.ofChange fnStretchedSpec)

/-- ITS FALSE NEIGHBOUR: 'it returns false'. Refute it at one input. -/
def fnStretchedWrong : ChangeSpec := { name := "fnStretched", fn := fun _ => fun
  | [d] => { results := [.lit (.bool false)], args := [d] }
  | _ => none }
def FnStretchedWrongFalsely : Prop := fnStretchedRow.holds Try.pinned (OpenSpec.ofChange fnStretchedWrong)

/-- 'laws.FnExactChainNext': WHATEVER THE INPUT: true; the input reads as it did. -/
def fnExactChainNextSpec : ChangeSpec := { name := "fnExactChainNext", fn := fun _ => fun
  | [d] => { results := [.lit (.bool true)], args := [d] }
  | _ => none }
def fnExactChainNextRow : OpenClaim := { program := "ytagljofpmjaciaa", sum := "e8e4ab6cc070079c6c5fe16a0f83dd8bca8c4aa40ffb58a7d37269ab656522a0", func := "loop.example/g00473/laws.FnExactChainNext", spec := "fnExactChainNext", inPlace := ["internal/bytealg.MakeNoZero"], apart := false }
def FnExactChainNextSaid : Prop := fnExactChainNextRow.holds Try.pinned (OpenSpec.ofChange fnExactChainNextSpec)

/-- ITS FALSE NEIGHBOUR: 'it returns false'. Refute it at one input. -/
def fnExactChainNextWrong : ChangeSpec := { name := "fnExactChainNext", fn := fun _ => fun
  | [d] => { results := [.lit (.bool false)], args := [d] }
  | _ => none }
def FnExactChainNextWrongFalsely : Prop := fnExactChainNextRow.holds Try.pinned (OpenSpec.ofChange fnExactChainNextWrong)

/-- 'laws.FnExactChainNew': WHATEVER THE INPUT: true; the input reads as it did. -/
def fnExactChainNewSpec : ChangeSpec := { name := "fnExactChainNew", fn := fun _ => fun
  | [d] => { results := [.lit (.bool true)], args := [d] }
  | _ => none }
def fnExactChainNewRow : OpenClaim := { program := "ytagljofpmjaciaa", sum := "e8e4ab6cc070079c6c5fe16a0f83dd8bca8c4aa40ffb58a7d37269ab656522a0", func := "loop.example/g00473/laws.FnExactChainNew", spec := "fnExactChainNew", inPlace := ["internal/bytealg.MakeNoZero"], apart := false }
def FnExactChainNewSaid : Prop := fnExactChainNewRow.holds Try.pinned (OpenSpec.ofChange fnExactChainNewSpec)

/-- ITS FALSE NEIGHBOUR: 'it returns false'. Refute it at one input. -/
def fnExactChainNewWrong : ChangeSpec := { name := "fnExactChainNew", fn := fun _ => fun
  | [d] => { results := [.lit (.bool false)], args := [d] }
  | _ => none }
def FnExactChainNewWrongFalsely : Prop := fnExactChainNewRow.holds Try.pinned (OpenSpec.ofChange fnExactChainNewWrong)

/-- 'laws.FnChains': WHATEVER THE INPUT: true; the input reads as it did. -/
def fnChainsSpec : ChangeSpec := { name := "fnChains", fn := fun _ => fun
  | [d] => { results := [.lit (.bool true)], args := [d] }
  | _ => none }
def fnChainsRow : OpenClaim := { program := "ytagljofpmjaciaa", sum := "e8e4ab6cc070079c6c5fe16a0f83dd8bca8c4aa40ffb58a7d37269ab656522a0", func := "loop.example/g00473/laws.FnChains", spec := "fnChains", inPlace := ["internal/bytealg.MakeNoZero"], unfollowed := true, recurses := true, apart := false }
def FnChainsSaid : Prop := fnChainsRow.holds Try.pinned (OpenSpec.ofChange fnChainsSpec)

/-- ITS FALSE NEIGHBOUR: 'it returns false'. Refute it at one input. -/
def fnChainsWrong : ChangeSpec := { name := "fnChains", fn := fun _ => fun
  | [d] => { results := [.lit (.bool false)], args := [d] }
  | _ => none }
def FnChainsWrongFalsely : Prop := fnChainsRow.holds Try.pinned (OpenSpec.ofChange fnChainsWrong)

/-- 'laws.FnExactCatchKey': WHATEVER THE INPUT: true; the input reads as it did. -/
def fnExactCatchKeySpec : ChangeSpec := { name := "fnExactCatchKey", fn := fun _ => fun
  | [d1, d2] => { results := [.lit (.bool true)], args := [d1, d2] }
  | _ => none }
def fnExactCatchKeyRow : OpenClaim := { program := "ytagljofpmjaciaa", sum := "e8e4ab6cc070079c6c5fe16a0f83dd8bca8c4aa40ffb58a7d37269ab656522a0", func := "loop.example/g00473/laws.FnExactCatchKey", spec := "fnExactCatchKey", inPlace := ["internal/bytealg.MakeNoZero"], unfollowed := true, recurses := true, apart := false }
def FnExactCatchKeySaid : Prop := fnExactCatchKeyRow.holds Try.pinned (OpenSpec.ofChange fnExactCatchKeySpec)

/-- ITS FALSE NEIGHBOUR: 'it returns false'. Refute it at one input. -/
def fnExactCatchKeyWrong : ChangeSpec := { name := "fnExactCatchKey", fn := fun _ => fun
  | [d1, d2] => { results := [.lit (.bool false)], args := [d1, d2] }
  | _ => none }
def FnExactCatchKeyWrongFalsely : Prop := fnExactCatchKeyRow.holds Try.pinned (OpenSpec.ofChange fnExactCatchKeyWrong)

/- THE SECOND FORM. 'bulk': how many values and letters a reading holds, each counted each time it is reached (what is shared counts as often as it is met; a slice's spare places count too). A statement '..UptoSaid' is the law's where the arguments, and the package variables that the reading takes, are together of bulk at most 1048576: NARROWER than '..Said'. Prove '..Said' where nothing that the law and all that it calls make is longer than what came in: it says more and counts as full. Else prove '..UptoSaid'. A law counts once. -/
mutual
def uptoBulk {H : Type} : DataW H → Nat
  | .lit (.string bytes) => bytes.length + 1
  | .lit _ => 1
  | .nil => 1
  | .ptr d => uptoBulk d + 1
  | .slice elems spare => uptoBulkAll elems + uptoBulkAll spare + 1
  | .agg parts => uptoBulkAll parts + 1
  | .iface _ d => uptoBulk d + 1
  | .map entries => uptoBulkEntries entries + 1
  | .held _ => 1
def uptoBulkAll {H : Type} : List (DataW H) → Nat
  | [] => 0
  | d :: r => uptoBulk d + uptoBulkAll r
def uptoBulkEntries {H : Type} : List (Lit × DataW H) → Nat
  | [] => 0
  | x :: r => uptoBulkEntry x + uptoBulkEntries r
def uptoBulkEntry {H : Type} : Lit × DataW H → Nat
  | (.string bytes, d) => bytes.length + uptoBulk d + 1
  | (_, d) => uptoBulk d + 1
 end
def uptoSmall : (H : Type) → List (DataW H) → Bool := fun _ ds => decide (uptoBulkAll ds ≤ 1048576)
def OpenSpec.upto (s : _root_.Go.ChangeSpec) : _root_.Go.OpenSpec := { _root_.Go.OpenSpec.ofChange s with cond := some uptoSmall }

/-- 'laws.FnSixes', WHERE WHAT IT READS IS OF BULK AT MOST 1048576: true; the input reads as it did. -/
def fnSixesUptoRow : OpenClaim := { program := "ytagljofpmjaciaa", sum := "e8e4ab6cc070079c6c5fe16a0f83dd8bca8c4aa40ffb58a7d37269ab656522a0", func := "loop.example/g00473/laws.FnSixes", spec := "fnSixes", inPlace := ["internal/bytealg.IndexByteString"], apart := false, narrowed := true }
def FnSixesUptoSaid : Prop := fnSixesUptoRow.holds Try.pinned (OpenSpec.upto fnSixesSpec)

/-- 'laws.FnExactReaderBytes', WHERE WHAT IT READS IS OF BULK AT MOST 1048576: true; the input reads as it did. -/
def fnExactReaderBytesUptoRow : OpenClaim := { program := "ytagljofpmjaciaa", sum := "e8e4ab6cc070079c6c5fe16a0f83dd8bca8c4aa40ffb58a7d37269ab656522a0", func := "loop.example/g00473/laws.FnExactReaderBytes", spec := "fnExactReaderBytes", inPlace := ["internal/bytealg.MakeNoZero"], unfollowed := true, recurses := true, apart := false, narrowed := true }
def FnExactReaderBytesUptoSaid : Prop := fnExactReaderBytesUptoRow.holds Try.pinned (OpenSpec.upto fnExactReaderBytesSpec)

/-- 'laws.FnAnyOrder', WHERE WHAT IT READS IS OF BULK AT MOST 1048576: true; the input reads as it did. -/
def fnAnyOrderUptoRow : OpenClaim := { program := "ytagljofpmjaciaa", sum := "e8e4ab6cc070079c6c5fe16a0f83dd8bca8c4aa40ffb58a7d37269ab656522a0", func := "loop.example/g00473/laws.FnAnyOrder", spec := "fnAnyOrder", inPlace := ["internal/bytealg.MakeNoZero"], unfollowed := true, recurses := true, apart := false, narrowed := true }
def FnAnyOrderUptoSaid : Prop := fnAnyOrderUptoRow.holds Try.pinned (OpenSpec.upto fnAnyOrderSpec)

/-- 'laws.FnExactStretch', WHERE WHAT IT READS IS OF BULK AT MOST 1048576: true; the input reads as it did. -/
def fnExactStretchUptoRow : OpenClaim := { program := "ytagljofpmjaciaa", sum := "e8e4ab6cc070079c6c5fe16a0f83dd8bca8c4aa40ffb58a7d37269ab656522a0", func := "loop.example/g00473/laws.FnExactStretch", spec := "fnExactStretch", inPlace := ["internal/bytealg.MakeNoZero"], apart := false, narrowed := true }
def FnExactStretchUptoSaid : Prop := fnExactStretchUptoRow.holds Try.pinned (OpenSpec.upto fnExactStretchSpec)

/-- 'laws.FnStretched', WHERE WHAT IT READS IS OF BULK AT MOST 1048576: true; the input reads as it did. -/
def fnStretchedUptoRow : OpenClaim := { program := "ytagljofpmjaciaa", sum := "e8e4ab6cc070079c6c5fe16a0f83dd8bca8c4aa40ffb58a7d37269ab656522a0", func := "loop.example/g00473/laws.FnStretched", spec := "fnStretched", inPlace := ["internal/bytealg.MakeNoZero"], apart := false, narrowed := true }
def FnStretchedUptoSaid : Prop := fnStretchedUptoRow.holds Try.pinned (OpenSpec.upto fnStretchedSpec)

/-- 'laws.FnExactChainNext', WHERE WHAT IT READS IS OF BULK AT MOST 1048576: true; the input reads as it did. -/
def fnExactChainNextUptoRow : OpenClaim := { program := "ytagljofpmjaciaa", sum := "e8e4ab6cc070079c6c5fe16a0f83dd8bca8c4aa40ffb58a7d37269ab656522a0", func := "loop.example/g00473/laws.FnExactChainNext", spec := "fnExactChainNext", inPlace := ["internal/bytealg.MakeNoZero"], apart := false, narrowed := true }
def FnExactChainNextUptoSaid : Prop := fnExactChainNextUptoRow.holds Try.pinned (OpenSpec.upto fnExactChainNextSpec)

/-- 'laws.FnExactChainNew', WHERE WHAT IT READS IS OF BULK AT MOST 1048576: true; the input reads as it did. -/
def fnExactChainNewUptoRow : OpenClaim := { program := "ytagljofpmjaciaa", sum := "e8e4ab6cc070079c6c5fe16a0f83dd8bca8c4aa40ffb58a7d37269ab656522a0", func := "loop.example/g00473/laws.FnExactChainNew", spec := "fnExactChainNew", inPlace := ["internal/bytealg.MakeNoZero"], apart := false, narrowed := true }
def FnExactChainNewUptoSaid : Prop := fnExactChainNewUptoRow.holds Try.pinned (OpenSpec.upto fnExactChainNewSpec)

/-- 'laws.FnChains', WHERE WHAT IT READS IS OF BULK AT MOST 1048576: true; the input reads as it did. -/
def fnChainsUptoRow : OpenClaim := { program := "ytagljofpmjaciaa", sum := "e8e4ab6cc070079c6c5fe16a0f83dd8bca8c4aa40ffb58a7d37269ab656522a0", func := "loop.example/g00473/laws.FnChains", spec := "fnChains", inPlace := ["internal/bytealg.MakeNoZero"], unfollowed := true, recurses := true, apart := false, narrowed := true }
def FnChainsUptoSaid : Prop := fnChainsUptoRow.holds Try.pinned (OpenSpec.upto fnChainsSpec)

/-- 'laws.FnExactCatchKey', WHERE WHAT IT READS IS OF BULK AT MOST 1048576: true; the input reads as it did. -/
def fnExactCatchKeyUptoRow : OpenClaim := { program := "ytagljofpmjaciaa", sum := "e8e4ab6cc070079c6c5fe16a0f83dd8bca8c4aa40ffb58a7d37269ab656522a0", func := "loop.example/g00473/laws.FnExactCatchKey", spec := "fnExactCatchKey", inPlace := ["internal/bytealg.MakeNoZero"], unfollowed := true, recurses := true, apart := false, narrowed := true }
def FnExactCatchKeyUptoSaid : Prop := fnExactCatchKeyUptoRow.holds Try.pinned (OpenSpec.upto fnExactCatchKeySpec)

end Rows
end Go.Proofs.Ytagljofpmjaciaa
