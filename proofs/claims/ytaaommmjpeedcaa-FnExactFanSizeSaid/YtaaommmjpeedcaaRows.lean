/-
  No cell of these rows narrows 'for every input' (looked for: loops, veiled, ifaces, maps, wideKeys, modest, calm, conditions, laid).
  DERIVED. THE GIVEN ROWS OF THIS SEAT. 12 by the template 'for every input the law returns true; each argument reads behind the call as it read before'; 0 by the template 'total and deterministic' (their statements: YtaaommmjpeedcaaTotals.lean).
  GIVEN WITH THE SEED: the statements are not yours to turn. If you find one false, say at which input.
  Laid BY PROGRAM, IN A SANDBOX (cutbox-rows.mjs): the forced cells as the released guide's own fill.sh prints them over the translation 03f99886d8939a99… (all of the seat's roots in one cut). By AI agents, Wed Nov 11 2026. No macro, syntax, notation, axiom, sorry.
-/
import Derived.Test.YtaaommmjpeedcaaChecked
import GoSem.Claim
import GoSem.ClaimJoined
import GoSem.ClaimMapViews
import Derived.JoinedTies
import Derived.KernelRfl
namespace Go.Proofs.Ytaaommmjpeedcaa
/- THE CELL 'sum', in the pinned program and in every row, IS THE sha256 OF THE DUMP (.gsa) THAT YtaaommmjpeedcaaProg.lean LOADS. Nothing in Lean hashes anything: it is a label: what it is worth is what the hold of that sum in a sandbox is worth. -/
noncomputable def Try.pinned : Pinned := { name := "ytaaommmjpeedcaa", sum := "03f99886d8939a99a82f99a8acea028b0a192d88addf19383f00ebd2a4a2c32c", checked := Try.checked }
namespace Rows
def none {H : Type} : Left H := { results := [], args := [] }

/-- 'laws.FnExactSixesLen': WHATEVER THE INPUT: true; the input reads as it did. -/
def fnExactSixesLenSpec : ChangeSpec := { name := "fnExactSixesLen", fn := fun _ => fun
  | [d] => { results := [.lit (.bool true)], args := [d] }
  | _ => none }
def fnExactSixesLenRow : OpenClaim := { program := "ytaaommmjpeedcaa", sum := "03f99886d8939a99a82f99a8acea028b0a192d88addf19383f00ebd2a4a2c32c", func := "loop.example/g00473/laws.FnExactSixesLen", spec := "fnExactSixesLen", apart := false }
def FnExactSixesLenSaid : Prop := fnExactSixesLenRow.holds Try.pinned (OpenSpec.ofChange fnExactSixesLenSpec)

/-- ITS FALSE NEIGHBOUR: 'it returns false'. Refute it at one input. -/
def fnExactSixesLenWrong : ChangeSpec := { name := "fnExactSixesLen", fn := fun _ => fun
  | [d] => { results := [.lit (.bool false)], args := [d] }
  | _ => none }
def FnExactSixesLenWrongFalsely : Prop := fnExactSixesLenRow.holds Try.pinned (OpenSpec.ofChange fnExactSixesLenWrong)

/-- 'laws.FnExactChainOk': WHATEVER THE INPUT: true; the input reads as it did. -/
def fnExactChainOkSpec : ChangeSpec := { name := "fnExactChainOk", fn := fun _ => fun
  | [d] => { results := [.lit (.bool true)], args := [d] }
  | _ => none }
def fnExactChainOkRow : OpenClaim := { program := "ytaaommmjpeedcaa", sum := "03f99886d8939a99a82f99a8acea028b0a192d88addf19383f00ebd2a4a2c32c", func := "loop.example/g00473/laws.FnExactChainOk", spec := "fnExactChainOk", apart := false }
def FnExactChainOkSaid : Prop := fnExactChainOkRow.holds Try.pinned (OpenSpec.ofChange fnExactChainOkSpec)

/-- ITS FALSE NEIGHBOUR: 'it returns false'. Refute it at one input. -/
def fnExactChainOkWrong : ChangeSpec := { name := "fnExactChainOk", fn := fun _ => fun
  | [d] => { results := [.lit (.bool false)], args := [d] }
  | _ => none }
def FnExactChainOkWrongFalsely : Prop := fnExactChainOkRow.holds Try.pinned (OpenSpec.ofChange fnExactChainOkWrong)

/-- 'laws.FnExactSixes': WHATEVER THE INPUT: true; the input reads as it did. -/
def fnExactSixesSpec : ChangeSpec := { name := "fnExactSixes", fn := fun _ => fun
  | [d] => { results := [.lit (.bool true)], args := [d] }
  | _ => none }
def fnExactSixesRow : OpenClaim := { program := "ytaaommmjpeedcaa", sum := "03f99886d8939a99a82f99a8acea028b0a192d88addf19383f00ebd2a4a2c32c", func := "loop.example/g00473/laws.FnExactSixes", spec := "fnExactSixes", apart := false }
def FnExactSixesSaid : Prop := fnExactSixesRow.holds Try.pinned (OpenSpec.ofChange fnExactSixesSpec)

/-- ITS FALSE NEIGHBOUR: 'it returns false'. Refute it at one input. -/
def fnExactSixesWrong : ChangeSpec := { name := "fnExactSixes", fn := fun _ => fun
  | [d] => { results := [.lit (.bool false)], args := [d] }
  | _ => none }
def FnExactSixesWrongFalsely : Prop := fnExactSixesRow.holds Try.pinned (OpenSpec.ofChange fnExactSixesWrong)

/-- 'laws.FnExactRead': WHATEVER THE INPUT: true; the input reads as it did. -/
def fnExactReadSpec : ChangeSpec := { name := "fnExactRead", fn := fun _ => fun
  | [d1, d2] => { results := [.lit (.bool true)], args := [d1, d2] }
  | _ => none }
def fnExactReadRow : OpenClaim := { program := "ytaaommmjpeedcaa", sum := "03f99886d8939a99a82f99a8acea028b0a192d88addf19383f00ebd2a4a2c32c", func := "loop.example/g00473/laws.FnExactRead", spec := "fnExactRead", unfollowed := true, recurses := true, apart := false }
def FnExactReadSaid : Prop := fnExactReadRow.holds Try.pinned (OpenSpec.ofChange fnExactReadSpec)

/-- ITS FALSE NEIGHBOUR: 'it returns false'. Refute it at one input. -/
def fnExactReadWrong : ChangeSpec := { name := "fnExactRead", fn := fun _ => fun
  | [d1, d2] => { results := [.lit (.bool false)], args := [d1, d2] }
  | _ => none }
def FnExactReadWrongFalsely : Prop := fnExactReadRow.holds Try.pinned (OpenSpec.ofChange fnExactReadWrong)

/-- 'laws.FnExactUnsixes': WHATEVER THE INPUT: true; the input reads as it did. -/
def fnExactUnsixesSpec : ChangeSpec := { name := "fnExactUnsixes", fn := fun _ => fun
  | [d] => { results := [.lit (.bool true)], args := [d] }
  | _ => none }
def fnExactUnsixesRow : OpenClaim := { program := "ytaaommmjpeedcaa", sum := "03f99886d8939a99a82f99a8acea028b0a192d88addf19383f00ebd2a4a2c32c", func := "loop.example/g00473/laws.FnExactUnsixes", spec := "fnExactUnsixes", inPlace := ["internal/bytealg.IndexByteString"], apart := false }
def FnExactUnsixesSaid : Prop := fnExactUnsixesRow.holds Try.pinned (OpenSpec.ofChange fnExactUnsixesSpec)

/-- ITS FALSE NEIGHBOUR: 'it returns false'. Refute it at one input. -/
def fnExactUnsixesWrong : ChangeSpec := { name := "fnExactUnsixes", fn := fun _ => fun
  | [d] => { results := [.lit (.bool false)], args := [d] }
  | _ => none }
def FnExactUnsixesWrongFalsely : Prop := fnExactUnsixesRow.holds Try.pinned (OpenSpec.ofChange fnExactUnsixesWrong)

/-- 'laws.FnExactFanSame': WHATEVER THE INPUT: true; the input reads as it did. -/
def fnExactFanSameSpec : ChangeSpec := { name := "fnExactFanSame", fn := fun _ => fun
  | [d] => { results := [.lit (.bool true)], args := [d] }
  | _ => none }
def fnExactFanSameRow : OpenClaim := { program := "ytaaommmjpeedcaa", sum := "03f99886d8939a99a82f99a8acea028b0a192d88addf19383f00ebd2a4a2c32c", func := "loop.example/g00473/laws.FnExactFanSame", spec := "fnExactFanSame", unfollowed := true, recurses := true, apart := false }
def FnExactFanSameSaid : Prop := fnExactFanSameRow.holds Try.pinned (OpenSpec.ofChange fnExactFanSameSpec)

/-- ITS FALSE NEIGHBOUR: 'it returns false'. Refute it at one input. -/
def fnExactFanSameWrong : ChangeSpec := { name := "fnExactFanSame", fn := fun _ => fun
  | [d] => { results := [.lit (.bool false)], args := [d] }
  | _ => none }
def FnExactFanSameWrongFalsely : Prop := fnExactFanSameRow.holds Try.pinned (OpenSpec.ofChange fnExactFanSameWrong)

/-- 'laws.FnExactReaderOk': WHATEVER THE INPUT: true; the input reads as it did. -/
def fnExactReaderOkSpec : ChangeSpec := { name := "fnExactReaderOk", fn := fun _ => fun
  | [d] => { results := [.lit (.bool true)], args := [d] }
  | _ => none }
def fnExactReaderOkRow : OpenClaim := { program := "ytaaommmjpeedcaa", sum := "03f99886d8939a99a82f99a8acea028b0a192d88addf19383f00ebd2a4a2c32c", func := "loop.example/g00473/laws.FnExactReaderOk", spec := "fnExactReaderOk", unfollowed := true, recurses := true, apart := false }
def FnExactReaderOkSaid : Prop := fnExactReaderOkRow.holds Try.pinned (OpenSpec.ofChange fnExactReaderOkSpec)

/-- ITS FALSE NEIGHBOUR: 'it returns false'. Refute it at one input. -/
def fnExactReaderOkWrong : ChangeSpec := { name := "fnExactReaderOk", fn := fun _ => fun
  | [d] => { results := [.lit (.bool false)], args := [d] }
  | _ => none }
def FnExactReaderOkWrongFalsely : Prop := fnExactReaderOkRow.holds Try.pinned (OpenSpec.ofChange fnExactReaderOkWrong)

/-- 'laws.FnExactCatchOk': WHATEVER THE INPUT: true; the input reads as it did. -/
def fnExactCatchOkSpec : ChangeSpec := { name := "fnExactCatchOk", fn := fun _ => fun
  | [d] => { results := [.lit (.bool true)], args := [d] }
  | _ => none }
def fnExactCatchOkRow : OpenClaim := { program := "ytaaommmjpeedcaa", sum := "03f99886d8939a99a82f99a8acea028b0a192d88addf19383f00ebd2a4a2c32c", func := "loop.example/g00473/laws.FnExactCatchOk", spec := "fnExactCatchOk", apart := false }
def FnExactCatchOkSaid : Prop := fnExactCatchOkRow.holds Try.pinned (OpenSpec.ofChange fnExactCatchOkSpec)

/-- ITS FALSE NEIGHBOUR: 'it returns false'. Refute it at one input. -/
def fnExactCatchOkWrong : ChangeSpec := { name := "fnExactCatchOk", fn := fun _ => fun
  | [d] => { results := [.lit (.bool false)], args := [d] }
  | _ => none }
def FnExactCatchOkWrongFalsely : Prop := fnExactCatchOkRow.holds Try.pinned (OpenSpec.ofChange fnExactCatchOkWrong)

/-- 'laws.FnExactReaderNew': WHATEVER THE INPUT: true; the input reads as it did. -/
def fnExactReaderNewSpec : ChangeSpec := { name := "fnExactReaderNew", fn := fun _ => fun
  | [d] => { results := [.lit (.bool true)], args := [d] }
  | _ => none }
def fnExactReaderNewRow : OpenClaim := { program := "ytaaommmjpeedcaa", sum := "03f99886d8939a99a82f99a8acea028b0a192d88addf19383f00ebd2a4a2c32c", func := "loop.example/g00473/laws.FnExactReaderNew", spec := "fnExactReaderNew", unfollowed := true, recurses := true, apart := false }
def FnExactReaderNewSaid : Prop := fnExactReaderNewRow.holds Try.pinned (OpenSpec.ofChange fnExactReaderNewSpec)

/-- ITS FALSE NEIGHBOUR: 'it returns false'. Refute it at one input. -/
def fnExactReaderNewWrong : ChangeSpec := { name := "fnExactReaderNew", fn := fun _ => fun
  | [d] => { results := [.lit (.bool false)], args := [d] }
  | _ => none }
def FnExactReaderNewWrongFalsely : Prop := fnExactReaderNewRow.holds Try.pinned (OpenSpec.ofChange fnExactReaderNewWrong)

/-- 'laws.FnExactFanSize': WHATEVER THE INPUT: true; the input reads as it did. -/
def fnExactFanSizeSpec : ChangeSpec := { name := "fnExactFanSize", fn := fun _ => fun
  | [d] => { results := [.lit (.bool true)], args := [d] }
  | _ => none }
def fnExactFanSizeRow : OpenClaim := { program := "ytaaommmjpeedcaa", sum := "03f99886d8939a99a82f99a8acea028b0a192d88addf19383f00ebd2a4a2c32c", func := "loop.example/g00473/laws.FnExactFanSize", spec := "fnExactFanSize", inPlace := ["internal/bytealg.MakeNoZero"], apart := false }
def FnExactFanSizeSaid : Prop := fnExactFanSizeRow.holds Try.pinned (OpenSpec.ofChange fnExactFanSizeSpec)

/-- ITS FALSE NEIGHBOUR: 'it returns false'. Refute it at one input. -/
def fnExactFanSizeWrong : ChangeSpec := { name := "fnExactFanSize", fn := fun _ => fun
  | [d] => { results := [.lit (.bool false)], args := [d] }
  | _ => none }
def FnExactFanSizeWrongFalsely : Prop := fnExactFanSizeRow.holds Try.pinned (OpenSpec.ofChange fnExactFanSizeWrong)

/-- 'laws.FnExactNext': WHATEVER THE INPUT: true; the input reads as it did. -/
def fnExactNextSpec : ChangeSpec := { name := "fnExactNext", fn := fun _ => fun
  | [d] => { results := [.lit (.bool true)], args := [d] }
  | _ => none }
def fnExactNextRow : OpenClaim := { program := "ytaaommmjpeedcaa", sum := "03f99886d8939a99a82f99a8acea028b0a192d88addf19383f00ebd2a4a2c32c", func := "loop.example/g00473/laws.FnExactNext", spec := "fnExactNext", unfollowed := true, recurses := true, apart := false }
def FnExactNextSaid : Prop := fnExactNextRow.holds Try.pinned (OpenSpec.ofChange fnExactNextSpec)

/-- ITS FALSE NEIGHBOUR: 'it returns false'. Refute it at one input. -/
def fnExactNextWrong : ChangeSpec := { name := "fnExactNext", fn := fun _ => fun
  | [d] => { results := [.lit (.bool false)], args := [d] }
  | _ => none }
def FnExactNextWrongFalsely : Prop := fnExactNextRow.holds Try.pinned (OpenSpec.ofChange fnExactNextWrong)

/-- 'laws.FnExactReaderOf': WHATEVER THE INPUT: true; the input reads as it did. -/
def fnExactReaderOfSpec : ChangeSpec := { name := "fnExactReaderOf", fn := fun _ => fun
  | [d] => { results := [.lit (.bool true)], args := [d] }
  | _ => none }
def fnExactReaderOfRow : OpenClaim := { program := "ytaaommmjpeedcaa", sum := "03f99886d8939a99a82f99a8acea028b0a192d88addf19383f00ebd2a4a2c32c", func := "loop.example/g00473/laws.FnExactReaderOf", spec := "fnExactReaderOf", unfollowed := true, recurses := true, apart := false }
def FnExactReaderOfSaid : Prop := fnExactReaderOfRow.holds Try.pinned (OpenSpec.ofChange fnExactReaderOfSpec)

/-- ITS FALSE NEIGHBOUR: 'it returns false'. Refute it at one input. -/
def fnExactReaderOfWrong : ChangeSpec := { name := "fnExactReaderOf", fn := fun _ => fun
  | [d] => { results := [.lit (.bool false)], args := [d] }
  | _ => none }
def FnExactReaderOfWrongFalsely : Prop := fnExactReaderOfRow.holds Try.pinned (OpenSpec.ofChange fnExactReaderOfWrong)

/- THE SECOND FORM. 'bulk': how many values and letters a reading holds, each counted each time it is reached (what is shared counts as often as it is met; a slice's spare places count too). A statement '..UptoSaid' is the law's where the arguments, and the package variables that the reading takes, are together of bulk at most 1048576: NARROWER than '..Said'. Prove '..Said' where nothing that the law and all that it calls make is longer than what came in: it says more and counts as full. Else prove '..UptoSaid'. A law counts once. -/
mutual
def uptoBulk {H : Type} : DataW H → Nat
  | .lit (.string bytes) => bytes.length + 1
  | .lit _ => 1
  | .nil => 1
  | .ptr d => uptoBulk d + 1
  | .slice elems spare => uptoBulkAll elems + uptoBulkAll spare + 1
  | .agg parts => uptoBulkAll parts + 1
  | .iface _ d => uptoBulk d + 1
  | .map entries => uptoBulkEntries entries + 1
  | .held _ => 1
def uptoBulkAll {H : Type} : List (DataW H) → Nat
  | [] => 0
  | d :: r => uptoBulk d + uptoBulkAll r
def uptoBulkEntries {H : Type} : List (Lit × DataW H) → Nat
  | [] => 0
  | x :: r => uptoBulkEntry x + uptoBulkEntries r
def uptoBulkEntry {H : Type} : Lit × DataW H → Nat
  | (.string bytes, d) => bytes.length + uptoBulk d + 1
  | (_, d) => uptoBulk d + 1
 end
def uptoSmall : (H : Type) → List (DataW H) → Bool := fun _ ds => decide (uptoBulkAll ds ≤ 1048576)
def OpenSpec.upto (s : _root_.Go.ChangeSpec) : _root_.Go.OpenSpec := { _root_.Go.OpenSpec.ofChange s with cond := some uptoSmall }

/-- 'laws.FnExactSixesLen', WHERE WHAT IT READS IS OF BULK AT MOST 1048576: true; the input reads as it did. -/
def fnExactSixesLenUptoRow : OpenClaim := { program := "ytaaommmjpeedcaa", sum := "03f99886d8939a99a82f99a8acea028b0a192d88addf19383f00ebd2a4a2c32c", func := "loop.example/g00473/laws.FnExactSixesLen", spec := "fnExactSixesLen", apart := false, narrowed := true }
def FnExactSixesLenUptoSaid : Prop := fnExactSixesLenUptoRow.holds Try.pinned (OpenSpec.upto fnExactSixesLenSpec)

/-- 'laws.FnExactChainOk', WHERE WHAT IT READS IS OF BULK AT MOST 1048576: true; the input reads as it did. -/
def fnExactChainOkUptoRow : OpenClaim := { program := "ytaaommmjpeedcaa", sum := "03f99886d8939a99a82f99a8acea028b0a192d88addf19383f00ebd2a4a2c32c", func := "loop.example/g00473/laws.FnExactChainOk", spec := "fnExactChainOk", apart := false, narrowed := true }
def FnExactChainOkUptoSaid : Prop := fnExactChainOkUptoRow.holds Try.pinned (OpenSpec.upto fnExactChainOkSpec)

/-- 'laws.FnExactSixes', WHERE WHAT IT READS IS OF BULK AT MOST 1048576: true; the input reads as it did. -/
def fnExactSixesUptoRow : OpenClaim := { program := "ytaaommmjpeedcaa", sum := "03f99886d8939a99a82f99a8acea028b0a192d88addf19383f00ebd2a4a2c32c", func := "loop.example/g00473/laws.FnExactSixes", spec := "fnExactSixes", apart := false, narrowed := true }
def FnExactSixesUptoSaid : Prop := fnExactSixesUptoRow.holds Try.pinned (OpenSpec.upto fnExactSixesSpec)

/-- 'laws.FnExactRead', WHERE WHAT IT READS IS OF BULK AT MOST 1048576: true; the input reads as it did. -/
def fnExactReadUptoRow : OpenClaim := { program := "ytaaommmjpeedcaa", sum := "03f99886d8939a99a82f99a8acea028b0a192d88addf19383f00ebd2a4a2c32c", func := "loop.example/g00473/laws.FnExactRead", spec := "fnExactRead", unfollowed := true, recurses := true, apart := false, narrowed := true }
def FnExactReadUptoSaid : Prop := fnExactReadUptoRow.holds Try.pinned (OpenSpec.upto fnExactReadSpec)

/-- 'laws.FnExactUnsixes', WHERE WHAT IT READS IS OF BULK AT MOST 1048576: true; the input reads as it did. -/
def fnExactUnsixesUptoRow : OpenClaim := { program := "ytaaommmjpeedcaa", sum := "03f99886d8939a99a82f99a8acea028b0a192d88addf19383f00ebd2a4a2c32c", func := "loop.example/g00473/laws.FnExactUnsixes", spec := "fnExactUnsixes", inPlace := ["internal/bytealg.IndexByteString"], apart := false, narrowed := true }
def FnExactUnsixesUptoSaid : Prop := fnExactUnsixesUptoRow.holds Try.pinned (OpenSpec.upto fnExactUnsixesSpec)

/-- 'laws.FnExactFanSame', WHERE WHAT IT READS IS OF BULK AT MOST 1048576: true; the input reads as it did. -/
def fnExactFanSameUptoRow : OpenClaim := { program := "ytaaommmjpeedcaa", sum := "03f99886d8939a99a82f99a8acea028b0a192d88addf19383f00ebd2a4a2c32c", func := "loop.example/g00473/laws.FnExactFanSame", spec := "fnExactFanSame", unfollowed := true, recurses := true, apart := false, narrowed := true }
def FnExactFanSameUptoSaid : Prop := fnExactFanSameUptoRow.holds Try.pinned (OpenSpec.upto fnExactFanSameSpec)

/-- 'laws.FnExactReaderOk', WHERE WHAT IT READS IS OF BULK AT MOST 1048576: true; the input reads as it did. -/
def fnExactReaderOkUptoRow : OpenClaim := { program := "ytaaommmjpeedcaa", sum := "03f99886d8939a99a82f99a8acea028b0a192d88addf19383f00ebd2a4a2c32c", func := "loop.example/g00473/laws.FnExactReaderOk", spec := "fnExactReaderOk", unfollowed := true, recurses := true, apart := false, narrowed := true }
def FnExactReaderOkUptoSaid : Prop := fnExactReaderOkUptoRow.holds Try.pinned (OpenSpec.upto fnExactReaderOkSpec)

/-- 'laws.FnExactCatchOk', WHERE WHAT IT READS IS OF BULK AT MOST 1048576: true; the input reads as it did. -/
def fnExactCatchOkUptoRow : OpenClaim := { program := "ytaaommmjpeedcaa", sum := "03f99886d8939a99a82f99a8acea028b0a192d88addf19383f00ebd2a4a2c32c", func := "loop.example/g00473/laws.FnExactCatchOk", spec := "fnExactCatchOk", apart := false, narrowed := true }
def FnExactCatchOkUptoSaid : Prop := fnExactCatchOkUptoRow.holds Try.pinned (OpenSpec.upto fnExactCatchOkSpec)

/-- 'laws.FnExactReaderNew', WHERE WHAT IT READS IS OF BULK AT MOST 1048576: true; the input reads as it did. -/
def fnExactReaderNewUptoRow : OpenClaim := { program := "ytaaommmjpeedcaa", sum := "03f99886d8939a99a82f99a8acea028b0a192d88addf19383f00ebd2a4a2c32c", func := "loop.example/g00473/laws.FnExactReaderNew", spec := "fnExactReaderNew", unfollowed := true, recurses := true, apart := false, narrowed := true }
def FnExactReaderNewUptoSaid : Prop := fnExactReaderNewUptoRow.holds Try.pinned (OpenSpec.upto fnExactReaderNewSpec)

/-- 'laws.FnExactFanSize', WHERE WHAT IT READS IS OF BULK AT MOST 1048576: true; the input reads as it did. -/
def fnExactFanSizeUptoRow : OpenClaim := { program := "ytaaommmjpeedcaa", sum := "03f99886d8939a99a82f99a8acea028b0a192d88addf19383f00ebd2a4a2c32c", func := "loop.example/g00473/laws.FnExactFanSize", spec := "fnExactFanSize", inPlace := ["internal/bytealg.MakeNoZero"], apart := false, narrowed := true }
def FnExactFanSizeUptoSaid : Prop := fnExactFanSizeUptoRow.holds Try.pinned (OpenSpec.upto fnExactFanSizeSpec)

/-- 'laws.FnExactNext', WHERE WHAT IT READS IS OF BULK AT MOST 1048576: true; the input reads as it did. -/
def fnExactNextUptoRow : OpenClaim := { program := "ytaaommmjpeedcaa", sum := "03f99886d8939a99a82f99a8acea028b0a192d88addf19383f00ebd2a4a2c32c", func := "loop.example/g00473/laws.FnExactNext", spec := "fnExactNext", unfollowed := true, recurses := true, apart := false, narrowed := true }
def FnExactNextUptoSaid : Prop := fnExactNextUptoRow.holds Try.pinned (OpenSpec.upto fnExactNextSpec)

/-- 'laws.FnExactReaderOf', WHERE WHAT IT READS IS OF BULK AT MOST 1048576: true; the input reads as it did. -/
def fnExactReaderOfUptoRow : OpenClaim := { program := "ytaaommmjpeedcaa", sum := "03f99886d8939a99a82f99a8acea028b0a192d88addf19383f00ebd2a4a2c32c", func := "loop.example/g00473/laws.FnExactReaderOf", spec := "fnExactReaderOf", unfollowed := true, recurses := true, apart := false, narrowed := true }
def FnExactReaderOfUptoSaid : Prop := fnExactReaderOfUptoRow.holds Try.pinned (OpenSpec.upto fnExactReaderOfSpec)

end Rows
end Go.Proofs.Ytaaommmjpeedcaa
