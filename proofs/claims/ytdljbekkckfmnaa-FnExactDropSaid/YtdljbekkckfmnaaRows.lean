/-
  No cell of these rows narrows 'for every input' (looked for: loops, veiled, ifaces, maps, wideKeys, modest, calm, conditions, laid).
  DERIVED. THE GIVEN ROWS OF THIS SEAT. 6 by the template 'for every input the law returns true; each argument reads behind the call as it read before'; 0 by the template 'total and deterministic' (their statements: YtdljbekkckfmnaaTotals.lean).
  GIVEN WITH THE SEED: the statements are not yours to turn. If you find one false, say at which input.
  Laid BY PROGRAM, IN A SANDBOX (cutbox-rows.mjs): the forced cells as the released guide's own fill.sh prints them over the translation e583867731ba806b… (all of the seat's roots in one cut). By AI agents, Wed Nov 11 2026. No macro, syntax, notation, axiom, sorry.
-/
import Derived.Test.YtdljbekkckfmnaaChecked
import GoSem.Claim
import GoSem.ClaimJoined
import GoSem.ClaimMapViews
import Derived.JoinedTies
import Derived.KernelRfl
namespace Go.Proofs.Ytdljbekkckfmnaa
/- THE CELL 'sum', in the pinned program and in every row, IS THE sha256 OF THE DUMP (.gsa) THAT YtdljbekkckfmnaaProg.lean LOADS. Nothing in Lean hashes anything: it is a label: what it is worth is what the hold of that sum in a sandbox is worth. -/
noncomputable def Try.pinned : Pinned := { name := "ytdljbekkckfmnaa", sum := "e583867731ba806b14a54f974c02f268f1dab24e77f15911194f080d8b1568a2", checked := Try.checked }
namespace Rows
def none {H : Type} : Left H := { results := [], args := [] }

/-- 'laws.FnExactLinesOf': WHATEVER THE INPUT: true; the input reads as it did. -/
def fnExactLinesOfSpec : ChangeSpec := { name := "fnExactLinesOf", fn := fun _ => fun
  | [d] => { results := [.lit (.bool true)], args := [d] }
  | _ => none }
def fnExactLinesOfRow : OpenClaim := { program := "ytdljbekkckfmnaa", sum := "e583867731ba806b14a54f974c02f268f1dab24e77f15911194f080d8b1568a2", func := "loop.example/g00473/laws.FnExactLinesOf", spec := "fnExactLinesOf", inPlace := ["internal/bytealg.IndexByteString", "internal/bytealg.MakeNoZero"], apart := false }
def FnExactLinesOfSaid : Prop := fnExactLinesOfRow.holds Try.pinned (OpenSpec.ofChange fnExactLinesOfSpec)

/-- ITS FALSE NEIGHBOUR: 'it returns false'. Refute it at one input. -/
def fnExactLinesOfWrong : ChangeSpec := { name := "fnExactLinesOf", fn := fun _ => fun
  | [d] => { results := [.lit (.bool false)], args := [d] }
  | _ => none }
def FnExactLinesOfWrongFalsely : Prop := fnExactLinesOfRow.holds Try.pinned (OpenSpec.ofChange fnExactLinesOfWrong)

/-- 'laws.FnExactSync': WHATEVER THE INPUT: true; the input reads as it did. -/
def fnExactSyncSpec : ChangeSpec := { name := "fnExactSync", fn := fun _ => fun
  | [d] => { results := [.lit (.bool true)], args := [d] }
  | _ => none }
def fnExactSyncRow : OpenClaim := { program := "ytdljbekkckfmnaa", sum := "e583867731ba806b14a54f974c02f268f1dab24e77f15911194f080d8b1568a2", func := "loop.example/g00473/laws.FnExactSync", spec := "fnExactSync", inPlace := ["internal/bytealg.IndexByteString", "internal/bytealg.MakeNoZero"], unfollowed := true, recurses := true, apart := false }
def FnExactSyncSaid : Prop := fnExactSyncRow.holds Try.pinned (OpenSpec.ofChange fnExactSyncSpec)

/-- ITS FALSE NEIGHBOUR: 'it returns false'. Refute it at one input. -/
def fnExactSyncWrong : ChangeSpec := { name := "fnExactSync", fn := fun _ => fun
  | [d] => { results := [.lit (.bool false)], args := [d] }
  | _ => none }
def FnExactSyncWrongFalsely : Prop := fnExactSyncRow.holds Try.pinned (OpenSpec.ofChange fnExactSyncWrong)

/-- 'laws.FnExactFallTo': WHATEVER THE INPUT: true; the input reads as it did. -/
def fnExactFallToSpec : ChangeSpec := { name := "fnExactFallTo", fn := fun _ => fun
  | [d1, d2] => { results := [.lit (.bool true)], args := [d1, d2] }
  | _ => none }
def fnExactFallToRow : OpenClaim := { program := "ytdljbekkckfmnaa", sum := "e583867731ba806b14a54f974c02f268f1dab24e77f15911194f080d8b1568a2", func := "loop.example/g00473/laws.FnExactFallTo", spec := "fnExactFallTo", inPlace := ["internal/bytealg.IndexByteString", "internal/bytealg.MakeNoZero"], unfollowed := true, recurses := true, apart := false }
def FnExactFallToSaid : Prop := fnExactFallToRow.holds Try.pinned (OpenSpec.ofChange fnExactFallToSpec)

/-- ITS FALSE NEIGHBOUR: 'it returns false'. Refute it at one input. -/
def fnExactFallToWrong : ChangeSpec := { name := "fnExactFallTo", fn := fun _ => fun
  | [d1, d2] => { results := [.lit (.bool false)], args := [d1, d2] }
  | _ => none }
def FnExactFallToWrongFalsely : Prop := fnExactFallToRow.holds Try.pinned (OpenSpec.ofChange fnExactFallToWrong)

/-- 'laws.FnExactTick': WHATEVER THE INPUT: true; the input reads as it did. -/
def fnExactTickSpec : ChangeSpec := { name := "fnExactTick", fn := fun _ => fun
  | [d1, d2] => { results := [.lit (.bool true)], args := [d1, d2] }
  | _ => none }
def fnExactTickRow : OpenClaim := { program := "ytdljbekkckfmnaa", sum := "e583867731ba806b14a54f974c02f268f1dab24e77f15911194f080d8b1568a2", func := "loop.example/g00473/laws.FnExactTick", spec := "fnExactTick", inPlace := ["internal/bytealg.IndexByteString", "internal/bytealg.MakeNoZero"], unfollowed := true, recurses := true, apart := false }
def FnExactTickSaid : Prop := fnExactTickRow.holds Try.pinned (OpenSpec.ofChange fnExactTickSpec)

/-- ITS FALSE NEIGHBOUR: 'it returns false'. Refute it at one input. -/
def fnExactTickWrong : ChangeSpec := { name := "fnExactTick", fn := fun _ => fun
  | [d1, d2] => { results := [.lit (.bool false)], args := [d1, d2] }
  | _ => none }
def FnExactTickWrongFalsely : Prop := fnExactTickRow.holds Try.pinned (OpenSpec.ofChange fnExactTickWrong)

/-- 'laws.FnExactDrop': WHATEVER THE INPUT: true; the input reads as it did. -/
def fnExactDropSpec : ChangeSpec := { name := "fnExactDrop", fn := fun _ => fun
  | [d1, d2] => { results := [.lit (.bool true)], args := [d1, d2] }
  | _ => none }
def fnExactDropRow : OpenClaim := { program := "ytdljbekkckfmnaa", sum := "e583867731ba806b14a54f974c02f268f1dab24e77f15911194f080d8b1568a2", func := "loop.example/g00473/laws.FnExactDrop", spec := "fnExactDrop", inPlace := ["internal/bytealg.IndexByteString", "internal/bytealg.MakeNoZero"], unfollowed := true, recurses := true, apart := false }
def FnExactDropSaid : Prop := fnExactDropRow.holds Try.pinned (OpenSpec.ofChange fnExactDropSpec)

/-- ITS FALSE NEIGHBOUR: 'it returns false'. Refute it at one input. -/
def fnExactDropWrong : ChangeSpec := { name := "fnExactDrop", fn := fun _ => fun
  | [d1, d2] => { results := [.lit (.bool false)], args := [d1, d2] }
  | _ => none }
def FnExactDropWrongFalsely : Prop := fnExactDropRow.holds Try.pinned (OpenSpec.ofChange fnExactDropWrong)

/-- 'laws.FnExactFetch': WHATEVER THE INPUT: true; the input reads as it did. -/
def fnExactFetchSpec : ChangeSpec := { name := "fnExactFetch", fn := fun _ => fun
  | [d1, d2] => { results := [.lit (.bool true)], args := [d1, d2] }
  | _ => none }
def fnExactFetchRow : OpenClaim := { program := "ytdljbekkckfmnaa", sum := "e583867731ba806b14a54f974c02f268f1dab24e77f15911194f080d8b1568a2", func := "loop.example/g00473/laws.FnExactFetch", spec := "fnExactFetch", inPlace := ["internal/bytealg.IndexByteString", "internal/bytealg.MakeNoZero"], unfollowed := true, recurses := true, apart := false }
def FnExactFetchSaid : Prop := fnExactFetchRow.holds Try.pinned (OpenSpec.ofChange fnExactFetchSpec)

/-- ITS FALSE NEIGHBOUR: 'it returns false'. Refute it at one input. -/
def fnExactFetchWrong : ChangeSpec := { name := "fnExactFetch", fn := fun _ => fun
  | [d1, d2] => { results := [.lit (.bool false)], args := [d1, d2] }
  | _ => none }
def FnExactFetchWrongFalsely : Prop := fnExactFetchRow.holds Try.pinned (OpenSpec.ofChange fnExactFetchWrong)

/- THE SECOND FORM. 'bulk': how many values and letters a reading holds, each counted each time it is reached (what is shared counts as often as it is met; a slice's spare places count too). A statement '..UptoSaid' is the law's where the arguments, and the package variables that the reading takes, are together of bulk at most 1048576: NARROWER than '..Said'. Prove '..Said' where nothing that the law and all that it calls make is longer than what came in: it says more and counts as full. Else prove '..UptoSaid'. A law counts once. -/
mutual
def uptoBulk {H : Type} : DataW H → Nat
  | .lit (.string bytes) => bytes.length + 1
  | .lit _ => 1
  | .nil => 1
  | .ptr d => uptoBulk d + 1
  | .slice elems spare => uptoBulkAll elems + uptoBulkAll spare + 1
  | .agg parts => uptoBulkAll parts + 1
  | .iface _ d => uptoBulk d + 1
  | .map entries => uptoBulkEntries entries + 1
  | .held _ => 1
def uptoBulkAll {H : Type} : List (DataW H) → Nat
  | [] => 0
  | d :: r => uptoBulk d + uptoBulkAll r
def uptoBulkEntries {H : Type} : List (Lit × DataW H) → Nat
  | [] => 0
  | x :: r => uptoBulkEntry x + uptoBulkEntries r
def uptoBulkEntry {H : Type} : Lit × DataW H → Nat
  | (.string bytes, d) => bytes.length + uptoBulk d + 1
  | (_, d) => uptoBulk d + 1
 end
def uptoSmall : (H : Type) → List (DataW H) → Bool := fun _ ds => decide (uptoBulkAll ds ≤ 1048576)
def OpenSpec.upto (s : _root_.Go.ChangeSpec) : _root_.Go.OpenSpec := { _root_.Go.OpenSpec.ofChange s with cond := some uptoSmall }

/-- 'laws.FnExactLinesOf', WHERE WHAT IT READS IS OF BULK AT MOST 1048576: true; the input reads as it did. -/
def fnExactLinesOfUptoRow : OpenClaim := { program := "ytdljbekkckfmnaa", sum := "e583867731ba806b14a54f974c02f268f1dab24e77f15911194f080d8b1568a2", func := "loop.example/g00473/laws.FnExactLinesOf", spec := "fnExactLinesOf", inPlace := ["internal/bytealg.IndexByteString", "internal/bytealg.MakeNoZero"], apart := false, narrowed := true }
def FnExactLinesOfUptoSaid : Prop := fnExactLinesOfUptoRow.holds Try.pinned (OpenSpec.upto fnExactLinesOfSpec)

/-- 'laws.FnExactSync', WHERE WHAT IT READS IS OF BULK AT MOST 1048576: true; the input reads as it did. -/
def fnExactSyncUptoRow : OpenClaim := { program := "ytdljbekkckfmnaa", sum := "e583867731ba806b14a54f974c02f268f1dab24e77f15911194f080d8b1568a2", func := "loop.example/g00473/laws.FnExactSync", spec := "fnExactSync", inPlace := ["internal/bytealg.IndexByteString", "internal/bytealg.MakeNoZero"], unfollowed := true, recurses := true, apart := false, narrowed := true }
def FnExactSyncUptoSaid : Prop := fnExactSyncUptoRow.holds Try.pinned (OpenSpec.upto fnExactSyncSpec)

/-- 'laws.FnExactFallTo', WHERE WHAT IT READS IS OF BULK AT MOST 1048576: true; the input reads as it did. -/
def fnExactFallToUptoRow : OpenClaim := { program := "ytdljbekkckfmnaa", sum := "e583867731ba806b14a54f974c02f268f1dab24e77f15911194f080d8b1568a2", func := "loop.example/g00473/laws.FnExactFallTo", spec := "fnExactFallTo", inPlace := ["internal/bytealg.IndexByteString", "internal/bytealg.MakeNoZero"], unfollowed := true, recurses := true, apart := false, narrowed := true }
def FnExactFallToUptoSaid : Prop := fnExactFallToUptoRow.holds Try.pinned (OpenSpec.upto fnExactFallToSpec)

/-- 'laws.FnExactTick', WHERE WHAT IT READS IS OF BULK AT MOST 1048576: true; the input reads as it did. -/
def fnExactTickUptoRow : OpenClaim := { program := "ytdljbekkckfmnaa", sum := "e583867731ba806b14a54f974c02f268f1dab24e77f15911194f080d8b1568a2", func := "loop.example/g00473/laws.FnExactTick", spec := "fnExactTick", inPlace := ["internal/bytealg.IndexByteString", "internal/bytealg.MakeNoZero"], unfollowed := true, recurses := true, apart := false, narrowed := true }
def FnExactTickUptoSaid : Prop := fnExactTickUptoRow.holds Try.pinned (OpenSpec.upto fnExactTickSpec)

/-- 'laws.FnExactDrop', WHERE WHAT IT READS IS OF BULK AT MOST 1048576: true; the input reads as it did. -/
def fnExactDropUptoRow : OpenClaim := { program := "ytdljbekkckfmnaa", sum := "e583867731ba806b14a54f974c02f268f1dab24e77f15911194f080d8b1568a2", func := "loop.example/g00473/laws.FnExactDrop", spec := "fnExactDrop", inPlace := ["internal/bytealg.IndexByteString", "internal/bytealg.MakeNoZero"], unfollowed := true, recurses := true, apart := false, narrowed := true }
def FnExactDropUptoSaid : Prop := fnExactDropUptoRow.holds Try.pinned (OpenSpec.upto fnExactDropSpec)

/-- 'laws.FnExactFetch', WHERE WHAT IT READS IS OF BULK AT MOST 1048576: true; the input reads as it did. -/
def fnExactFetchUptoRow : OpenClaim := { program := "ytdljbekkckfmnaa", sum := "e583867731ba806b14a54f974c02f268f1dab24e77f15911194f080d8b1568a2", func := "loop.example/g00473/laws.FnExactFetch", spec := "fnExactFetch", inPlace := ["internal/bytealg.IndexByteString", "internal/bytealg.MakeNoZero"], unfollowed := true, recurses := true, apart := false, narrowed := true }
def FnExactFetchUptoSaid : Prop := fnExactFetchUptoRow.holds Try.pinned (OpenSpec.upto fnExactFetchSpec)

end Rows
end Go.Proofs.Ytdljbekkckfmnaa
