/-
  No cell of these rows narrows 'for every input' (looked for: loops, veiled, ifaces, maps, wideKeys, modest, calm, conditions, laid).
  DERIVED. THE GIVEN ROWS OF THIS SEAT. 6 by the template 'for every input the law returns true; each argument reads behind the call as it read before'; 0 by the template 'total and deterministic' (their statements: YtdljbekkckfmnaaGreatTotals.lean).
  GIVEN WITH THE SEED: the statements are not yours to turn. If you find one false, say at which input.
  Laid BY PROGRAM, IN A SANDBOX (cutbox-rows.mjs): the forced cells as the released guide's own fill.sh prints them over the translation 1cc7171f1e76b662… (all of the seat's roots in one cut). By AI agents, Wed Nov 11 2026. No macro, syntax, notation, axiom, sorry.
-/
import Derived.Test.YtdljbekkckfmnaaGreatChecked
import GoSem.Claim
import GoSem.ClaimJoined
import GoSem.ClaimMapViews
import Derived.JoinedTies
import Derived.KernelRfl
namespace Go.Proofs.YtdljbekkckfmnaaGreat
/- THE CELL 'sum', in the pinned program and in every row, IS THE sha256 OF THE DUMP (.gsa) THAT YtdljbekkckfmnaaGreatProg.lean LOADS. Nothing in Lean hashes anything: it is a label: what it is worth is what the hold of that sum in a sandbox is worth. -/
noncomputable def Tryz.pinned : Pinned := { name := "ytdljbekkckfmnaagreat", sum := "1cc7171f1e76b6621a3c12f03198cb4f72b666a924859ea9bc7967be423a2073", checked := Tryz.checked }
namespace Rows
def none {H : Type} : Left H := { results := [], args := [] }

/-- 'laws.FnGrowsOn': WHATEVER THE INPUT: true; the input reads as it did. -/
def fnGrowsOnSpec : ChangeSpec := { name := "fnGrowsOn", fn := fun _ => fun
  | [d] => { results := [.lit (.bool true)], args := [d] }
  | _ => none }
def fnGrowsOnRow : OpenClaim := { program := "ytdljbekkckfmnaagreat", sum := "1cc7171f1e76b6621a3c12f03198cb4f72b666a924859ea9bc7967be423a2073", func := "loop.example/g00473/laws.FnGrowsOn", spec := "fnGrowsOn", inPlace := ["internal/bytealg.IndexByteString", "internal/bytealg.MakeNoZero"], unfollowed := true, recurses := true, apart := false }
def FnGrowsOnSaid : Prop := fnGrowsOnRow.holds Tryz.pinned (OpenSpec.ofChange fnGrowsOnSpec)

/-- ITS FALSE NEIGHBOUR: 'it returns false'. Refute it at one input. -/
def fnGrowsOnWrong : ChangeSpec := { name := "fnGrowsOn", fn := fun _ => fun
  | [d] => { results := [.lit (.bool false)], args := [d] }
  | _ => none }
def FnGrowsOnWrongFalsely : Prop := fnGrowsOnRow.holds Tryz.pinned (OpenSpec.ofChange fnGrowsOnWrong)

/-- 'laws.FnPosts': WHATEVER THE INPUT: true; the input reads as it did. -/
def fnPostsSpec : ChangeSpec := { name := "fnPosts", fn := fun _ => fun
  | [d] => { results := [.lit (.bool true)], args := [d] }
  | _ => none }
def fnPostsRow : OpenClaim := { program := "ytdljbekkckfmnaagreat", sum := "1cc7171f1e76b6621a3c12f03198cb4f72b666a924859ea9bc7967be423a2073", func := "loop.example/g00473/laws.FnPosts", spec := "fnPosts", inPlace := ["internal/bytealg.IndexByteString", "internal/bytealg.MakeNoZero"], unfollowed := true, recurses := true, apart := false }
def FnPostsSaid : Prop := fnPostsRow.holds Tryz.pinned (OpenSpec.ofChange fnPostsSpec)

/-- ITS FALSE NEIGHBOUR: 'it returns false'. Refute it at one input. -/
def fnPostsWrong : ChangeSpec := { name := "fnPosts", fn := fun _ => fun
  | [d] => { results := [.lit (.bool false)], args := [d] }
  | _ => none }
def FnPostsWrongFalsely : Prop := fnPostsRow.holds Tryz.pinned (OpenSpec.ofChange fnPostsWrong)

/-- 'laws.FnRootsOutlast': WHATEVER THE INPUT: true; the input reads as it did. -/
def fnRootsOutlastSpec : ChangeSpec := { name := "fnRootsOutlast", fn := fun _ => fun
  | [d] => { results := [.lit (.bool true)], args := [d] }
  | _ => none }
def fnRootsOutlastRow : OpenClaim := { program := "ytdljbekkckfmnaagreat", sum := "1cc7171f1e76b6621a3c12f03198cb4f72b666a924859ea9bc7967be423a2073", func := "loop.example/g00473/laws.FnRootsOutlast", spec := "fnRootsOutlast", inPlace := ["internal/bytealg.IndexByteString", "internal/bytealg.MakeNoZero"], unfollowed := true, recurses := true, apart := false }
def FnRootsOutlastSaid : Prop := fnRootsOutlastRow.holds Tryz.pinned (OpenSpec.ofChange fnRootsOutlastSpec)

/-- ITS FALSE NEIGHBOUR: 'it returns false'. Refute it at one input. -/
def fnRootsOutlastWrong : ChangeSpec := { name := "fnRootsOutlast", fn := fun _ => fun
  | [d] => { results := [.lit (.bool false)], args := [d] }
  | _ => none }
def FnRootsOutlastWrongFalsely : Prop := fnRootsOutlastRow.holds Tryz.pinned (OpenSpec.ofChange fnRootsOutlastWrong)

/-- 'laws.FnExactPostRoot': WHATEVER THE INPUT: true; the input reads as it did. -/
def fnExactPostRootSpec : ChangeSpec := { name := "fnExactPostRoot", fn := fun _ => fun
  | [d] => { results := [.lit (.bool true)], args := [d] }
  | _ => none }
def fnExactPostRootRow : OpenClaim := { program := "ytdljbekkckfmnaagreat", sum := "1cc7171f1e76b6621a3c12f03198cb4f72b666a924859ea9bc7967be423a2073", func := "loop.example/g00473/laws.FnExactPostRoot", spec := "fnExactPostRoot", inPlace := ["internal/bytealg.IndexByteString", "internal/bytealg.MakeNoZero"], unfollowed := true, recurses := true, apart := false }
def FnExactPostRootSaid : Prop := fnExactPostRootRow.holds Tryz.pinned (OpenSpec.ofChange fnExactPostRootSpec)

/-- ITS FALSE NEIGHBOUR: 'it returns false'. Refute it at one input. -/
def fnExactPostRootWrong : ChangeSpec := { name := "fnExactPostRoot", fn := fun _ => fun
  | [d] => { results := [.lit (.bool false)], args := [d] }
  | _ => none }
def FnExactPostRootWrongFalsely : Prop := fnExactPostRootRow.holds Tryz.pinned (OpenSpec.ofChange fnExactPostRootWrong)

/-- 'laws.FnExactPostProof': WHATEVER THE INPUT: true; the input reads as it did. -/
def fnExactPostProofSpec : ChangeSpec := { name := "fnExactPostProof", fn := fun _ => fun
  | [d1, d2] => { results := [.lit (.bool true)], args := [d1, d2] }
  | _ => none }
def fnExactPostProofRow : OpenClaim := { program := "ytdljbekkckfmnaagreat", sum := "1cc7171f1e76b6621a3c12f03198cb4f72b666a924859ea9bc7967be423a2073", func := "loop.example/g00473/laws.FnExactPostProof", spec := "fnExactPostProof", inPlace := ["internal/bytealg.IndexByteString", "internal/bytealg.MakeNoZero"], unfollowed := true, recurses := true, apart := false }
def FnExactPostProofSaid : Prop := fnExactPostProofRow.holds Tryz.pinned (OpenSpec.ofChange fnExactPostProofSpec)

/-- ITS FALSE NEIGHBOUR: 'it returns false'. Refute it at one input. -/
def fnExactPostProofWrong : ChangeSpec := { name := "fnExactPostProof", fn := fun _ => fun
  | [d1, d2] => { results := [.lit (.bool false)], args := [d1, d2] }
  | _ => none }
def FnExactPostProofWrongFalsely : Prop := fnExactPostProofRow.holds Tryz.pinned (OpenSpec.ofChange fnExactPostProofWrong)

/-- 'laws.FnExactPostGrew': WHATEVER THE INPUT: true; the input reads as it did. -/
def fnExactPostGrewSpec : ChangeSpec := { name := "fnExactPostGrew", fn := fun _ => fun
  | [d1, d2] => { results := [.lit (.bool true)], args := [d1, d2] }
  | _ => none }
def fnExactPostGrewRow : OpenClaim := { program := "ytdljbekkckfmnaagreat", sum := "1cc7171f1e76b6621a3c12f03198cb4f72b666a924859ea9bc7967be423a2073", func := "loop.example/g00473/laws.FnExactPostGrew", spec := "fnExactPostGrew", inPlace := ["internal/bytealg.IndexByteString", "internal/bytealg.MakeNoZero"], unfollowed := true, recurses := true, apart := false }
def FnExactPostGrewSaid : Prop := fnExactPostGrewRow.holds Tryz.pinned (OpenSpec.ofChange fnExactPostGrewSpec)

/-- ITS FALSE NEIGHBOUR: 'it returns false'. Refute it at one input. -/
def fnExactPostGrewWrong : ChangeSpec := { name := "fnExactPostGrew", fn := fun _ => fun
  | [d1, d2] => { results := [.lit (.bool false)], args := [d1, d2] }
  | _ => none }
def FnExactPostGrewWrongFalsely : Prop := fnExactPostGrewRow.holds Tryz.pinned (OpenSpec.ofChange fnExactPostGrewWrong)

/- THE SECOND FORM. 'bulk': how many values and letters a reading holds, each counted each time it is reached (what is shared counts as often as it is met; a slice's spare places count too). A statement '..UptoSaid' is the law's where the arguments, and the package variables that the reading takes, are together of bulk at most 1048576: NARROWER than '..Said'. Prove '..Said' where nothing that the law and all that it calls make is longer than what came in: it says more and counts as full. Else prove '..UptoSaid'. A law counts once. -/
mutual
def uptoBulk {H : Type} : DataW H → Nat
  | .lit (.string bytes) => bytes.length + 1
  | .lit _ => 1
  | .nil => 1
  | .ptr d => uptoBulk d + 1
  | .slice elems spare => uptoBulkAll elems + uptoBulkAll spare + 1
  | .agg parts => uptoBulkAll parts + 1
  | .iface _ d => uptoBulk d + 1
  | .map entries => uptoBulkEntries entries + 1
  | .held _ => 1
def uptoBulkAll {H : Type} : List (DataW H) → Nat
  | [] => 0
  | d :: r => uptoBulk d + uptoBulkAll r
def uptoBulkEntries {H : Type} : List (Lit × DataW H) → Nat
  | [] => 0
  | x :: r => uptoBulkEntry x + uptoBulkEntries r
def uptoBulkEntry {H : Type} : Lit × DataW H → Nat
  | (.string bytes, d) => bytes.length + uptoBulk d + 1
  | (_, d) => uptoBulk d + 1
 end
def uptoSmall : (H : Type) → List (DataW H) → Bool := fun _ ds => decide (uptoBulkAll ds ≤ 1048576)
def OpenSpec.upto (s : _root_.Go.ChangeSpec) : _root_.Go.OpenSpec := { _root_.Go.OpenSpec.ofChange s with cond := some uptoSmall }

/-- 'laws.FnGrowsOn', WHERE WHAT IT READS IS OF BULK AT MOST 1048576: true; the input reads as it did. -/
def fnGrowsOnUptoRow : OpenClaim := { program := "ytdljbekkckfmnaagreat", sum := "1cc7171f1e76b6621a3c12f03198cb4f72b666a924859ea9bc7967be423a2073", func := "loop.example/g00473/laws.FnGrowsOn", spec := "fnGrowsOn", inPlace := ["internal/bytealg.IndexByteString", "internal/bytealg.MakeNoZero"], unfollowed := true, recurses := true, apart := false, narrowed := true }
def FnGrowsOnUptoSaid : Prop := fnGrowsOnUptoRow.holds Tryz.pinned (OpenSpec.upto fnGrowsOnSpec)

/-- 'laws.FnPosts', WHERE WHAT IT READS IS OF BULK AT MOST 1048576: true; the input reads as it did. -/
def fnPostsUptoRow : OpenClaim := { program := "ytdljbekkckfmnaagreat", sum := "1cc7171f1e76b6621a3c12f03198cb4f72b666a924859ea9bc7967be423a2073", func := "loop.example/g00473/laws.FnPosts", spec := "fnPosts", inPlace := ["internal/bytealg.IndexByteString", "internal/bytealg.MakeNoZero"], unfollowed := true, recurses := true, apart := false, narrowed := true }
def FnPostsUptoSaid : Prop := fnPostsUptoRow.holds Tryz.pinned (OpenSpec.upto fnPostsSpec)

/-- 'laws.FnRootsOutlast', WHERE WHAT IT READS IS OF BULK AT MOST 1048576: true; the input reads as it did. -/
def fnRootsOutlastUptoRow : OpenClaim := { program := "ytdljbekkckfmnaagreat", sum := "1cc7171f1e76b6621a3c12f03198cb4f72b666a924859ea9bc7967be423a2073", func := "loop.example/g00473/laws.FnRootsOutlast", spec := "fnRootsOutlast", inPlace := ["internal/bytealg.IndexByteString", "internal/bytealg.MakeNoZero"], unfollowed := true, recurses := true, apart := false, narrowed := true }
def FnRootsOutlastUptoSaid : Prop := fnRootsOutlastUptoRow.holds Tryz.pinned (OpenSpec.upto fnRootsOutlastSpec)

/-- 'laws.FnExactPostRoot', WHERE WHAT IT READS IS OF BULK AT MOST 1048576: true; the input reads as it did. -/
def fnExactPostRootUptoRow : OpenClaim := { program := "ytdljbekkckfmnaagreat", sum := "1cc7171f1e76b6621a3c12f03198cb4f72b666a924859ea9bc7967be423a2073", func := "loop.example/g00473/laws.FnExactPostRoot", spec := "fnExactPostRoot", inPlace := ["internal/bytealg.IndexByteString", "internal/bytealg.MakeNoZero"], unfollowed := true, recurses := true, apart := false, narrowed := true }
def FnExactPostRootUptoSaid : Prop := fnExactPostRootUptoRow.holds Tryz.pinned (OpenSpec.upto fnExactPostRootSpec)

/-- 'laws.FnExactPostProof', WHERE WHAT IT READS IS OF BULK AT MOST 1048576: true; the input reads as it did. -/
def fnExactPostProofUptoRow : OpenClaim := { program := "ytdljbekkckfmnaagreat", sum := "1cc7171f1e76b6621a3c12f03198cb4f72b666a924859ea9bc7967be423a2073", func := "loop.example/g00473/laws.FnExactPostProof", spec := "fnExactPostProof", inPlace := ["internal/bytealg.IndexByteString", "internal/bytealg.MakeNoZero"], unfollowed := true, recurses := true, apart := false, narrowed := true }
def FnExactPostProofUptoSaid : Prop := fnExactPostProofUptoRow.holds Tryz.pinned (OpenSpec.upto fnExactPostProofSpec)

/-- 'laws.FnExactPostGrew', WHERE WHAT IT READS IS OF BULK AT MOST 1048576: true; the input reads as it did. -/
def fnExactPostGrewUptoRow : OpenClaim := { program := "ytdljbekkckfmnaagreat", sum := "1cc7171f1e76b6621a3c12f03198cb4f72b666a924859ea9bc7967be423a2073", func := "loop.example/g00473/laws.FnExactPostGrew", spec := "fnExactPostGrew", inPlace := ["internal/bytealg.IndexByteString", "internal/bytealg.MakeNoZero"], unfollowed := true, recurses := true, apart := false, narrowed := true }
def FnExactPostGrewUptoSaid : Prop := fnExactPostGrewUptoRow.holds Tryz.pinned (OpenSpec.upto fnExactPostGrewSpec)

end Rows
end Go.Proofs.YtdljbekkckfmnaaGreat
