/-
  DERIVED. GIVEN WITH THE SEED: THE CARDS: each row of YticlmbnchldbfaaDoorRows.lean that lists a variable, with what it lists TIED to the program's text (the seventh form; the later family's looks); each row that meets fmt, with fmt's text TOLD by the authors' own Lean function (tested against real Go, not proved from fmt's source: count such statements apart). THE CARD IS WHAT COUNTS. Prove the row's statement (the work); the ties are given (YticlmbnchldbfaaDoorTie.lean); close each card by the builder's one call (the guide's Derived/Test/ToyasCard.lean, 'card_holds'). Laid BY PROGRAM, IN A SANDBOX (cutbox-door.mjs). By AI agents, Wed Nov 11 2026. No macro, syntax, notation, axiom, sorry.
-/
import Derived.Test.YticlmbnchldbfaaDoorRows
import GoSem.ClaimSeven
namespace Go.Proofs.YticlmbnchldbfaaDoor
namespace Rows

/-- THE TIED CARD OF 'laws.FnExactWorldText'. -/
def fnExactWorldTextCard : Claim7 := { stood := { row := fnExactWorldTextRow, standIns := [], harness := (true, "2aba70fa99a953d60008f269583befb285313f1e79f3f8407b8d617632bf5007"), looks := false }, kinds := [], alts := [], laidByText := true, laidKinds := [.data, .data, .data], laidTests := true, laidLooks := .later }
def FnExactWorldTextCardSaid : Prop := Claim7.holds Tryd.pinned (.plain (OpenSpec.ofChange fnExactWorldTextSpec)) fnExactWorldTextCard

/-- THE TIED CARD OF 'laws.FnExactIssue'. -/
def fnExactIssueCard : Claim7 := { stood := { row := fnExactIssueRow, standIns := [], harness := (true, "2aba70fa99a953d60008f269583befb285313f1e79f3f8407b8d617632bf5007"), looks := false }, kinds := [], alts := [], laidByText := true, laidKinds := [.data, .data, .data], laidTests := true, laidLooks := .later }
def FnExactIssueCardSaid : Prop := Claim7.holds Tryd.pinned (.plain (OpenSpec.ofChange fnExactIssueSpec)) fnExactIssueCard

/-- THE SECOND FORM's CARD OF 'laws.FnExactWorldText'. -/
def fnExactWorldTextUptoCard : Claim7 := { stood := { row := fnExactWorldTextUptoRow, standIns := [], harness := (true, "2aba70fa99a953d60008f269583befb285313f1e79f3f8407b8d617632bf5007"), looks := false }, kinds := [], alts := [], laidByText := true, laidKinds := [.data, .data, .data], laidTests := true, laidLooks := .later }
def FnExactWorldTextUptoCardSaid : Prop := Claim7.holds Tryd.pinned (.plain (OpenSpec.upto fnExactWorldTextSpec)) fnExactWorldTextUptoCard

/-- THE SECOND FORM's CARD OF 'laws.FnExactIssue'. -/
def fnExactIssueUptoCard : Claim7 := { stood := { row := fnExactIssueUptoRow, standIns := [], harness := (true, "2aba70fa99a953d60008f269583befb285313f1e79f3f8407b8d617632bf5007"), looks := false }, kinds := [], alts := [], laidByText := true, laidKinds := [.data, .data, .data], laidTests := true, laidLooks := .later }
def FnExactIssueUptoCardSaid : Prop := Claim7.holds Tryd.pinned (.plain (OpenSpec.upto fnExactIssueSpec)) fnExactIssueUptoCard
end Rows
end Go.Proofs.YticlmbnchldbfaaDoor
