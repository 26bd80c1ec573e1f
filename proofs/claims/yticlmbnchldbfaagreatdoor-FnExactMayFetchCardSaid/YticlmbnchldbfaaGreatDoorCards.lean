/-
  DERIVED. GIVEN WITH THE SEED: THE CARDS: each row of YticlmbnchldbfaaGreatDoorRows.lean that lists a variable, with what it lists TIED to the program's text (the seventh form; the later family's looks); each row that meets fmt, with fmt's text TOLD by the authors' own Lean function (tested against real Go, not proved from fmt's source: count such statements apart). THE CARD IS WHAT COUNTS. Prove the row's statement (the work); the ties are given (YticlmbnchldbfaaGreatDoorTie.lean); close each card by the builder's one call (the guide's Derived/Test/ToyasCard.lean, 'card_holds'). Laid BY PROGRAM, IN A SANDBOX (cutbox-door.mjs). By AI agents, Wed Nov 11 2026. No macro, syntax, notation, axiom, sorry.
-/
import Derived.Test.YticlmbnchldbfaaGreatDoorRows
import GoSem.ClaimSeven
namespace Go.Proofs.YticlmbnchldbfaaGreatDoor
namespace Rows

/-- THE TIED CARD OF 'laws.FnTokens'. -/
def fnTokensCard : Claim7 := { stood := { row := fnTokensRow, standIns := [], harness := (true, "f3ffa0222066b2980edb484bce61738bd83d9f35571ff768becd252e0f11e513"), looks := true }, kinds := [], alts := [], laidByText := true, laidKinds := [.data, .data, .data, .data, .sentinel, .sentinel, .pinned], laidTests := true, laidLooks := .later }
def FnTokensCardSaid : Prop := Claim7.holds Tryz.pinned (.plain (OpenSpec.ofChange fnTokensSpec)) fnTokensCard

/-- THE TIED CARD OF 'laws.FnExactMayFetch'. -/
def fnExactMayFetchCard : Claim7 := { stood := { row := fnExactMayFetchRow, standIns := [], harness := (true, "f3ffa0222066b2980edb484bce61738bd83d9f35571ff768becd252e0f11e513"), looks := true }, kinds := [], alts := [], laidByText := true, laidKinds := [.data, .data, .data, .data, .sentinel, .sentinel, .pinned], laidTests := true, laidLooks := .later }
def FnExactMayFetchCardSaid : Prop := Claim7.holds Tryz.pinned (.plain (OpenSpec.ofChange fnExactMayFetchSpec)) fnExactMayFetchCard

/-- THE TIED CARD OF 'laws.FnExactTokenOf'. -/
def fnExactTokenOfCard : Claim7 := { stood := { row := fnExactTokenOfRow, standIns := [], harness := (true, "f3ffa0222066b2980edb484bce61738bd83d9f35571ff768becd252e0f11e513"), looks := true }, kinds := [], alts := [], laidByText := true, laidKinds := [.data, .data, .data, .data, .sentinel, .sentinel, .pinned], laidTests := true, laidLooks := .later }
def FnExactTokenOfCardSaid : Prop := Claim7.holds Tryz.pinned (.plain (OpenSpec.ofChange fnExactTokenOfSpec)) fnExactTokenOfCard

/-- THE TIED CARD OF 'laws.FnShown'. -/
def fnShownCard : Claim7 := { stood := { row := fnShownRow, standIns := [], harness := (true, "f3ffa0222066b2980edb484bce61738bd83d9f35571ff768becd252e0f11e513"), looks := true }, kinds := [], alts := [], laidByText := true, laidKinds := [.data, .data, .data], laidTests := true, laidLooks := .later }
def FnShownCardSaid : Prop := Claim7.holds Tryz.pinned (.plain (OpenSpec.ofChange fnShownSpec)) fnShownCard

/-- THE SECOND FORM's CARD OF 'laws.FnTokens'. -/
def fnTokensUptoCard : Claim7 := { stood := { row := fnTokensUptoRow, standIns := [], harness := (true, "f3ffa0222066b2980edb484bce61738bd83d9f35571ff768becd252e0f11e513"), looks := true }, kinds := [], alts := [], laidByText := true, laidKinds := [.data, .data, .data, .data, .sentinel, .sentinel, .pinned], laidTests := true, laidLooks := .later }
def FnTokensUptoCardSaid : Prop := Claim7.holds Tryz.pinned (.plain (OpenSpec.upto fnTokensSpec)) fnTokensUptoCard

/-- THE SECOND FORM's CARD OF 'laws.FnExactMayFetch'. -/
def fnExactMayFetchUptoCard : Claim7 := { stood := { row := fnExactMayFetchUptoRow, standIns := [], harness := (true, "f3ffa0222066b2980edb484bce61738bd83d9f35571ff768becd252e0f11e513"), looks := true }, kinds := [], alts := [], laidByText := true, laidKinds := [.data, .data, .data, .data, .sentinel, .sentinel, .pinned], laidTests := true, laidLooks := .later }
def FnExactMayFetchUptoCardSaid : Prop := Claim7.holds Tryz.pinned (.plain (OpenSpec.upto fnExactMayFetchSpec)) fnExactMayFetchUptoCard

/-- THE SECOND FORM's CARD OF 'laws.FnExactTokenOf'. -/
def fnExactTokenOfUptoCard : Claim7 := { stood := { row := fnExactTokenOfUptoRow, standIns := [], harness := (true, "f3ffa0222066b2980edb484bce61738bd83d9f35571ff768becd252e0f11e513"), looks := true }, kinds := [], alts := [], laidByText := true, laidKinds := [.data, .data, .data, .data, .sentinel, .sentinel, .pinned], laidTests := true, laidLooks := .later }
def FnExactTokenOfUptoCardSaid : Prop := Claim7.holds Tryz.pinned (.plain (OpenSpec.upto fnExactTokenOfSpec)) fnExactTokenOfUptoCard

/-- THE SECOND FORM's CARD OF 'laws.FnShown'. -/
def fnShownUptoCard : Claim7 := { stood := { row := fnShownUptoRow, standIns := [], harness := (true, "f3ffa0222066b2980edb484bce61738bd83d9f35571ff768becd252e0f11e513"), looks := true }, kinds := [], alts := [], laidByText := true, laidKinds := [.data, .data, .data], laidTests := true, laidLooks := .later }
def FnShownUptoCardSaid : Prop := Claim7.holds Tryz.pinned (.plain (OpenSpec.upto fnShownSpec)) fnShownUptoCard
end Rows
end Go.Proofs.YticlmbnchldbfaaGreatDoor
