/-
  DERIVED. GIVEN WITH THE SEED: THE CARDS: each row of YtlaklnpdnohofaaGreatDoorRows.lean that lists a variable, with what it lists TIED to the program's text (the seventh form; the later family's looks); each row that meets fmt, with fmt's text TOLD by the authors' own Lean function (tested against real Go, not proved from fmt's source: count such statements apart). THE CARD IS WHAT COUNTS. Prove the row's statement (the work); the ties are given (YtlaklnpdnohofaaGreatDoorTie.lean); close each card by the builder's one call (the guide's Derived/Test/ToyasCard.lean, 'card_holds'). Laid BY PROGRAM, IN A SANDBOX (cutbox-door.mjs). By AI agents, Wed Nov 11 2026. No macro, syntax, notation, axiom, sorry.
-/
import Derived.Test.YtlaklnpdnohofaaGreatDoorRows
import GoSem.ClaimSeven
namespace Go.Proofs.YtlaklnpdnohofaaGreatDoor
namespace Rows

/-- THE TIED CARD OF 'laws.FnChangesBack'. -/
def fnChangesBackCard : Claim7 := { stood := { row := fnChangesBackRow, standIns := [], harness := (true, "c65c941f7d72db0a48bc759119b147538b3aecaff58331e0ec5d463e53f0f0d4"), looks := false }, kinds := [], alts := [], laidByText := true, laidKinds := [.data, .pinned], laidTests := true, laidLooks := .later }
def FnChangesBackCardSaid : Prop := Claim7.holds Tryz.pinned (.plain (OpenSpec.ofChange fnChangesBackSpec)) fnChangesBackCard

/-- THE TIED CARD OF 'laws.FnExactBlameWho'. -/
def fnExactBlameWhoCard : Claim7 := { stood := { row := fnExactBlameWhoRow, standIns := [], harness := (true, "c65c941f7d72db0a48bc759119b147538b3aecaff58331e0ec5d463e53f0f0d4"), looks := false }, kinds := [], alts := [], laidByText := true, laidKinds := [.data, .pinned], laidTests := true, laidLooks := .later }
def FnExactBlameWhoCardSaid : Prop := Claim7.holds Tryz.pinned (.plain (OpenSpec.ofChange fnExactBlameWhoSpec)) fnExactBlameWhoCard

/-- THE TIED CARD OF 'laws.FnChangesPaths'. -/
def fnChangesPathsCard : Claim7 := { stood := { row := fnChangesPathsRow, standIns := [], harness := (true, "c65c941f7d72db0a48bc759119b147538b3aecaff58331e0ec5d463e53f0f0d4"), looks := false }, kinds := [], alts := [], laidByText := true, laidKinds := [.data, .pinned], laidTests := true, laidLooks := .later }
def FnChangesPathsCardSaid : Prop := Claim7.holds Tryz.pinned (.plain (OpenSpec.ofChange fnChangesPathsSpec)) fnChangesPathsCard

/-- THE SECOND FORM's CARD OF 'laws.FnChangesBack'. -/
def fnChangesBackUptoCard : Claim7 := { stood := { row := fnChangesBackUptoRow, standIns := [], harness := (true, "c65c941f7d72db0a48bc759119b147538b3aecaff58331e0ec5d463e53f0f0d4"), looks := false }, kinds := [], alts := [], laidByText := true, laidKinds := [.data, .pinned], laidTests := true, laidLooks := .later }
def FnChangesBackUptoCardSaid : Prop := Claim7.holds Tryz.pinned (.plain (OpenSpec.upto fnChangesBackSpec)) fnChangesBackUptoCard

/-- THE SECOND FORM's CARD OF 'laws.FnExactBlameWho'. -/
def fnExactBlameWhoUptoCard : Claim7 := { stood := { row := fnExactBlameWhoUptoRow, standIns := [], harness := (true, "c65c941f7d72db0a48bc759119b147538b3aecaff58331e0ec5d463e53f0f0d4"), looks := false }, kinds := [], alts := [], laidByText := true, laidKinds := [.data, .pinned], laidTests := true, laidLooks := .later }
def FnExactBlameWhoUptoCardSaid : Prop := Claim7.holds Tryz.pinned (.plain (OpenSpec.upto fnExactBlameWhoSpec)) fnExactBlameWhoUptoCard

/-- THE SECOND FORM's CARD OF 'laws.FnChangesPaths'. -/
def fnChangesPathsUptoCard : Claim7 := { stood := { row := fnChangesPathsUptoRow, standIns := [], harness := (true, "c65c941f7d72db0a48bc759119b147538b3aecaff58331e0ec5d463e53f0f0d4"), looks := false }, kinds := [], alts := [], laidByText := true, laidKinds := [.data, .pinned], laidTests := true, laidLooks := .later }
def FnChangesPathsUptoCardSaid : Prop := Claim7.holds Tryz.pinned (.plain (OpenSpec.upto fnChangesPathsSpec)) fnChangesPathsUptoCard
end Rows
end Go.Proofs.YtlaklnpdnohofaaGreatDoor
