/-
  DERIVED. GIVEN WITH THE SEED: THE CARDS: each row of YtegknjcifmenpaaGreatDoorRows.lean that lists a variable, with what it lists TIED to the program's text (the seventh form; the later family's looks); each row that meets fmt, with fmt's text TOLD by the authors' own Lean function (tested against real Go, not proved from fmt's source: count such statements apart). THE CARD IS WHAT COUNTS. Prove the row's statement (the work); the ties are given (YtegknjcifmenpaaGreatDoorTie.lean); close each card by the builder's one call (the guide's Derived/Test/ToyasCard.lean, 'card_holds'). Laid BY PROGRAM, IN A SANDBOX (cutbox-door.mjs). By AI agents, Wed Nov 11 2026. No macro, syntax, notation, axiom, sorry.
-/
import Derived.Test.YtegknjcifmenpaaGreatDoorRows
import GoSem.ClaimSeven
namespace Go.Proofs.YtegknjcifmenpaaGreatDoor
namespace Rows

/-- THE TIED CARD OF 'laws.FnChangesOf'. -/
def fnChangesOfCard : Claim7 := { stood := { row := fnChangesOfRow, standIns := [], harness := (true, "7760cf32f16de434dbdfcf3756cb83d2b60cf5509c76fc871765eb7b89019621"), looks := false }, kinds := [], alts := [], laidByText := true, laidKinds := [.data, .pinned], laidTests := true, laidLooks := .later }
def FnChangesOfCardSaid : Prop := Claim7.holds Tryz.pinned (.plain (OpenSpec.ofChange fnChangesOfSpec)) fnChangesOfCard

/-- THE TIED CARD OF 'laws.FnChangesOver'. -/
def fnChangesOverCard : Claim7 := { stood := { row := fnChangesOverRow, standIns := [], harness := (true, "7760cf32f16de434dbdfcf3756cb83d2b60cf5509c76fc871765eb7b89019621"), looks := false }, kinds := [], alts := [], laidByText := true, laidKinds := [.data, .pinned], laidTests := true, laidLooks := .later }
def FnChangesOverCardSaid : Prop := Claim7.holds Tryz.pinned (.plain (OpenSpec.ofChange fnChangesOverSpec)) fnChangesOverCard

/-- THE TIED CARD OF 'laws.FnChangesBack'. -/
def fnChangesBackCard : Claim7 := { stood := { row := fnChangesBackRow, standIns := [], harness := (true, "7760cf32f16de434dbdfcf3756cb83d2b60cf5509c76fc871765eb7b89019621"), looks := false }, kinds := [], alts := [], laidByText := true, laidKinds := [.data, .pinned], laidTests := true, laidLooks := .later }
def FnChangesBackCardSaid : Prop := Claim7.holds Tryz.pinned (.plain (OpenSpec.ofChange fnChangesBackSpec)) fnChangesBackCard

/-- THE TIED CARD OF 'laws.FnJoinFree'. -/
def fnJoinFreeCard : Claim7 := { stood := { row := fnJoinFreeRow, standIns := [], harness := (true, "7760cf32f16de434dbdfcf3756cb83d2b60cf5509c76fc871765eb7b89019621"), looks := false }, kinds := [], alts := [], laidByText := true, laidKinds := [.data, .pinned], laidTests := true, laidLooks := .later }
def FnJoinFreeCardSaid : Prop := Claim7.holds Tryz.pinned (.plain (OpenSpec.ofChange fnJoinFreeSpec)) fnJoinFreeCard

/-- THE TIED CARD OF 'laws.FnJoinSwap'. -/
def fnJoinSwapCard : Claim7 := { stood := { row := fnJoinSwapRow, standIns := [], harness := (true, "7760cf32f16de434dbdfcf3756cb83d2b60cf5509c76fc871765eb7b89019621"), looks := false }, kinds := [], alts := [], laidByText := true, laidKinds := [.data, .pinned], laidTests := true, laidLooks := .later }
def FnJoinSwapCardSaid : Prop := Claim7.holds Tryz.pinned (.plain (OpenSpec.ofChange fnJoinSwapSpec)) fnJoinSwapCard

/-- THE TIED CARD OF 'laws.FnJoinOne'. -/
def fnJoinOneCard : Claim7 := { stood := { row := fnJoinOneRow, standIns := [], harness := (true, "7760cf32f16de434dbdfcf3756cb83d2b60cf5509c76fc871765eb7b89019621"), looks := false }, kinds := [], alts := [], laidByText := true, laidKinds := [.data, .pinned], laidTests := true, laidLooks := .later }
def FnJoinOneCardSaid : Prop := Claim7.holds Tryz.pinned (.plain (OpenSpec.ofChange fnJoinOneSpec)) fnJoinOneCard

/-- THE TIED CARD OF 'laws.FnJoinChanges'. -/
def fnJoinChangesCard : Claim7 := { stood := { row := fnJoinChangesRow, standIns := [], harness := (true, "7760cf32f16de434dbdfcf3756cb83d2b60cf5509c76fc871765eb7b89019621"), looks := false }, kinds := [], alts := [], laidByText := true, laidKinds := [.data, .pinned], laidTests := true, laidLooks := .later }
def FnJoinChangesCardSaid : Prop := Claim7.holds Tryz.pinned (.plain (OpenSpec.ofChange fnJoinChangesSpec)) fnJoinChangesCard

/-- THE TIED CARD OF 'laws.FnJoinPath'. -/
def fnJoinPathCard : Claim7 := { stood := { row := fnJoinPathRow, standIns := [], harness := (true, "7760cf32f16de434dbdfcf3756cb83d2b60cf5509c76fc871765eb7b89019621"), looks := false }, kinds := [], alts := [], laidByText := true, laidKinds := [.data, .pinned], laidTests := true, laidLooks := .later }
def FnJoinPathCardSaid : Prop := Claim7.holds Tryz.pinned (.plain (OpenSpec.ofChange fnJoinPathSpec)) fnJoinPathCard

/-- THE TIED CARD OF 'laws.FnChangesPaths'. -/
def fnChangesPathsCard : Claim7 := { stood := { row := fnChangesPathsRow, standIns := [], harness := (true, "7760cf32f16de434dbdfcf3756cb83d2b60cf5509c76fc871765eb7b89019621"), looks := false }, kinds := [], alts := [], laidByText := true, laidKinds := [.data, .pinned], laidTests := true, laidLooks := .later }
def FnChangesPathsCardSaid : Prop := Claim7.holds Tryz.pinned (.plain (OpenSpec.ofChange fnChangesPathsSpec)) fnChangesPathsCard

/-- THE SECOND FORM's CARD OF 'laws.FnChangesOf'. -/
def fnChangesOfUptoCard : Claim7 := { stood := { row := fnChangesOfUptoRow, standIns := [], harness := (true, "7760cf32f16de434dbdfcf3756cb83d2b60cf5509c76fc871765eb7b89019621"), looks := false }, kinds := [], alts := [], laidByText := true, laidKinds := [.data, .pinned], laidTests := true, laidLooks := .later }
def FnChangesOfUptoCardSaid : Prop := Claim7.holds Tryz.pinned (.plain (OpenSpec.upto fnChangesOfSpec)) fnChangesOfUptoCard

/-- THE SECOND FORM's CARD OF 'laws.FnChangesOver'. -/
def fnChangesOverUptoCard : Claim7 := { stood := { row := fnChangesOverUptoRow, standIns := [], harness := (true, "7760cf32f16de434dbdfcf3756cb83d2b60cf5509c76fc871765eb7b89019621"), looks := false }, kinds := [], alts := [], laidByText := true, laidKinds := [.data, .pinned], laidTests := true, laidLooks := .later }
def FnChangesOverUptoCardSaid : Prop := Claim7.holds Tryz.pinned (.plain (OpenSpec.upto fnChangesOverSpec)) fnChangesOverUptoCard

/-- THE SECOND FORM's CARD OF 'laws.FnChangesBack'. -/
def fnChangesBackUptoCard : Claim7 := { stood := { row := fnChangesBackUptoRow, standIns := [], harness := (true, "7760cf32f16de434dbdfcf3756cb83d2b60cf5509c76fc871765eb7b89019621"), looks := false }, kinds := [], alts := [], laidByText := true, laidKinds := [.data, .pinned], laidTests := true, laidLooks := .later }
def FnChangesBackUptoCardSaid : Prop := Claim7.holds Tryz.pinned (.plain (OpenSpec.upto fnChangesBackSpec)) fnChangesBackUptoCard

/-- THE SECOND FORM's CARD OF 'laws.FnJoinFree'. -/
def fnJoinFreeUptoCard : Claim7 := { stood := { row := fnJoinFreeUptoRow, standIns := [], harness := (true, "7760cf32f16de434dbdfcf3756cb83d2b60cf5509c76fc871765eb7b89019621"), looks := false }, kinds := [], alts := [], laidByText := true, laidKinds := [.data, .pinned], laidTests := true, laidLooks := .later }
def FnJoinFreeUptoCardSaid : Prop := Claim7.holds Tryz.pinned (.plain (OpenSpec.upto fnJoinFreeSpec)) fnJoinFreeUptoCard

/-- THE SECOND FORM's CARD OF 'laws.FnJoinSwap'. -/
def fnJoinSwapUptoCard : Claim7 := { stood := { row := fnJoinSwapUptoRow, standIns := [], harness := (true, "7760cf32f16de434dbdfcf3756cb83d2b60cf5509c76fc871765eb7b89019621"), looks := false }, kinds := [], alts := [], laidByText := true, laidKinds := [.data, .pinned], laidTests := true, laidLooks := .later }
def FnJoinSwapUptoCardSaid : Prop := Claim7.holds Tryz.pinned (.plain (OpenSpec.upto fnJoinSwapSpec)) fnJoinSwapUptoCard

/-- THE SECOND FORM's CARD OF 'laws.FnJoinOne'. -/
def fnJoinOneUptoCard : Claim7 := { stood := { row := fnJoinOneUptoRow, standIns := [], harness := (true, "7760cf32f16de434dbdfcf3756cb83d2b60cf5509c76fc871765eb7b89019621"), looks := false }, kinds := [], alts := [], laidByText := true, laidKinds := [.data, .pinned], laidTests := true, laidLooks := .later }
def FnJoinOneUptoCardSaid : Prop := Claim7.holds Tryz.pinned (.plain (OpenSpec.upto fnJoinOneSpec)) fnJoinOneUptoCard

/-- THE SECOND FORM's CARD OF 'laws.FnJoinChanges'. -/
def fnJoinChangesUptoCard : Claim7 := { stood := { row := fnJoinChangesUptoRow, standIns := [], harness := (true, "7760cf32f16de434dbdfcf3756cb83d2b60cf5509c76fc871765eb7b89019621"), looks := false }, kinds := [], alts := [], laidByText := true, laidKinds := [.data, .pinned], laidTests := true, laidLooks := .later }
def FnJoinChangesUptoCardSaid : Prop := Claim7.holds Tryz.pinned (.plain (OpenSpec.upto fnJoinChangesSpec)) fnJoinChangesUptoCard

/-- THE SECOND FORM's CARD OF 'laws.FnJoinPath'. -/
def fnJoinPathUptoCard : Claim7 := { stood := { row := fnJoinPathUptoRow, standIns := [], harness := (true, "7760cf32f16de434dbdfcf3756cb83d2b60cf5509c76fc871765eb7b89019621"), looks := false }, kinds := [], alts := [], laidByText := true, laidKinds := [.data, .pinned], laidTests := true, laidLooks := .later }
def FnJoinPathUptoCardSaid : Prop := Claim7.holds Tryz.pinned (.plain (OpenSpec.upto fnJoinPathSpec)) fnJoinPathUptoCard

/-- THE SECOND FORM's CARD OF 'laws.FnChangesPaths'. -/
def fnChangesPathsUptoCard : Claim7 := { stood := { row := fnChangesPathsUptoRow, standIns := [], harness := (true, "7760cf32f16de434dbdfcf3756cb83d2b60cf5509c76fc871765eb7b89019621"), looks := false }, kinds := [], alts := [], laidByText := true, laidKinds := [.data, .pinned], laidTests := true, laidLooks := .later }
def FnChangesPathsUptoCardSaid : Prop := Claim7.holds Tryz.pinned (.plain (OpenSpec.upto fnChangesPathsSpec)) fnChangesPathsUptoCard
end Rows
end Go.Proofs.YtegknjcifmenpaaGreatDoor
