/-
  DERIVED. GIVEN WITH THE SEED: THE CARDS: each row of YthddcfbjgcbioaaGreatDoorRows.lean that lists a variable, with what it lists TIED to the program's text (the seventh form; the later family's looks); each row that meets fmt, with fmt's text TOLD by the authors' own Lean function (tested against real Go, not proved from fmt's source: count such statements apart). THE CARD IS WHAT COUNTS. Prove the row's statement (the work); the ties are given (YthddcfbjgcbioaaGreatDoorTie.lean); close each card by the builder's one call (the guide's Derived/Test/ToyasCard.lean, 'card_holds'). Laid BY PROGRAM, IN A SANDBOX (cutbox-door.mjs). By AI agents, Wed Nov 11 2026. No macro, syntax, notation, axiom, sorry.
-/
import Derived.Test.YthddcfbjgcbioaaGreatDoorRows
import GoSem.ClaimSeven
namespace Go.Proofs.YthddcfbjgcbioaaGreatDoor
namespace Rows

/-- THE TIED CARD OF 'laws.FnChangesPaths'. -/
def fnChangesPathsCard : Claim7 := { stood := { row := fnChangesPathsRow, standIns := [], harness := (true, "4d65bb11d7b3d8def66803a379278af5e283fad86c732a68afca84b34027bd67"), looks := false }, kinds := [], alts := [], laidByText := true, laidKinds := [.data, .pinned], laidTests := true, laidLooks := .later }
def FnChangesPathsCardSaid : Prop := Claim7.holds Tryz.pinned (.plain (OpenSpec.ofChange fnChangesPathsSpec)) fnChangesPathsCard

/-- THE SECOND FORM's CARD OF 'laws.FnChangesPaths'. -/
def fnChangesPathsUptoCard : Claim7 := { stood := { row := fnChangesPathsUptoRow, standIns := [], harness := (true, "4d65bb11d7b3d8def66803a379278af5e283fad86c732a68afca84b34027bd67"), looks := false }, kinds := [], alts := [], laidByText := true, laidKinds := [.data, .pinned], laidTests := true, laidLooks := .later }
def FnChangesPathsUptoCardSaid : Prop := Claim7.holds Tryz.pinned (.plain (OpenSpec.upto fnChangesPathsSpec)) fnChangesPathsUptoCard
end Rows
end Go.Proofs.YthddcfbjgcbioaaGreatDoor
