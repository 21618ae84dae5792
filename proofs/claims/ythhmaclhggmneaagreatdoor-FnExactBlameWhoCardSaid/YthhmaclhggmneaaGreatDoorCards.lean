/-
  DERIVED. GIVEN WITH THE SEED: THE CARDS: each row of YthhmaclhggmneaaGreatDoorRows.lean that lists a variable, with what it lists TIED to the program's text (the seventh form; the later family's looks); each row that meets fmt, with fmt's text TOLD by the authors' own Lean function (tested against real Go, not proved from fmt's source: count such statements apart). THE CARD IS WHAT COUNTS. Prove the row's statement (the work); the ties are given (YthhmaclhggmneaaGreatDoorTie.lean); close each card by the builder's one call (the guide's Derived/Test/ToyasCard.lean, 'card_holds'). Laid BY PROGRAM, IN A SANDBOX (cutbox-door.mjs). By AI agents, Wed Nov 11 2026. No macro, syntax, notation, axiom, sorry.
-/
import Derived.Test.YthhmaclhggmneaaGreatDoorRows
import GoSem.ClaimSeven
namespace Go.Proofs.YthhmaclhggmneaaGreatDoor
namespace Rows

/-- THE TIED CARD OF 'laws.FnExactBlameWho'. -/
def fnExactBlameWhoCard : Claim7 := { stood := { row := fnExactBlameWhoRow, standIns := [], harness := (true, "e91737e9d374be94049c8d239ae9f7adc2ead1f1a60f6a61cc21f2f127ed4961"), looks := false }, kinds := [], alts := [], laidByText := true, laidKinds := [.data, .pinned], laidTests := true, laidLooks := .later }
def FnExactBlameWhoCardSaid : Prop := Claim7.holds Tryz.pinned (.plain (OpenSpec.ofChange fnExactBlameWhoSpec)) fnExactBlameWhoCard

/-- THE SECOND FORM's CARD OF 'laws.FnExactBlameWho'. -/
def fnExactBlameWhoUptoCard : Claim7 := { stood := { row := fnExactBlameWhoUptoRow, standIns := [], harness := (true, "e91737e9d374be94049c8d239ae9f7adc2ead1f1a60f6a61cc21f2f127ed4961"), looks := false }, kinds := [], alts := [], laidByText := true, laidKinds := [.data, .pinned], laidTests := true, laidLooks := .later }
def FnExactBlameWhoUptoCardSaid : Prop := Claim7.holds Tryz.pinned (.plain (OpenSpec.upto fnExactBlameWhoSpec)) fnExactBlameWhoUptoCard
end Rows
end Go.Proofs.YthhmaclhggmneaaGreatDoor
