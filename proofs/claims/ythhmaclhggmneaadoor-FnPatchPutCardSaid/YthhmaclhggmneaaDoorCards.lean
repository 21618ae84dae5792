/-
  DERIVED. GIVEN WITH THE SEED: THE CARDS: each row of YthhmaclhggmneaaDoorRows.lean that lists a variable, with what it lists TIED to the program's text (the seventh form; the later family's looks); each row that meets fmt, with fmt's text TOLD by the authors' own Lean function (tested against real Go, not proved from fmt's source: count such statements apart). THE CARD IS WHAT COUNTS. Prove the row's statement (the work); the ties are given (YthhmaclhggmneaaDoorTie.lean); close each card by the builder's one call (the guide's Derived/Test/ToyasCard.lean, 'card_holds'). Laid BY PROGRAM, IN A SANDBOX (cutbox-door.mjs). By AI agents, Wed Nov 11 2026. No macro, syntax, notation, axiom, sorry.
-/
import Derived.Test.YthhmaclhggmneaaDoorRows
import GoSem.ClaimSeven
namespace Go.Proofs.YthhmaclhggmneaaDoor
namespace Rows

/-- THE TIED CARD OF 'laws.FnExactKeepOnly'. -/
def fnExactKeepOnlyCard : Claim7 := { stood := { row := fnExactKeepOnlyRow, standIns := [], harness := (true, "039845d765e0f64aedbd568b53427ae6d95511792914203efaf1c82e67b6cc01"), looks := true }, kinds := [], alts := [], laidByText := true, laidKinds := [.data, .pinned], laidTests := true, laidLooks := .later }
def FnExactKeepOnlyCardSaid : Prop := Claim7.holds Tryd.pinned (.plain (OpenSpec.ofChange fnExactKeepOnlySpec)) fnExactKeepOnlyCard

/-- THE TIED CARD OF 'laws.FnPatchPut'. -/
def fnPatchPutCard : Claim7 := { stood := { row := fnPatchPutRow, standIns := [], harness := (true, "039845d765e0f64aedbd568b53427ae6d95511792914203efaf1c82e67b6cc01"), looks := true }, kinds := [], alts := [], laidByText := true, laidKinds := [.data, .data, .data, .data, .sentinel, .sentinel, .pinned], laidTests := true, laidLooks := .later }
def FnPatchPutCardSaid : Prop := Claim7.holds Tryd.pinned (.plain (OpenSpec.ofChange fnPatchPutSpec)) fnPatchPutCard

/-- THE TIED CARD OF 'laws.FnPatchGet'. -/
def fnPatchGetCard : Claim7 := { stood := { row := fnPatchGetRow, standIns := [], harness := (true, "039845d765e0f64aedbd568b53427ae6d95511792914203efaf1c82e67b6cc01"), looks := true }, kinds := [], alts := [], laidByText := true, laidKinds := [.data, .data, .data, .data, .sentinel, .sentinel, .pinned], laidTests := true, laidLooks := .later }
def FnPatchGetCardSaid : Prop := Claim7.holds Tryd.pinned (.plain (OpenSpec.ofChange fnPatchGetSpec)) fnPatchGetCard

/-- THE SECOND FORM's CARD OF 'laws.FnExactKeepOnly'. -/
def fnExactKeepOnlyUptoCard : Claim7 := { stood := { row := fnExactKeepOnlyUptoRow, standIns := [], harness := (true, "039845d765e0f64aedbd568b53427ae6d95511792914203efaf1c82e67b6cc01"), looks := true }, kinds := [], alts := [], laidByText := true, laidKinds := [.data, .pinned], laidTests := true, laidLooks := .later }
def FnExactKeepOnlyUptoCardSaid : Prop := Claim7.holds Tryd.pinned (.plain (OpenSpec.upto fnExactKeepOnlySpec)) fnExactKeepOnlyUptoCard

/-- THE SECOND FORM's CARD OF 'laws.FnPatchPut'. -/
def fnPatchPutUptoCard : Claim7 := { stood := { row := fnPatchPutUptoRow, standIns := [], harness := (true, "039845d765e0f64aedbd568b53427ae6d95511792914203efaf1c82e67b6cc01"), looks := true }, kinds := [], alts := [], laidByText := true, laidKinds := [.data, .data, .data, .data, .sentinel, .sentinel, .pinned], laidTests := true, laidLooks := .later }
def FnPatchPutUptoCardSaid : Prop := Claim7.holds Tryd.pinned (.plain (OpenSpec.upto fnPatchPutSpec)) fnPatchPutUptoCard

/-- THE SECOND FORM's CARD OF 'laws.FnPatchGet'. -/
def fnPatchGetUptoCard : Claim7 := { stood := { row := fnPatchGetUptoRow, standIns := [], harness := (true, "039845d765e0f64aedbd568b53427ae6d95511792914203efaf1c82e67b6cc01"), looks := true }, kinds := [], alts := [], laidByText := true, laidKinds := [.data, .data, .data, .data, .sentinel, .sentinel, .pinned], laidTests := true, laidLooks := .later }
def FnPatchGetUptoCardSaid : Prop := Claim7.holds Tryd.pinned (.plain (OpenSpec.upto fnPatchGetSpec)) fnPatchGetUptoCard
end Rows
end Go.Proofs.YthhmaclhggmneaaDoor
