/-
  DERIVED. GIVEN WITH THE SEED: THE CARDS: each row of YtlokkbllplhlbaaDoorRows.lean that lists a variable, with what it lists TIED to the program's text (the seventh form; the later family's looks); each row that meets fmt, with fmt's text TOLD by the authors' own Lean function (tested against real Go, not proved from fmt's source: count such statements apart). THE CARD IS WHAT COUNTS. Prove the row's statement (the work); the ties are given (YtlokkbllplhlbaaDoorTie.lean); close each card by the builder's one call (the guide's Derived/Test/ToyasCard.lean, 'card_holds'). Laid BY PROGRAM, IN A SANDBOX (cutbox-door.mjs). By AI agents, Wed Nov 11 2026. No macro, syntax, notation, axiom, sorry.
-/
import Derived.Test.YtlokkbllplhlbaaDoorRows
import GoSem.ClaimSeven
namespace Go.Proofs.YtlokkbllplhlbaaDoor
namespace Rows

/-- THE TIED CARD OF 'laws.FnExactOwnersOk'. -/
def fnExactOwnersOkCard : Claim7 := { stood := { row := fnExactOwnersOkRow, standIns := [], harness := (true, "880801bcaba0d403638badb58c45e2590c3b333411a5460d263444b99d339a11"), looks := true }, kinds := [], alts := [], laidByText := true, laidKinds := [.data, .pinned], laidTests := true, laidLooks := .later }
def FnExactOwnersOkCardSaid : Prop := Claim7.holds Tryd.pinned (.plain (OpenSpec.ofChange fnExactOwnersOkSpec)) fnExactOwnersOkCard

/-- THE TIED CARD OF 'laws.FnOwnerOf'. -/
def fnOwnerOfCard : Claim7 := { stood := { row := fnOwnerOfRow, standIns := [], harness := (true, "880801bcaba0d403638badb58c45e2590c3b333411a5460d263444b99d339a11"), looks := true }, kinds := [], alts := [], laidByText := true, laidKinds := [.data, .pinned], laidTests := true, laidLooks := .later }
def FnOwnerOfCardSaid : Prop := Claim7.holds Tryd.pinned (.plain (OpenSpec.ofChange fnOwnerOfSpec)) fnOwnerOfCard

/-- THE TIED CARD OF 'laws.FnPatchPut'. -/
def fnPatchPutCard : Claim7 := { stood := { row := fnPatchPutRow, standIns := [], harness := (true, "880801bcaba0d403638badb58c45e2590c3b333411a5460d263444b99d339a11"), looks := true }, kinds := [], alts := [], laidByText := true, laidKinds := [.data, .data, .data, .data, .sentinel, .sentinel, .pinned], laidTests := true, laidLooks := .later }
def FnPatchPutCardSaid : Prop := Claim7.holds Tryd.pinned (.plain (OpenSpec.ofChange fnPatchPutSpec)) fnPatchPutCard

/-- THE TIED CARD OF 'laws.FnPatchGet'. -/
def fnPatchGetCard : Claim7 := { stood := { row := fnPatchGetRow, standIns := [], harness := (true, "880801bcaba0d403638badb58c45e2590c3b333411a5460d263444b99d339a11"), looks := true }, kinds := [], alts := [], laidByText := true, laidKinds := [.data, .data, .data, .data, .sentinel, .sentinel, .pinned], laidTests := true, laidLooks := .later }
def FnPatchGetCardSaid : Prop := Claim7.holds Tryd.pinned (.plain (OpenSpec.ofChange fnPatchGetSpec)) fnPatchGetCard

/-- THE SECOND FORM's CARD OF 'laws.FnExactOwnersOk'. -/
def fnExactOwnersOkUptoCard : Claim7 := { stood := { row := fnExactOwnersOkUptoRow, standIns := [], harness := (true, "880801bcaba0d403638badb58c45e2590c3b333411a5460d263444b99d339a11"), looks := true }, kinds := [], alts := [], laidByText := true, laidKinds := [.data, .pinned], laidTests := true, laidLooks := .later }
def FnExactOwnersOkUptoCardSaid : Prop := Claim7.holds Tryd.pinned (.plain (OpenSpec.upto fnExactOwnersOkSpec)) fnExactOwnersOkUptoCard

/-- THE SECOND FORM's CARD OF 'laws.FnOwnerOf'. -/
def fnOwnerOfUptoCard : Claim7 := { stood := { row := fnOwnerOfUptoRow, standIns := [], harness := (true, "880801bcaba0d403638badb58c45e2590c3b333411a5460d263444b99d339a11"), looks := true }, kinds := [], alts := [], laidByText := true, laidKinds := [.data, .pinned], laidTests := true, laidLooks := .later }
def FnOwnerOfUptoCardSaid : Prop := Claim7.holds Tryd.pinned (.plain (OpenSpec.upto fnOwnerOfSpec)) fnOwnerOfUptoCard

/-- THE SECOND FORM's CARD OF 'laws.FnPatchPut'. -/
def fnPatchPutUptoCard : Claim7 := { stood := { row := fnPatchPutUptoRow, standIns := [], harness := (true, "880801bcaba0d403638badb58c45e2590c3b333411a5460d263444b99d339a11"), looks := true }, kinds := [], alts := [], laidByText := true, laidKinds := [.data, .data, .data, .data, .sentinel, .sentinel, .pinned], laidTests := true, laidLooks := .later }
def FnPatchPutUptoCardSaid : Prop := Claim7.holds Tryd.pinned (.plain (OpenSpec.upto fnPatchPutSpec)) fnPatchPutUptoCard

/-- THE SECOND FORM's CARD OF 'laws.FnPatchGet'. -/
def fnPatchGetUptoCard : Claim7 := { stood := { row := fnPatchGetUptoRow, standIns := [], harness := (true, "880801bcaba0d403638badb58c45e2590c3b333411a5460d263444b99d339a11"), looks := true }, kinds := [], alts := [], laidByText := true, laidKinds := [.data, .data, .data, .data, .sentinel, .sentinel, .pinned], laidTests := true, laidLooks := .later }
def FnPatchGetUptoCardSaid : Prop := Claim7.holds Tryd.pinned (.plain (OpenSpec.upto fnPatchGetSpec)) fnPatchGetUptoCard
end Rows
end Go.Proofs.YtlokkbllplhlbaaDoor
