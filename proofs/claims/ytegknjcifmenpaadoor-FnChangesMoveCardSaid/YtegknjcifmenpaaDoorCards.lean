/-
  DERIVED. GIVEN WITH THE SEED: THE CARDS: each row of YtegknjcifmenpaaDoorRows.lean that lists a variable, with what it lists TIED to the program's text (the seventh form; the later family's looks); each row that meets fmt, with fmt's text TOLD by the authors' own Lean function (tested against real Go, not proved from fmt's source: count such statements apart). THE CARD IS WHAT COUNTS. Prove the row's statement (the work); the ties are given (YtegknjcifmenpaaDoorTie.lean); close each card by the builder's one call (the guide's Derived/Test/ToyasCard.lean, 'card_holds'). Laid BY PROGRAM, IN A SANDBOX (cutbox-door.mjs). By AI agents, Wed Nov 11 2026. No macro, syntax, notation, axiom, sorry.
-/
import Derived.Test.YtegknjcifmenpaaDoorRows
import GoSem.ClaimSeven
namespace Go.Proofs.YtegknjcifmenpaaDoor
namespace Rows

/-- THE TIED CARD OF 'laws.FnChangesMove'. -/
def fnChangesMoveCard : Claim7 := { stood := { row := fnChangesMoveRow, standIns := [], harness := (true, "6a7661a1cb3999a489b299894d2ca01f303394bf5de2b7ef65e267ec7cfe2ca0"), looks := false }, kinds := [], alts := [], laidByText := true, laidKinds := [.data, .pinned], laidTests := true, laidLooks := .later }
def FnChangesMoveCardSaid : Prop := Claim7.holds Tryd.pinned (.plain (OpenSpec.ofChange fnChangesMoveSpec)) fnChangesMoveCard

/-- THE TIED CARD OF 'laws.FnRuleMove'. -/
def fnRuleMoveCard : Claim7 := { stood := { row := fnRuleMoveRow, standIns := [], harness := (true, "6a7661a1cb3999a489b299894d2ca01f303394bf5de2b7ef65e267ec7cfe2ca0"), looks := false }, kinds := [], alts := [], laidByText := true, laidKinds := [.data, .pinned], laidTests := true, laidLooks := .later }
def FnRuleMoveCardSaid : Prop := Claim7.holds Tryd.pinned (.plain (OpenSpec.ofChange fnRuleMoveSpec)) fnRuleMoveCard

/-- THE SECOND FORM's CARD OF 'laws.FnChangesMove'. -/
def fnChangesMoveUptoCard : Claim7 := { stood := { row := fnChangesMoveUptoRow, standIns := [], harness := (true, "6a7661a1cb3999a489b299894d2ca01f303394bf5de2b7ef65e267ec7cfe2ca0"), looks := false }, kinds := [], alts := [], laidByText := true, laidKinds := [.data, .pinned], laidTests := true, laidLooks := .later }
def FnChangesMoveUptoCardSaid : Prop := Claim7.holds Tryd.pinned (.plain (OpenSpec.upto fnChangesMoveSpec)) fnChangesMoveUptoCard

/-- THE SECOND FORM's CARD OF 'laws.FnRuleMove'. -/
def fnRuleMoveUptoCard : Claim7 := { stood := { row := fnRuleMoveUptoRow, standIns := [], harness := (true, "6a7661a1cb3999a489b299894d2ca01f303394bf5de2b7ef65e267ec7cfe2ca0"), looks := false }, kinds := [], alts := [], laidByText := true, laidKinds := [.data, .pinned], laidTests := true, laidLooks := .later }
def FnRuleMoveUptoCardSaid : Prop := Claim7.holds Tryd.pinned (.plain (OpenSpec.upto fnRuleMoveSpec)) fnRuleMoveUptoCard
end Rows
end Go.Proofs.YtegknjcifmenpaaDoor
