/-
  DERIVED. GIVEN WITH THE SEED: THE CARDS: each row of YtfpneepnnoldeaaDoorRows.lean that lists a variable, with what it lists TIED to the program's text (the seventh form; the later family's looks); each row that meets fmt, with fmt's text TOLD by the authors' own Lean function (tested against real Go, not proved from fmt's source: count such statements apart). THE CARD IS WHAT COUNTS. Prove the row's statement (the work); the ties are given (YtfpneepnnoldeaaDoorTie.lean); close each card by the builder's one call (the guide's Derived/Test/ToyasCard.lean, 'card_holds'). Laid BY PROGRAM, IN A SANDBOX (cutbox-door.mjs). By AI agents, Wed Nov 11 2026. No macro, syntax, notation, axiom, sorry.
-/
import Derived.Test.YtfpneepnnoldeaaDoorRows
import GoSem.ClaimSeven
namespace Go.Proofs.YtfpneepnnoldeaaDoor
namespace Rows

/-- THE TIED CARD OF 'laws.FnOwnerOf'. -/
def fnOwnerOfCard : Claim7 := { stood := { row := fnOwnerOfRow, standIns := [], harness := (true, "132351bfb1e214a3402d6b367c9428a3fef9d173c4848b612d09337cf10e67c3"), looks := false }, kinds := [], alts := [], laidByText := true, laidKinds := [.data, .pinned], laidTests := true, laidLooks := .later }
def FnOwnerOfCardSaid : Prop := Claim7.holds Tryd.pinned (.plain (OpenSpec.ofChange fnOwnerOfSpec)) fnOwnerOfCard

/-- THE TIED CARD OF 'laws.FnTreeDrop'. -/
def fnTreeDropCard : Claim7 := { stood := { row := fnTreeDropRow, standIns := [], harness := (true, "132351bfb1e214a3402d6b367c9428a3fef9d173c4848b612d09337cf10e67c3"), looks := false }, kinds := [], alts := [], laidByText := true, laidKinds := [.data, .pinned], laidTests := true, laidLooks := .later }
def FnTreeDropCardSaid : Prop := Claim7.holds Tryd.pinned (.plain (OpenSpec.ofChange fnTreeDropSpec)) fnTreeDropCard

/-- THE TIED CARD OF 'laws.FnRuleUses'. -/
def fnRuleUsesCard : Claim7 := { stood := { row := fnRuleUsesRow, standIns := [], harness := (true, "132351bfb1e214a3402d6b367c9428a3fef9d173c4848b612d09337cf10e67c3"), looks := false }, kinds := [], alts := [], laidByText := true, laidKinds := [.data, .pinned], laidTests := true, laidLooks := .later }
def FnRuleUsesCardSaid : Prop := Claim7.holds Tryd.pinned (.plain (OpenSpec.ofChange fnRuleUsesSpec)) fnRuleUsesCard

/-- THE TIED CARD OF 'laws.FnTreeSet'. -/
def fnTreeSetCard : Claim7 := { stood := { row := fnTreeSetRow, standIns := [], harness := (true, "132351bfb1e214a3402d6b367c9428a3fef9d173c4848b612d09337cf10e67c3"), looks := false }, kinds := [], alts := [], laidByText := true, laidKinds := [.data, .pinned], laidTests := true, laidLooks := .later }
def FnTreeSetCardSaid : Prop := Claim7.holds Tryd.pinned (.plain (OpenSpec.ofChange fnTreeSetSpec)) fnTreeSetCard

/-- THE TIED CARD OF 'laws.FnTreeMove'. -/
def fnTreeMoveCard : Claim7 := { stood := { row := fnTreeMoveRow, standIns := [], harness := (true, "132351bfb1e214a3402d6b367c9428a3fef9d173c4848b612d09337cf10e67c3"), looks := false }, kinds := [], alts := [], laidByText := true, laidKinds := [.data, .pinned], laidTests := true, laidLooks := .later }
def FnTreeMoveCardSaid : Prop := Claim7.holds Tryd.pinned (.plain (OpenSpec.ofChange fnTreeMoveSpec)) fnTreeMoveCard

/-- THE TIED CARD OF 'laws.FnExactRuleMove'. -/
def fnExactRuleMoveCard : Claim7 := { stood := { row := fnExactRuleMoveRow, standIns := [], harness := (true, "132351bfb1e214a3402d6b367c9428a3fef9d173c4848b612d09337cf10e67c3"), looks := false }, kinds := [], alts := [], laidByText := true, laidKinds := [.data, .pinned], laidTests := true, laidLooks := .later }
def FnExactRuleMoveCardSaid : Prop := Claim7.holds Tryd.pinned (.plain (OpenSpec.ofChange fnExactRuleMoveSpec)) fnExactRuleMoveCard

/-- THE TIED CARD OF 'laws.FnRuleMove'. -/
def fnRuleMoveCard : Claim7 := { stood := { row := fnRuleMoveRow, standIns := [], harness := (true, "132351bfb1e214a3402d6b367c9428a3fef9d173c4848b612d09337cf10e67c3"), looks := false }, kinds := [], alts := [], laidByText := true, laidKinds := [.data, .pinned], laidTests := true, laidLooks := .later }
def FnRuleMoveCardSaid : Prop := Claim7.holds Tryd.pinned (.plain (OpenSpec.ofChange fnRuleMoveSpec)) fnRuleMoveCard

/-- THE TIED CARD OF 'laws.FnRuleLost'. -/
def fnRuleLostCard : Claim7 := { stood := { row := fnRuleLostRow, standIns := [], harness := (true, "132351bfb1e214a3402d6b367c9428a3fef9d173c4848b612d09337cf10e67c3"), looks := false }, kinds := [], alts := [], laidByText := true, laidKinds := [.data, .pinned], laidTests := true, laidLooks := .later }
def FnRuleLostCardSaid : Prop := Claim7.holds Tryd.pinned (.plain (OpenSpec.ofChange fnRuleLostSpec)) fnRuleLostCard

/-- THE TIED CARD OF 'laws.FnRuleMore'. -/
def fnRuleMoreCard : Claim7 := { stood := { row := fnRuleMoreRow, standIns := [], harness := (true, "132351bfb1e214a3402d6b367c9428a3fef9d173c4848b612d09337cf10e67c3"), looks := false }, kinds := [], alts := [], laidByText := true, laidKinds := [.data, .pinned], laidTests := true, laidLooks := .later }
def FnRuleMoreCardSaid : Prop := Claim7.holds Tryd.pinned (.plain (OpenSpec.ofChange fnRuleMoreSpec)) fnRuleMoreCard

/-- THE SECOND FORM's CARD OF 'laws.FnOwnerOf'. -/
def fnOwnerOfUptoCard : Claim7 := { stood := { row := fnOwnerOfUptoRow, standIns := [], harness := (true, "132351bfb1e214a3402d6b367c9428a3fef9d173c4848b612d09337cf10e67c3"), looks := false }, kinds := [], alts := [], laidByText := true, laidKinds := [.data, .pinned], laidTests := true, laidLooks := .later }
def FnOwnerOfUptoCardSaid : Prop := Claim7.holds Tryd.pinned (.plain (OpenSpec.upto fnOwnerOfSpec)) fnOwnerOfUptoCard

/-- THE SECOND FORM's CARD OF 'laws.FnTreeDrop'. -/
def fnTreeDropUptoCard : Claim7 := { stood := { row := fnTreeDropUptoRow, standIns := [], harness := (true, "132351bfb1e214a3402d6b367c9428a3fef9d173c4848b612d09337cf10e67c3"), looks := false }, kinds := [], alts := [], laidByText := true, laidKinds := [.data, .pinned], laidTests := true, laidLooks := .later }
def FnTreeDropUptoCardSaid : Prop := Claim7.holds Tryd.pinned (.plain (OpenSpec.upto fnTreeDropSpec)) fnTreeDropUptoCard

/-- THE SECOND FORM's CARD OF 'laws.FnRuleUses'. -/
def fnRuleUsesUptoCard : Claim7 := { stood := { row := fnRuleUsesUptoRow, standIns := [], harness := (true, "132351bfb1e214a3402d6b367c9428a3fef9d173c4848b612d09337cf10e67c3"), looks := false }, kinds := [], alts := [], laidByText := true, laidKinds := [.data, .pinned], laidTests := true, laidLooks := .later }
def FnRuleUsesUptoCardSaid : Prop := Claim7.holds Tryd.pinned (.plain (OpenSpec.upto fnRuleUsesSpec)) fnRuleUsesUptoCard

/-- THE SECOND FORM's CARD OF 'laws.FnTreeSet'. -/
def fnTreeSetUptoCard : Claim7 := { stood := { row := fnTreeSetUptoRow, standIns := [], harness := (true, "132351bfb1e214a3402d6b367c9428a3fef9d173c4848b612d09337cf10e67c3"), looks := false }, kinds := [], alts := [], laidByText := true, laidKinds := [.data, .pinned], laidTests := true, laidLooks := .later }
def FnTreeSetUptoCardSaid : Prop := Claim7.holds Tryd.pinned (.plain (OpenSpec.upto fnTreeSetSpec)) fnTreeSetUptoCard

/-- THE SECOND FORM's CARD OF 'laws.FnTreeMove'. -/
def fnTreeMoveUptoCard : Claim7 := { stood := { row := fnTreeMoveUptoRow, standIns := [], harness := (true, "132351bfb1e214a3402d6b367c9428a3fef9d173c4848b612d09337cf10e67c3"), looks := false }, kinds := [], alts := [], laidByText := true, laidKinds := [.data, .pinned], laidTests := true, laidLooks := .later }
def FnTreeMoveUptoCardSaid : Prop := Claim7.holds Tryd.pinned (.plain (OpenSpec.upto fnTreeMoveSpec)) fnTreeMoveUptoCard

/-- THE SECOND FORM's CARD OF 'laws.FnExactRuleMove'. -/
def fnExactRuleMoveUptoCard : Claim7 := { stood := { row := fnExactRuleMoveUptoRow, standIns := [], harness := (true, "132351bfb1e214a3402d6b367c9428a3fef9d173c4848b612d09337cf10e67c3"), looks := false }, kinds := [], alts := [], laidByText := true, laidKinds := [.data, .pinned], laidTests := true, laidLooks := .later }
def FnExactRuleMoveUptoCardSaid : Prop := Claim7.holds Tryd.pinned (.plain (OpenSpec.upto fnExactRuleMoveSpec)) fnExactRuleMoveUptoCard

/-- THE SECOND FORM's CARD OF 'laws.FnRuleMove'. -/
def fnRuleMoveUptoCard : Claim7 := { stood := { row := fnRuleMoveUptoRow, standIns := [], harness := (true, "132351bfb1e214a3402d6b367c9428a3fef9d173c4848b612d09337cf10e67c3"), looks := false }, kinds := [], alts := [], laidByText := true, laidKinds := [.data, .pinned], laidTests := true, laidLooks := .later }
def FnRuleMoveUptoCardSaid : Prop := Claim7.holds Tryd.pinned (.plain (OpenSpec.upto fnRuleMoveSpec)) fnRuleMoveUptoCard

/-- THE SECOND FORM's CARD OF 'laws.FnRuleLost'. -/
def fnRuleLostUptoCard : Claim7 := { stood := { row := fnRuleLostUptoRow, standIns := [], harness := (true, "132351bfb1e214a3402d6b367c9428a3fef9d173c4848b612d09337cf10e67c3"), looks := false }, kinds := [], alts := [], laidByText := true, laidKinds := [.data, .pinned], laidTests := true, laidLooks := .later }
def FnRuleLostUptoCardSaid : Prop := Claim7.holds Tryd.pinned (.plain (OpenSpec.upto fnRuleLostSpec)) fnRuleLostUptoCard

/-- THE SECOND FORM's CARD OF 'laws.FnRuleMore'. -/
def fnRuleMoreUptoCard : Claim7 := { stood := { row := fnRuleMoreUptoRow, standIns := [], harness := (true, "132351bfb1e214a3402d6b367c9428a3fef9d173c4848b612d09337cf10e67c3"), looks := false }, kinds := [], alts := [], laidByText := true, laidKinds := [.data, .pinned], laidTests := true, laidLooks := .later }
def FnRuleMoreUptoCardSaid : Prop := Claim7.holds Tryd.pinned (.plain (OpenSpec.upto fnRuleMoreSpec)) fnRuleMoreUptoCard
end Rows
end Go.Proofs.YtfpneepnnoldeaaDoor
