/-
  DERIVED. GIVEN WITH THE SEED: THE CARDS: each row of YtajajidmncoliaaDoorRows.lean that lists a variable, with what it lists TIED to the program's text (the seventh form; the later family's looks); each row that meets fmt, with fmt's text TOLD by the authors' own Lean function (tested against real Go, not proved from fmt's source: count such statements apart). THE CARD IS WHAT COUNTS. Prove the row's statement (the work); the ties are given (YtajajidmncoliaaDoorTie.lean); close each card by the builder's one call (the guide's Derived/Test/ToyasCard.lean, 'card_holds'). Laid BY PROGRAM, IN A SANDBOX (cutbox-door.mjs). By AI agents, Wed Nov 11 2026. No macro, syntax, notation, axiom, sorry.
-/
import Derived.Test.YtajajidmncoliaaDoorRows
import GoSem.ClaimSeven
namespace Go.Proofs.YtajajidmncoliaaDoor
namespace Rows

/-- THE TIED CARD OF 'laws.FnOwnerOf'. -/
def fnOwnerOfCard : Claim7 := { stood := { row := fnOwnerOfRow, standIns := [], harness := (true, "b13dc1a1dd194325a699f76dc9bfc90aa9f2524c1ca8a1693b5938cf57be218a"), looks := false }, kinds := [], alts := [], laidByText := true, laidKinds := [.data, .pinned], laidTests := true, laidLooks := .later }
def FnOwnerOfCardSaid : Prop := Claim7.holds Tryd.pinned (.plain (OpenSpec.ofChange fnOwnerOfSpec)) fnOwnerOfCard

/-- THE TIED CARD OF 'laws.FnTreeUnder'. -/
def fnTreeUnderCard : Claim7 := { stood := { row := fnTreeUnderRow, standIns := [], harness := (true, "b13dc1a1dd194325a699f76dc9bfc90aa9f2524c1ca8a1693b5938cf57be218a"), looks := false }, kinds := [], alts := [], laidByText := true, laidKinds := [.data, .pinned], laidTests := true, laidLooks := .later }
def FnTreeUnderCardSaid : Prop := Claim7.holds Tryd.pinned (.plain (OpenSpec.ofChange fnTreeUnderSpec)) fnTreeUnderCard

/-- THE TIED CARD OF 'laws.FnTreeGet'. -/
def fnTreeGetCard : Claim7 := { stood := { row := fnTreeGetRow, standIns := [], harness := (true, "b13dc1a1dd194325a699f76dc9bfc90aa9f2524c1ca8a1693b5938cf57be218a"), looks := false }, kinds := [], alts := [], laidByText := true, laidKinds := [.data, .pinned], laidTests := true, laidLooks := .later }
def FnTreeGetCardSaid : Prop := Claim7.holds Tryd.pinned (.plain (OpenSpec.ofChange fnTreeGetSpec)) fnTreeGetCard

/-- THE TIED CARD OF 'laws.FnExactRuleUses'. -/
def fnExactRuleUsesCard : Claim7 := { stood := { row := fnExactRuleUsesRow, standIns := [], harness := (true, "b13dc1a1dd194325a699f76dc9bfc90aa9f2524c1ca8a1693b5938cf57be218a"), looks := false }, kinds := [], alts := [], laidByText := true, laidKinds := [.data, .pinned], laidTests := true, laidLooks := .later }
def FnExactRuleUsesCardSaid : Prop := Claim7.holds Tryd.pinned (.plain (OpenSpec.ofChange fnExactRuleUsesSpec)) fnExactRuleUsesCard

/-- THE TIED CARD OF 'laws.FnTreeDrop'. -/
def fnTreeDropCard : Claim7 := { stood := { row := fnTreeDropRow, standIns := [], harness := (true, "b13dc1a1dd194325a699f76dc9bfc90aa9f2524c1ca8a1693b5938cf57be218a"), looks := false }, kinds := [], alts := [], laidByText := true, laidKinds := [.data, .pinned], laidTests := true, laidLooks := .later }
def FnTreeDropCardSaid : Prop := Claim7.holds Tryd.pinned (.plain (OpenSpec.ofChange fnTreeDropSpec)) fnTreeDropCard

/-- THE TIED CARD OF 'laws.FnRuleUses'. -/
def fnRuleUsesCard : Claim7 := { stood := { row := fnRuleUsesRow, standIns := [], harness := (true, "b13dc1a1dd194325a699f76dc9bfc90aa9f2524c1ca8a1693b5938cf57be218a"), looks := false }, kinds := [], alts := [], laidByText := true, laidKinds := [.data, .pinned], laidTests := true, laidLooks := .later }
def FnRuleUsesCardSaid : Prop := Claim7.holds Tryd.pinned (.plain (OpenSpec.ofChange fnRuleUsesSpec)) fnRuleUsesCard

/-- THE TIED CARD OF 'laws.FnExactRuleLost'. -/
def fnExactRuleLostCard : Claim7 := { stood := { row := fnExactRuleLostRow, standIns := [], harness := (true, "b13dc1a1dd194325a699f76dc9bfc90aa9f2524c1ca8a1693b5938cf57be218a"), looks := false }, kinds := [], alts := [], laidByText := true, laidKinds := [.data, .pinned], laidTests := true, laidLooks := .later }
def FnExactRuleLostCardSaid : Prop := Claim7.holds Tryd.pinned (.plain (OpenSpec.ofChange fnExactRuleLostSpec)) fnExactRuleLostCard

/-- THE TIED CARD OF 'laws.FnTreeSet'. -/
def fnTreeSetCard : Claim7 := { stood := { row := fnTreeSetRow, standIns := [], harness := (true, "b13dc1a1dd194325a699f76dc9bfc90aa9f2524c1ca8a1693b5938cf57be218a"), looks := false }, kinds := [], alts := [], laidByText := true, laidKinds := [.data, .pinned], laidTests := true, laidLooks := .later }
def FnTreeSetCardSaid : Prop := Claim7.holds Tryd.pinned (.plain (OpenSpec.ofChange fnTreeSetSpec)) fnTreeSetCard

/-- THE TIED CARD OF 'laws.FnExactRuleMore'. -/
def fnExactRuleMoreCard : Claim7 := { stood := { row := fnExactRuleMoreRow, standIns := [], harness := (true, "b13dc1a1dd194325a699f76dc9bfc90aa9f2524c1ca8a1693b5938cf57be218a"), looks := false }, kinds := [], alts := [], laidByText := true, laidKinds := [.data, .pinned], laidTests := true, laidLooks := .later }
def FnExactRuleMoreCardSaid : Prop := Claim7.holds Tryd.pinned (.plain (OpenSpec.ofChange fnExactRuleMoreSpec)) fnExactRuleMoreCard

/-- THE TIED CARD OF 'laws.FnExactRuleMove'. -/
def fnExactRuleMoveCard : Claim7 := { stood := { row := fnExactRuleMoveRow, standIns := [], harness := (true, "b13dc1a1dd194325a699f76dc9bfc90aa9f2524c1ca8a1693b5938cf57be218a"), looks := false }, kinds := [], alts := [], laidByText := true, laidKinds := [.data, .pinned], laidTests := true, laidLooks := .later }
def FnExactRuleMoveCardSaid : Prop := Claim7.holds Tryd.pinned (.plain (OpenSpec.ofChange fnExactRuleMoveSpec)) fnExactRuleMoveCard

/-- THE TIED CARD OF 'laws.FnExactKeepOnly'. -/
def fnExactKeepOnlyCard : Claim7 := { stood := { row := fnExactKeepOnlyRow, standIns := [], harness := (true, "b13dc1a1dd194325a699f76dc9bfc90aa9f2524c1ca8a1693b5938cf57be218a"), looks := false }, kinds := [], alts := [], laidByText := true, laidKinds := [.data, .pinned], laidTests := true, laidLooks := .later }
def FnExactKeepOnlyCardSaid : Prop := Claim7.holds Tryd.pinned (.plain (OpenSpec.ofChange fnExactKeepOnlySpec)) fnExactKeepOnlyCard

/-- THE SECOND FORM's CARD OF 'laws.FnOwnerOf'. -/
def fnOwnerOfUptoCard : Claim7 := { stood := { row := fnOwnerOfUptoRow, standIns := [], harness := (true, "b13dc1a1dd194325a699f76dc9bfc90aa9f2524c1ca8a1693b5938cf57be218a"), looks := false }, kinds := [], alts := [], laidByText := true, laidKinds := [.data, .pinned], laidTests := true, laidLooks := .later }
def FnOwnerOfUptoCardSaid : Prop := Claim7.holds Tryd.pinned (.plain (OpenSpec.upto fnOwnerOfSpec)) fnOwnerOfUptoCard

/-- THE SECOND FORM's CARD OF 'laws.FnTreeUnder'. -/
def fnTreeUnderUptoCard : Claim7 := { stood := { row := fnTreeUnderUptoRow, standIns := [], harness := (true, "b13dc1a1dd194325a699f76dc9bfc90aa9f2524c1ca8a1693b5938cf57be218a"), looks := false }, kinds := [], alts := [], laidByText := true, laidKinds := [.data, .pinned], laidTests := true, laidLooks := .later }
def FnTreeUnderUptoCardSaid : Prop := Claim7.holds Tryd.pinned (.plain (OpenSpec.upto fnTreeUnderSpec)) fnTreeUnderUptoCard

/-- THE SECOND FORM's CARD OF 'laws.FnTreeGet'. -/
def fnTreeGetUptoCard : Claim7 := { stood := { row := fnTreeGetUptoRow, standIns := [], harness := (true, "b13dc1a1dd194325a699f76dc9bfc90aa9f2524c1ca8a1693b5938cf57be218a"), looks := false }, kinds := [], alts := [], laidByText := true, laidKinds := [.data, .pinned], laidTests := true, laidLooks := .later }
def FnTreeGetUptoCardSaid : Prop := Claim7.holds Tryd.pinned (.plain (OpenSpec.upto fnTreeGetSpec)) fnTreeGetUptoCard

/-- THE SECOND FORM's CARD OF 'laws.FnExactRuleUses'. -/
def fnExactRuleUsesUptoCard : Claim7 := { stood := { row := fnExactRuleUsesUptoRow, standIns := [], harness := (true, "b13dc1a1dd194325a699f76dc9bfc90aa9f2524c1ca8a1693b5938cf57be218a"), looks := false }, kinds := [], alts := [], laidByText := true, laidKinds := [.data, .pinned], laidTests := true, laidLooks := .later }
def FnExactRuleUsesUptoCardSaid : Prop := Claim7.holds Tryd.pinned (.plain (OpenSpec.upto fnExactRuleUsesSpec)) fnExactRuleUsesUptoCard

/-- THE SECOND FORM's CARD OF 'laws.FnTreeDrop'. -/
def fnTreeDropUptoCard : Claim7 := { stood := { row := fnTreeDropUptoRow, standIns := [], harness := (true, "b13dc1a1dd194325a699f76dc9bfc90aa9f2524c1ca8a1693b5938cf57be218a"), looks := false }, kinds := [], alts := [], laidByText := true, laidKinds := [.data, .pinned], laidTests := true, laidLooks := .later }
def FnTreeDropUptoCardSaid : Prop := Claim7.holds Tryd.pinned (.plain (OpenSpec.upto fnTreeDropSpec)) fnTreeDropUptoCard

/-- THE SECOND FORM's CARD OF 'laws.FnRuleUses'. -/
def fnRuleUsesUptoCard : Claim7 := { stood := { row := fnRuleUsesUptoRow, standIns := [], harness := (true, "b13dc1a1dd194325a699f76dc9bfc90aa9f2524c1ca8a1693b5938cf57be218a"), looks := false }, kinds := [], alts := [], laidByText := true, laidKinds := [.data, .pinned], laidTests := true, laidLooks := .later }
def FnRuleUsesUptoCardSaid : Prop := Claim7.holds Tryd.pinned (.plain (OpenSpec.upto fnRuleUsesSpec)) fnRuleUsesUptoCard

/-- THE SECOND FORM's CARD OF 'laws.FnExactRuleLost'. -/
def fnExactRuleLostUptoCard : Claim7 := { stood := { row := fnExactRuleLostUptoRow, standIns := [], harness := (true, "b13dc1a1dd194325a699f76dc9bfc90aa9f2524c1ca8a1693b5938cf57be218a"), looks := false }, kinds := [], alts := [], laidByText := true, laidKinds := [.data, .pinned], laidTests := true, laidLooks := .later }
def FnExactRuleLostUptoCardSaid : Prop := Claim7.holds Tryd.pinned (.plain (OpenSpec.upto fnExactRuleLostSpec)) fnExactRuleLostUptoCard

/-- THE SECOND FORM's CARD OF 'laws.FnTreeSet'. -/
def fnTreeSetUptoCard : Claim7 := { stood := { row := fnTreeSetUptoRow, standIns := [], harness := (true, "b13dc1a1dd194325a699f76dc9bfc90aa9f2524c1ca8a1693b5938cf57be218a"), looks := false }, kinds := [], alts := [], laidByText := true, laidKinds := [.data, .pinned], laidTests := true, laidLooks := .later }
def FnTreeSetUptoCardSaid : Prop := Claim7.holds Tryd.pinned (.plain (OpenSpec.upto fnTreeSetSpec)) fnTreeSetUptoCard

/-- THE SECOND FORM's CARD OF 'laws.FnExactRuleMore'. -/
def fnExactRuleMoreUptoCard : Claim7 := { stood := { row := fnExactRuleMoreUptoRow, standIns := [], harness := (true, "b13dc1a1dd194325a699f76dc9bfc90aa9f2524c1ca8a1693b5938cf57be218a"), looks := false }, kinds := [], alts := [], laidByText := true, laidKinds := [.data, .pinned], laidTests := true, laidLooks := .later }
def FnExactRuleMoreUptoCardSaid : Prop := Claim7.holds Tryd.pinned (.plain (OpenSpec.upto fnExactRuleMoreSpec)) fnExactRuleMoreUptoCard

/-- THE SECOND FORM's CARD OF 'laws.FnExactRuleMove'. -/
def fnExactRuleMoveUptoCard : Claim7 := { stood := { row := fnExactRuleMoveUptoRow, standIns := [], harness := (true, "b13dc1a1dd194325a699f76dc9bfc90aa9f2524c1ca8a1693b5938cf57be218a"), looks := false }, kinds := [], alts := [], laidByText := true, laidKinds := [.data, .pinned], laidTests := true, laidLooks := .later }
def FnExactRuleMoveUptoCardSaid : Prop := Claim7.holds Tryd.pinned (.plain (OpenSpec.upto fnExactRuleMoveSpec)) fnExactRuleMoveUptoCard

/-- THE SECOND FORM's CARD OF 'laws.FnExactKeepOnly'. -/
def fnExactKeepOnlyUptoCard : Claim7 := { stood := { row := fnExactKeepOnlyUptoRow, standIns := [], harness := (true, "b13dc1a1dd194325a699f76dc9bfc90aa9f2524c1ca8a1693b5938cf57be218a"), looks := false }, kinds := [], alts := [], laidByText := true, laidKinds := [.data, .pinned], laidTests := true, laidLooks := .later }
def FnExactKeepOnlyUptoCardSaid : Prop := Claim7.holds Tryd.pinned (.plain (OpenSpec.upto fnExactKeepOnlySpec)) fnExactKeepOnlyUptoCard
end Rows
end Go.Proofs.YtajajidmncoliaaDoor
