/-
  DERIVED. GIVEN WITH THE SEED: THE CARDS: each row of YtlpfoekbccbhlaaGreatDoorRows.lean that lists a variable, with what it lists TIED to the program's text (the seventh form; the later family's looks); each row that meets fmt, with fmt's text TOLD by the authors' own Lean function (tested against real Go, not proved from fmt's source: count such statements apart). THE CARD IS WHAT COUNTS. Prove the row's statement (the work); the ties are given (YtlpfoekbccbhlaaGreatDoorTie.lean); close each card by the builder's one call (the guide's Derived/Test/ToyasCard.lean, 'card_holds'). Laid BY PROGRAM, IN A SANDBOX (cutbox-door.mjs). By AI agents, Wed Nov 11 2026. No macro, syntax, notation, axiom, sorry.
-/
import Derived.Test.YtlpfoekbccbhlaaGreatDoorRows
import GoSem.ClaimSeven
namespace Go.Proofs.YtlpfoekbccbhlaaGreatDoor
namespace Rows

/-- THE TIED CARD OF 'laws.FnChangesOf'. -/
def fnChangesOfCard : Claim7 := { stood := { row := fnChangesOfRow, standIns := [], harness := (true, "006949e302cadc08919fea3e83388b44e24647c99445084db4c2242b5e915495"), looks := false }, kinds := [], alts := [], laidByText := true, laidKinds := [.data, .pinned], laidTests := true, laidLooks := .later }
def FnChangesOfCardSaid : Prop := Claim7.holds Tryz.pinned (.plain (OpenSpec.ofChange fnChangesOfSpec)) fnChangesOfCard

/-- THE TIED CARD OF 'laws.FnChangesOver'. -/
def fnChangesOverCard : Claim7 := { stood := { row := fnChangesOverRow, standIns := [], harness := (true, "006949e302cadc08919fea3e83388b44e24647c99445084db4c2242b5e915495"), looks := false }, kinds := [], alts := [], laidByText := true, laidKinds := [.data, .pinned], laidTests := true, laidLooks := .later }
def FnChangesOverCardSaid : Prop := Claim7.holds Tryz.pinned (.plain (OpenSpec.ofChange fnChangesOverSpec)) fnChangesOverCard

/-- THE TIED CARD OF 'laws.FnChangesBack'. -/
def fnChangesBackCard : Claim7 := { stood := { row := fnChangesBackRow, standIns := [], harness := (true, "006949e302cadc08919fea3e83388b44e24647c99445084db4c2242b5e915495"), looks := false }, kinds := [], alts := [], laidByText := true, laidKinds := [.data, .pinned], laidTests := true, laidLooks := .later }
def FnChangesBackCardSaid : Prop := Claim7.holds Tryz.pinned (.plain (OpenSpec.ofChange fnChangesBackSpec)) fnChangesBackCard

/-- THE TIED CARD OF 'laws.FnExactBlameWho'. -/
def fnExactBlameWhoCard : Claim7 := { stood := { row := fnExactBlameWhoRow, standIns := [], harness := (true, "006949e302cadc08919fea3e83388b44e24647c99445084db4c2242b5e915495"), looks := false }, kinds := [], alts := [], laidByText := true, laidKinds := [.data, .pinned], laidTests := true, laidLooks := .later }
def FnExactBlameWhoCardSaid : Prop := Claim7.holds Tryz.pinned (.plain (OpenSpec.ofChange fnExactBlameWhoSpec)) fnExactBlameWhoCard

/-- THE TIED CARD OF 'laws.FnChangesPaths'. -/
def fnChangesPathsCard : Claim7 := { stood := { row := fnChangesPathsRow, standIns := [], harness := (true, "006949e302cadc08919fea3e83388b44e24647c99445084db4c2242b5e915495"), looks := false }, kinds := [], alts := [], laidByText := true, laidKinds := [.data, .pinned], laidTests := true, laidLooks := .later }
def FnChangesPathsCardSaid : Prop := Claim7.holds Tryz.pinned (.plain (OpenSpec.ofChange fnChangesPathsSpec)) fnChangesPathsCard

/-- THE SECOND FORM's CARD OF 'laws.FnChangesOf'. -/
def fnChangesOfUptoCard : Claim7 := { stood := { row := fnChangesOfUptoRow, standIns := [], harness := (true, "006949e302cadc08919fea3e83388b44e24647c99445084db4c2242b5e915495"), looks := false }, kinds := [], alts := [], laidByText := true, laidKinds := [.data, .pinned], laidTests := true, laidLooks := .later }
def FnChangesOfUptoCardSaid : Prop := Claim7.holds Tryz.pinned (.plain (OpenSpec.upto fnChangesOfSpec)) fnChangesOfUptoCard

/-- THE SECOND FORM's CARD OF 'laws.FnChangesOver'. -/
def fnChangesOverUptoCard : Claim7 := { stood := { row := fnChangesOverUptoRow, standIns := [], harness := (true, "006949e302cadc08919fea3e83388b44e24647c99445084db4c2242b5e915495"), looks := false }, kinds := [], alts := [], laidByText := true, laidKinds := [.data, .pinned], laidTests := true, laidLooks := .later }
def FnChangesOverUptoCardSaid : Prop := Claim7.holds Tryz.pinned (.plain (OpenSpec.upto fnChangesOverSpec)) fnChangesOverUptoCard

/-- THE SECOND FORM's CARD OF 'laws.FnChangesBack'. -/
def fnChangesBackUptoCard : Claim7 := { stood := { row := fnChangesBackUptoRow, standIns := [], harness := (true, "006949e302cadc08919fea3e83388b44e24647c99445084db4c2242b5e915495"), looks := false }, kinds := [], alts := [], laidByText := true, laidKinds := [.data, .pinned], laidTests := true, laidLooks := .later }
def FnChangesBackUptoCardSaid : Prop := Claim7.holds Tryz.pinned (.plain (OpenSpec.upto fnChangesBackSpec)) fnChangesBackUptoCard

/-- THE SECOND FORM's CARD OF 'laws.FnExactBlameWho'. -/
def fnExactBlameWhoUptoCard : Claim7 := { stood := { row := fnExactBlameWhoUptoRow, standIns := [], harness := (true, "006949e302cadc08919fea3e83388b44e24647c99445084db4c2242b5e915495"), looks := false }, kinds := [], alts := [], laidByText := true, laidKinds := [.data, .pinned], laidTests := true, laidLooks := .later }
def FnExactBlameWhoUptoCardSaid : Prop := Claim7.holds Tryz.pinned (.plain (OpenSpec.upto fnExactBlameWhoSpec)) fnExactBlameWhoUptoCard

/-- THE SECOND FORM's CARD OF 'laws.FnChangesPaths'. -/
def fnChangesPathsUptoCard : Claim7 := { stood := { row := fnChangesPathsUptoRow, standIns := [], harness := (true, "006949e302cadc08919fea3e83388b44e24647c99445084db4c2242b5e915495"), looks := false }, kinds := [], alts := [], laidByText := true, laidKinds := [.data, .pinned], laidTests := true, laidLooks := .later }
def FnChangesPathsUptoCardSaid : Prop := Claim7.holds Tryz.pinned (.plain (OpenSpec.upto fnChangesPathsSpec)) fnChangesPathsUptoCard
end Rows
end Go.Proofs.YtlpfoekbccbhlaaGreatDoor
