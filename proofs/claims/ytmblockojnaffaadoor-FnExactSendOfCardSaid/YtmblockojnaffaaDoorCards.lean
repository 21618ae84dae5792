/-
  DERIVED. GIVEN WITH THE SEED: THE CARDS: each row of YtmblockojnaffaaDoorRows.lean that lists a variable, with what it lists TIED to the program's text (the seventh form; the later family's looks); each row that meets fmt, with fmt's text TOLD by the authors' own Lean function (tested against real Go, not proved from fmt's source: count such statements apart). THE CARD IS WHAT COUNTS. Prove the row's statement (the work); the ties are given (YtmblockojnaffaaDoorTie.lean); close each card by the builder's one call (the guide's Derived/Test/ToyasCard.lean, 'card_holds'). Laid BY PROGRAM, IN A SANDBOX (cutbox-door.mjs). By AI agents, Wed Nov 11 2026. No macro, syntax, notation, axiom, sorry.
-/
import Derived.Test.YtmblockojnaffaaDoorRows
import GoSem.ClaimSeven
namespace Go.Proofs.YtmblockojnaffaaDoor
namespace Rows

/-- THE TIED CARD OF 'laws.FnExactSendMany'. -/
def fnExactSendManyCard : Claim7 := { stood := { row := fnExactSendManyRow, standIns := [], harness := (true, "d1ecac6ccac460d82e02cbf49015cfecbaea652243ad203db80023a8cf649c6f"), looks := false }, kinds := [], alts := [], laidByText := true, laidKinds := [.data, .pinned], laidTests := true, laidLooks := .later }
def FnExactSendManyCardSaid : Prop := Claim7.holds Tryd.pinned (.plain (OpenSpec.ofChange fnExactSendManySpec)) fnExactSendManyCard

/-- THE TIED CARD OF 'laws.FnExactLogNext'. -/
def fnExactLogNextCard : Claim7 := { stood := { row := fnExactLogNextRow, standIns := [], harness := (true, "d1ecac6ccac460d82e02cbf49015cfecbaea652243ad203db80023a8cf649c6f"), looks := false }, kinds := [], alts := [], laidByText := true, laidKinds := [.data, .pinned], laidTests := true, laidLooks := .later }
def FnExactLogNextCardSaid : Prop := Claim7.holds Tryd.pinned (.plain (OpenSpec.ofChange fnExactLogNextSpec)) fnExactLogNextCard

/-- THE TIED CARD OF 'laws.FnExactKeepLive'. -/
def fnExactKeepLiveCard : Claim7 := { stood := { row := fnExactKeepLiveRow, standIns := [], harness := (true, "d1ecac6ccac460d82e02cbf49015cfecbaea652243ad203db80023a8cf649c6f"), looks := false }, kinds := [], alts := [], laidByText := true, laidKinds := [.data, .pinned], laidTests := true, laidLooks := .later }
def FnExactKeepLiveCardSaid : Prop := Claim7.holds Tryd.pinned (.plain (OpenSpec.ofChange fnExactKeepLiveSpec)) fnExactKeepLiveCard

/-- THE TIED CARD OF 'laws.FnExactLogWho'. -/
def fnExactLogWhoCard : Claim7 := { stood := { row := fnExactLogWhoRow, standIns := [], harness := (true, "d1ecac6ccac460d82e02cbf49015cfecbaea652243ad203db80023a8cf649c6f"), looks := false }, kinds := [], alts := [], laidByText := true, laidKinds := [.data, .pinned], laidTests := true, laidLooks := .later }
def FnExactLogWhoCardSaid : Prop := Claim7.holds Tryd.pinned (.plain (OpenSpec.ofChange fnExactLogWhoSpec)) fnExactLogWhoCard

/-- THE TIED CARD OF 'laws.FnExactKeepTexts'. -/
def fnExactKeepTextsCard : Claim7 := { stood := { row := fnExactKeepTextsRow, standIns := [], harness := (true, "d1ecac6ccac460d82e02cbf49015cfecbaea652243ad203db80023a8cf649c6f"), looks := false }, kinds := [], alts := [], laidByText := true, laidKinds := [.data, .pinned], laidTests := true, laidLooks := .later }
def FnExactKeepTextsCardSaid : Prop := Claim7.holds Tryd.pinned (.plain (OpenSpec.ofChange fnExactKeepTextsSpec)) fnExactKeepTextsCard

/-- THE TIED CARD OF 'laws.FnExactLogLeft'. -/
def fnExactLogLeftCard : Claim7 := { stood := { row := fnExactLogLeftRow, standIns := [], harness := (true, "d1ecac6ccac460d82e02cbf49015cfecbaea652243ad203db80023a8cf649c6f"), looks := false }, kinds := [], alts := [], laidByText := true, laidKinds := [.data, .pinned], laidTests := true, laidLooks := .later }
def FnExactLogLeftCardSaid : Prop := Claim7.holds Tryd.pinned (.plain (OpenSpec.ofChange fnExactLogLeftSpec)) fnExactLogLeftCard

/-- THE TIED CARD OF 'laws.FnExactBlameOf'. -/
def fnExactBlameOfCard : Claim7 := { stood := { row := fnExactBlameOfRow, standIns := [], harness := (true, "d1ecac6ccac460d82e02cbf49015cfecbaea652243ad203db80023a8cf649c6f"), looks := false }, kinds := [], alts := [], laidByText := true, laidKinds := [.data, .pinned], laidTests := true, laidLooks := .later }
def FnExactBlameOfCardSaid : Prop := Claim7.holds Tryd.pinned (.plain (OpenSpec.ofChange fnExactBlameOfSpec)) fnExactBlameOfCard

/-- THE TIED CARD OF 'laws.FnExactLogPath'. -/
def fnExactLogPathCard : Claim7 := { stood := { row := fnExactLogPathRow, standIns := [], harness := (true, "d1ecac6ccac460d82e02cbf49015cfecbaea652243ad203db80023a8cf649c6f"), looks := false }, kinds := [], alts := [], laidByText := true, laidKinds := [.data, .pinned], laidTests := true, laidLooks := .later }
def FnExactLogPathCardSaid : Prop := Claim7.holds Tryd.pinned (.plain (OpenSpec.ofChange fnExactLogPathSpec)) fnExactLogPathCard

/-- THE TIED CARD OF 'laws.FnExactKeepOnly'. -/
def fnExactKeepOnlyCard : Claim7 := { stood := { row := fnExactKeepOnlyRow, standIns := [], harness := (true, "d1ecac6ccac460d82e02cbf49015cfecbaea652243ad203db80023a8cf649c6f"), looks := false }, kinds := [], alts := [], laidByText := true, laidKinds := [.data, .pinned], laidTests := true, laidLooks := .later }
def FnExactKeepOnlyCardSaid : Prop := Claim7.holds Tryd.pinned (.plain (OpenSpec.ofChange fnExactKeepOnlySpec)) fnExactKeepOnlyCard

/-- THE TIED CARD OF 'laws.FnExactSendOf'. -/
def fnExactSendOfCard : Claim7 := { stood := { row := fnExactSendOfRow, standIns := [], harness := (true, "d1ecac6ccac460d82e02cbf49015cfecbaea652243ad203db80023a8cf649c6f"), looks := false }, kinds := [], alts := [], laidByText := true, laidKinds := [.data, .pinned], laidTests := true, laidLooks := .later }
def FnExactSendOfCardSaid : Prop := Claim7.holds Tryd.pinned (.plain (OpenSpec.ofChange fnExactSendOfSpec)) fnExactSendOfCard

/-- THE TIED CARD OF 'laws.FnExactBlameLine'. -/
def fnExactBlameLineCard : Claim7 := { stood := { row := fnExactBlameLineRow, standIns := [], harness := (true, "d1ecac6ccac460d82e02cbf49015cfecbaea652243ad203db80023a8cf649c6f"), looks := false }, kinds := [], alts := [], laidByText := true, laidKinds := [.data, .pinned], laidTests := true, laidLooks := .later }
def FnExactBlameLineCardSaid : Prop := Claim7.holds Tryd.pinned (.plain (OpenSpec.ofChange fnExactBlameLineSpec)) fnExactBlameLineCard

/-- THE SECOND FORM's CARD OF 'laws.FnExactSendMany'. -/
def fnExactSendManyUptoCard : Claim7 := { stood := { row := fnExactSendManyUptoRow, standIns := [], harness := (true, "d1ecac6ccac460d82e02cbf49015cfecbaea652243ad203db80023a8cf649c6f"), looks := false }, kinds := [], alts := [], laidByText := true, laidKinds := [.data, .pinned], laidTests := true, laidLooks := .later }
def FnExactSendManyUptoCardSaid : Prop := Claim7.holds Tryd.pinned (.plain (OpenSpec.upto fnExactSendManySpec)) fnExactSendManyUptoCard

/-- THE SECOND FORM's CARD OF 'laws.FnExactLogNext'. -/
def fnExactLogNextUptoCard : Claim7 := { stood := { row := fnExactLogNextUptoRow, standIns := [], harness := (true, "d1ecac6ccac460d82e02cbf49015cfecbaea652243ad203db80023a8cf649c6f"), looks := false }, kinds := [], alts := [], laidByText := true, laidKinds := [.data, .pinned], laidTests := true, laidLooks := .later }
def FnExactLogNextUptoCardSaid : Prop := Claim7.holds Tryd.pinned (.plain (OpenSpec.upto fnExactLogNextSpec)) fnExactLogNextUptoCard

/-- THE SECOND FORM's CARD OF 'laws.FnExactKeepLive'. -/
def fnExactKeepLiveUptoCard : Claim7 := { stood := { row := fnExactKeepLiveUptoRow, standIns := [], harness := (true, "d1ecac6ccac460d82e02cbf49015cfecbaea652243ad203db80023a8cf649c6f"), looks := false }, kinds := [], alts := [], laidByText := true, laidKinds := [.data, .pinned], laidTests := true, laidLooks := .later }
def FnExactKeepLiveUptoCardSaid : Prop := Claim7.holds Tryd.pinned (.plain (OpenSpec.upto fnExactKeepLiveSpec)) fnExactKeepLiveUptoCard

/-- THE SECOND FORM's CARD OF 'laws.FnExactLogWho'. -/
def fnExactLogWhoUptoCard : Claim7 := { stood := { row := fnExactLogWhoUptoRow, standIns := [], harness := (true, "d1ecac6ccac460d82e02cbf49015cfecbaea652243ad203db80023a8cf649c6f"), looks := false }, kinds := [], alts := [], laidByText := true, laidKinds := [.data, .pinned], laidTests := true, laidLooks := .later }
def FnExactLogWhoUptoCardSaid : Prop := Claim7.holds Tryd.pinned (.plain (OpenSpec.upto fnExactLogWhoSpec)) fnExactLogWhoUptoCard

/-- THE SECOND FORM's CARD OF 'laws.FnExactKeepTexts'. -/
def fnExactKeepTextsUptoCard : Claim7 := { stood := { row := fnExactKeepTextsUptoRow, standIns := [], harness := (true, "d1ecac6ccac460d82e02cbf49015cfecbaea652243ad203db80023a8cf649c6f"), looks := false }, kinds := [], alts := [], laidByText := true, laidKinds := [.data, .pinned], laidTests := true, laidLooks := .later }
def FnExactKeepTextsUptoCardSaid : Prop := Claim7.holds Tryd.pinned (.plain (OpenSpec.upto fnExactKeepTextsSpec)) fnExactKeepTextsUptoCard

/-- THE SECOND FORM's CARD OF 'laws.FnExactLogLeft'. -/
def fnExactLogLeftUptoCard : Claim7 := { stood := { row := fnExactLogLeftUptoRow, standIns := [], harness := (true, "d1ecac6ccac460d82e02cbf49015cfecbaea652243ad203db80023a8cf649c6f"), looks := false }, kinds := [], alts := [], laidByText := true, laidKinds := [.data, .pinned], laidTests := true, laidLooks := .later }
def FnExactLogLeftUptoCardSaid : Prop := Claim7.holds Tryd.pinned (.plain (OpenSpec.upto fnExactLogLeftSpec)) fnExactLogLeftUptoCard

/-- THE SECOND FORM's CARD OF 'laws.FnExactBlameOf'. -/
def fnExactBlameOfUptoCard : Claim7 := { stood := { row := fnExactBlameOfUptoRow, standIns := [], harness := (true, "d1ecac6ccac460d82e02cbf49015cfecbaea652243ad203db80023a8cf649c6f"), looks := false }, kinds := [], alts := [], laidByText := true, laidKinds := [.data, .pinned], laidTests := true, laidLooks := .later }
def FnExactBlameOfUptoCardSaid : Prop := Claim7.holds Tryd.pinned (.plain (OpenSpec.upto fnExactBlameOfSpec)) fnExactBlameOfUptoCard

/-- THE SECOND FORM's CARD OF 'laws.FnExactLogPath'. -/
def fnExactLogPathUptoCard : Claim7 := { stood := { row := fnExactLogPathUptoRow, standIns := [], harness := (true, "d1ecac6ccac460d82e02cbf49015cfecbaea652243ad203db80023a8cf649c6f"), looks := false }, kinds := [], alts := [], laidByText := true, laidKinds := [.data, .pinned], laidTests := true, laidLooks := .later }
def FnExactLogPathUptoCardSaid : Prop := Claim7.holds Tryd.pinned (.plain (OpenSpec.upto fnExactLogPathSpec)) fnExactLogPathUptoCard

/-- THE SECOND FORM's CARD OF 'laws.FnExactKeepOnly'. -/
def fnExactKeepOnlyUptoCard : Claim7 := { stood := { row := fnExactKeepOnlyUptoRow, standIns := [], harness := (true, "d1ecac6ccac460d82e02cbf49015cfecbaea652243ad203db80023a8cf649c6f"), looks := false }, kinds := [], alts := [], laidByText := true, laidKinds := [.data, .pinned], laidTests := true, laidLooks := .later }
def FnExactKeepOnlyUptoCardSaid : Prop := Claim7.holds Tryd.pinned (.plain (OpenSpec.upto fnExactKeepOnlySpec)) fnExactKeepOnlyUptoCard

/-- THE SECOND FORM's CARD OF 'laws.FnExactSendOf'. -/
def fnExactSendOfUptoCard : Claim7 := { stood := { row := fnExactSendOfUptoRow, standIns := [], harness := (true, "d1ecac6ccac460d82e02cbf49015cfecbaea652243ad203db80023a8cf649c6f"), looks := false }, kinds := [], alts := [], laidByText := true, laidKinds := [.data, .pinned], laidTests := true, laidLooks := .later }
def FnExactSendOfUptoCardSaid : Prop := Claim7.holds Tryd.pinned (.plain (OpenSpec.upto fnExactSendOfSpec)) fnExactSendOfUptoCard

/-- THE SECOND FORM's CARD OF 'laws.FnExactBlameLine'. -/
def fnExactBlameLineUptoCard : Claim7 := { stood := { row := fnExactBlameLineUptoRow, standIns := [], harness := (true, "d1ecac6ccac460d82e02cbf49015cfecbaea652243ad203db80023a8cf649c6f"), looks := false }, kinds := [], alts := [], laidByText := true, laidKinds := [.data, .pinned], laidTests := true, laidLooks := .later }
def FnExactBlameLineUptoCardSaid : Prop := Claim7.holds Tryd.pinned (.plain (OpenSpec.upto fnExactBlameLineSpec)) fnExactBlameLineUptoCard
end Rows
end Go.Proofs.YtmblockojnaffaaDoor
