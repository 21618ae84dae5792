/-
  NARROWER THAN 'FOR EVERY INPUT', by the rows' own cells (each row's printed sentence says how): FnOwnerOf: laid · FnTreeUnder: laid · FnTreeGet: laid · FnExactRuleUses: laid · FnTreeDrop: laid · FnRuleUses: laid · FnExactRuleLost: laid · FnTreeSet: laid · FnExactRuleMore: laid · FnExactRuleMove: laid · FnExactKeepOnly: laid.
  DERIVED. THE GIVEN ROWS OF THIS SEAT. 11 by the template 'for every input the law returns true; each argument reads behind the call as it read before'; 0 by the template 'total and deterministic' (their statements: YtajajidmncoliaaDoorTotals.lean).
  GIVEN WITH THE SEED: the statements are not yours to turn. If you find one false, say at which input.
  Laid BY PROGRAM, IN A SANDBOX (cutbox-rows.mjs): the forced cells as the released guide's own fill.sh prints them over the translation 332474145dac8b87… (all of the seat's roots in one cut). By AI agents, Wed Nov 11 2026. No macro, syntax, notation, axiom, sorry.
-/
import Derived.Test.YtajajidmncoliaaDoorChecked
import GoSem.PinnedTables
import GoSem.Claim
import GoSem.ClaimJoined
import GoSem.ClaimMapViews
import Derived.JoinedTies
import Derived.KernelRfl
namespace Go.Proofs.YtajajidmncoliaaDoor
/- THE CELL 'sum', in the pinned program and in every row, IS THE sha256 OF THE DUMP (.gsa) THAT YtajajidmncoliaaDoorProg.lean LOADS. Nothing in Lean hashes anything: it is a label: what it is worth is what the hold of that sum in a sandbox is worth. -/
noncomputable def Tryd.pinned : Pinned := { name := "ytajajidmncoliaadoor", sum := "332474145dac8b87e809cb1c101193c1e1cce65349aac9a6b3e46f11dca59687", checked := Tryd.checked }
namespace Rows
def none {H : Type} : Left H := { results := [], args := [] }

/- WHAT THE LISTED PACKAGE-LEVEL VARIABLES READ AS WHEN THE CALL BEGINS. Each datum BY PROGRAM (the guide's laid-datum.mjs) off the statement by which the dump's own 'gosem.cut.vars' lays the variable. In a bare row this is a premise. The card (YtajajidmncoliaaDoorCards.lean) ties it to the program's text. -/
def laid_unicode_utf8_acceptRanges {H : Type} : DataW H := .agg [.agg [.lit (.int .u8 128), .lit (.int .u8 191)], .agg [.lit (.int .u8 160), .lit (.int .u8 191)], .agg [.lit (.int .u8 128), .lit (.int .u8 159)], .agg [.lit (.int .u8 144), .lit (.int .u8 191)], .agg [.lit (.int .u8 128), .lit (.int .u8 143)], .agg [.lit (.int .u8 0), .lit (.int .u8 0)], .agg [.lit (.int .u8 0), .lit (.int .u8 0)], .agg [.lit (.int .u8 0), .lit (.int .u8 0)], .agg [.lit (.int .u8 0), .lit (.int .u8 0)], .agg [.lit (.int .u8 0), .lit (.int .u8 0)], .agg [.lit (.int .u8 0), .lit (.int .u8 0)], .agg [.lit (.int .u8 0), .lit (.int .u8 0)], .agg [.lit (.int .u8 0), .lit (.int .u8 0)], .agg [.lit (.int .u8 0), .lit (.int .u8 0)], .agg [.lit (.int .u8 0), .lit (.int .u8 0)], .agg [.lit (.int .u8 0), .lit (.int .u8 0)]]
/-- One of Go's own tables, pinned by name: the form's constant. -/
def laid_unicode_utf8_first : DataW Unit := Go.Pinned.utf8First

/-- 'laws.FnOwnerOf': WHATEVER THE INPUT: true; the input reads as it did. -/
def fnOwnerOfSpec : ChangeSpec := { name := "fnOwnerOf", fn := fun _ => fun
  | [d] => { results := [.lit (.bool true)], args := [d] }
  | _ => none }
def fnOwnerOfRow : OpenClaim := { program := "ytajajidmncoliaadoor", sum := "332474145dac8b87e809cb1c101193c1e1cce65349aac9a6b3e46f11dca59687", func := "loop.example/versioncontrol/laws.FnOwnerOf", spec := "fnOwnerOf", inPlace := ["internal/bytealg.CountString", "internal/bytealg.IndexByteString", "internal/bytealg.IndexString"], named := ["unicode/utf8.first", "unicode/utf8.acceptRanges", "internal/bytealg.MaxLen"], apart := false, laid := [("unicode/utf8.acceptRanges", laid_unicode_utf8_acceptRanges), ("unicode/utf8.first", laid_unicode_utf8_first)] }
def FnOwnerOfSaid : Prop := fnOwnerOfRow.holds Tryd.pinned (OpenSpec.ofChange fnOwnerOfSpec)

/-- ITS FALSE NEIGHBOUR: 'it returns false'. Refute it at one input. -/
def fnOwnerOfWrong : ChangeSpec := { name := "fnOwnerOf", fn := fun _ => fun
  | [d] => { results := [.lit (.bool false)], args := [d] }
  | _ => none }
def FnOwnerOfWrongFalsely : Prop := fnOwnerOfRow.holds Tryd.pinned (OpenSpec.ofChange fnOwnerOfWrong)

/-- 'laws.FnTreeUnder': WHATEVER THE INPUT: true; the input reads as it did. -/
def fnTreeUnderSpec : ChangeSpec := { name := "fnTreeUnder", fn := fun _ => fun
  | [d] => { results := [.lit (.bool true)], args := [d] }
  | _ => none }
def fnTreeUnderRow : OpenClaim := { program := "ytajajidmncoliaadoor", sum := "332474145dac8b87e809cb1c101193c1e1cce65349aac9a6b3e46f11dca59687", func := "loop.example/versioncontrol/laws.FnTreeUnder", spec := "fnTreeUnder", inPlace := ["internal/bytealg.CountString", "internal/bytealg.IndexByteString", "internal/bytealg.IndexString"], named := ["unicode/utf8.first", "unicode/utf8.acceptRanges", "internal/bytealg.MaxLen"], apart := false, laid := [("unicode/utf8.acceptRanges", laid_unicode_utf8_acceptRanges), ("unicode/utf8.first", laid_unicode_utf8_first)] }
def FnTreeUnderSaid : Prop := fnTreeUnderRow.holds Tryd.pinned (OpenSpec.ofChange fnTreeUnderSpec)

/-- ITS FALSE NEIGHBOUR: 'it returns false'. Refute it at one input. -/
def fnTreeUnderWrong : ChangeSpec := { name := "fnTreeUnder", fn := fun _ => fun
  | [d] => { results := [.lit (.bool false)], args := [d] }
  | _ => none }
def FnTreeUnderWrongFalsely : Prop := fnTreeUnderRow.holds Tryd.pinned (OpenSpec.ofChange fnTreeUnderWrong)

/-- 'laws.FnTreeGet': WHATEVER THE INPUT: true; the input reads as it did. -/
def fnTreeGetSpec : ChangeSpec := { name := "fnTreeGet", fn := fun _ => fun
  | [d] => { results := [.lit (.bool true)], args := [d] }
  | _ => none }
def fnTreeGetRow : OpenClaim := { program := "ytajajidmncoliaadoor", sum := "332474145dac8b87e809cb1c101193c1e1cce65349aac9a6b3e46f11dca59687", func := "loop.example/versioncontrol/laws.FnTreeGet", spec := "fnTreeGet", inPlace := ["internal/bytealg.CountString", "internal/bytealg.IndexByteString", "internal/bytealg.IndexString"], named := ["unicode/utf8.first", "unicode/utf8.acceptRanges", "internal/bytealg.MaxLen"], apart := false, laid := [("unicode/utf8.acceptRanges", laid_unicode_utf8_acceptRanges), ("unicode/utf8.first", laid_unicode_utf8_first)] }
def FnTreeGetSaid : Prop := fnTreeGetRow.holds Tryd.pinned (OpenSpec.ofChange fnTreeGetSpec)

/-- ITS FALSE NEIGHBOUR: 'it returns false'. Refute it at one input. -/
def fnTreeGetWrong : ChangeSpec := { name := "fnTreeGet", fn := fun _ => fun
  | [d] => { results := [.lit (.bool false)], args := [d] }
  | _ => none }
def FnTreeGetWrongFalsely : Prop := fnTreeGetRow.holds Tryd.pinned (OpenSpec.ofChange fnTreeGetWrong)

/-- 'laws.FnExactRuleUses': WHATEVER THE INPUT: true; the input reads as it did. -/
def fnExactRuleUsesSpec : ChangeSpec := { name := "fnExactRuleUses", fn := fun _ => fun
  | [d1, d2] => { results := [.lit (.bool true)], args := [d1, d2] }
  | _ => none }
def fnExactRuleUsesRow : OpenClaim := { program := "ytajajidmncoliaadoor", sum := "332474145dac8b87e809cb1c101193c1e1cce65349aac9a6b3e46f11dca59687", func := "loop.example/versioncontrol/laws.FnExactRuleUses", spec := "fnExactRuleUses", inPlace := ["internal/bytealg.CountString", "internal/bytealg.IndexByteString", "internal/bytealg.IndexString"], unfollowed := true, recurses := true, named := ["unicode/utf8.first", "unicode/utf8.acceptRanges", "internal/bytealg.MaxLen"], apart := false, laid := [("unicode/utf8.acceptRanges", laid_unicode_utf8_acceptRanges), ("unicode/utf8.first", laid_unicode_utf8_first)] }
def FnExactRuleUsesSaid : Prop := fnExactRuleUsesRow.holds Tryd.pinned (OpenSpec.ofChange fnExactRuleUsesSpec)

/-- ITS FALSE NEIGHBOUR: 'it returns false'. Refute it at one input. -/
def fnExactRuleUsesWrong : ChangeSpec := { name := "fnExactRuleUses", fn := fun _ => fun
  | [d1, d2] => { results := [.lit (.bool false)], args := [d1, d2] }
  | _ => none }
def FnExactRuleUsesWrongFalsely : Prop := fnExactRuleUsesRow.holds Tryd.pinned (OpenSpec.ofChange fnExactRuleUsesWrong)

/-- 'laws.FnTreeDrop': WHATEVER THE INPUT: true; the input reads as it did. -/
def fnTreeDropSpec : ChangeSpec := { name := "fnTreeDrop", fn := fun _ => fun
  | [d] => { results := [.lit (.bool true)], args := [d] }
  | _ => none }
def fnTreeDropRow : OpenClaim := { program := "ytajajidmncoliaadoor", sum := "332474145dac8b87e809cb1c101193c1e1cce65349aac9a6b3e46f11dca59687", func := "loop.example/versioncontrol/laws.FnTreeDrop", spec := "fnTreeDrop", inPlace := ["internal/bytealg.CountString", "internal/bytealg.IndexByteString", "internal/bytealg.IndexString"], named := ["unicode/utf8.first", "unicode/utf8.acceptRanges", "internal/bytealg.MaxLen"], apart := false, laid := [("unicode/utf8.acceptRanges", laid_unicode_utf8_acceptRanges), ("unicode/utf8.first", laid_unicode_utf8_first)] }
def FnTreeDropSaid : Prop := fnTreeDropRow.holds Tryd.pinned (OpenSpec.ofChange fnTreeDropSpec)

/-- ITS FALSE NEIGHBOUR: 'it returns false'. Refute it at one input. -/
def fnTreeDropWrong : ChangeSpec := { name := "fnTreeDrop", fn := fun _ => fun
  | [d] => { results := [.lit (.bool false)], args := [d] }
  | _ => none }
def FnTreeDropWrongFalsely : Prop := fnTreeDropRow.holds Tryd.pinned (OpenSpec.ofChange fnTreeDropWrong)

/-- 'laws.FnRuleUses': WHATEVER THE INPUT: true; the input reads as it did. -/
def fnRuleUsesSpec : ChangeSpec := { name := "fnRuleUses", fn := fun _ => fun
  | [d] => { results := [.lit (.bool true)], args := [d] }
  | _ => none }
def fnRuleUsesRow : OpenClaim := { program := "ytajajidmncoliaadoor", sum := "332474145dac8b87e809cb1c101193c1e1cce65349aac9a6b3e46f11dca59687", func := "loop.example/versioncontrol/laws.FnRuleUses", spec := "fnRuleUses", inPlace := ["internal/bytealg.CountString", "internal/bytealg.IndexByteString", "internal/bytealg.IndexString"], unfollowed := true, recurses := true, named := ["unicode/utf8.first", "unicode/utf8.acceptRanges", "internal/bytealg.MaxLen"], apart := false, laid := [("unicode/utf8.acceptRanges", laid_unicode_utf8_acceptRanges), ("unicode/utf8.first", laid_unicode_utf8_first)] }
def FnRuleUsesSaid : Prop := fnRuleUsesRow.holds Tryd.pinned (OpenSpec.ofChange fnRuleUsesSpec)

/-- ITS FALSE NEIGHBOUR: 'it returns false'. Refute it at one input. -/
def fnRuleUsesWrong : ChangeSpec := { name := "fnRuleUses", fn := fun _ => fun
  | [d] => { results := [.lit (.bool false)], args := [d] }
  | _ => none }
def FnRuleUsesWrongFalsely : Prop := fnRuleUsesRow.holds Tryd.pinned (OpenSpec.ofChange fnRuleUsesWrong)

/-- 'laws.FnExactRuleLost': WHATEVER THE INPUT: true; the input reads as it did. -/
def fnExactRuleLostSpec : ChangeSpec := { name := "fnExactRuleLost", fn := fun _ => fun
  | [d] => { results := [.lit (.bool true)], args := [d] }
  | _ => none }
def fnExactRuleLostRow : OpenClaim := { program := "ytajajidmncoliaadoor", sum := "332474145dac8b87e809cb1c101193c1e1cce65349aac9a6b3e46f11dca59687", func := "loop.example/versioncontrol/laws.FnExactRuleLost", spec := "fnExactRuleLost", inPlace := ["internal/bytealg.CountString", "internal/bytealg.IndexByteString", "internal/bytealg.IndexString"], named := ["unicode/utf8.first", "unicode/utf8.acceptRanges", "internal/bytealg.MaxLen"], apart := false, laid := [("unicode/utf8.acceptRanges", laid_unicode_utf8_acceptRanges), ("unicode/utf8.first", laid_unicode_utf8_first)] }
def FnExactRuleLostSaid : Prop := fnExactRuleLostRow.holds Tryd.pinned (OpenSpec.ofChange fnExactRuleLostSpec)

/-- ITS FALSE NEIGHBOUR: 'it returns false'. Refute it at one input. -/
def fnExactRuleLostWrong : ChangeSpec := { name := "fnExactRuleLost", fn := fun _ => fun
  | [d] => { results := [.lit (.bool false)], args := [d] }
  | _ => none }
def FnExactRuleLostWrongFalsely : Prop := fnExactRuleLostRow.holds Tryd.pinned (OpenSpec.ofChange fnExactRuleLostWrong)

/-- 'laws.FnTreeSet': WHATEVER THE INPUT: true; the input reads as it did. -/
def fnTreeSetSpec : ChangeSpec := { name := "fnTreeSet", fn := fun _ => fun
  | [d1, d2] => { results := [.lit (.bool true)], args := [d1, d2] }
  | _ => none }
def fnTreeSetRow : OpenClaim := { program := "ytajajidmncoliaadoor", sum := "332474145dac8b87e809cb1c101193c1e1cce65349aac9a6b3e46f11dca59687", func := "loop.example/versioncontrol/laws.FnTreeSet", spec := "fnTreeSet", inPlace := ["internal/bytealg.CountString", "internal/bytealg.IndexByteString", "internal/bytealg.IndexString", "slices.overlaps[loop.example/versioncontrol/impl.File]"], named := ["unicode/utf8.first", "unicode/utf8.acceptRanges", "internal/bytealg.MaxLen"], apart := false, laid := [("unicode/utf8.acceptRanges", laid_unicode_utf8_acceptRanges), ("unicode/utf8.first", laid_unicode_utf8_first)] }
def FnTreeSetSaid : Prop := fnTreeSetRow.holds Tryd.pinned (OpenSpec.ofChange fnTreeSetSpec)

/-- ITS FALSE NEIGHBOUR: 'it returns false'. Refute it at one input. -/
def fnTreeSetWrong : ChangeSpec := { name := "fnTreeSet", fn := fun _ => fun
  | [d1, d2] => { results := [.lit (.bool false)], args := [d1, d2] }
  | _ => none }
def FnTreeSetWrongFalsely : Prop := fnTreeSetRow.holds Tryd.pinned (OpenSpec.ofChange fnTreeSetWrong)

/-- 'laws.FnExactRuleMore': WHATEVER THE INPUT: true; the input reads as it did. -/
def fnExactRuleMoreSpec : ChangeSpec := { name := "fnExactRuleMore", fn := fun _ => fun
  | [d1, d2] => { results := [.lit (.bool true)], args := [d1, d2] }
  | _ => none }
def fnExactRuleMoreRow : OpenClaim := { program := "ytajajidmncoliaadoor", sum := "332474145dac8b87e809cb1c101193c1e1cce65349aac9a6b3e46f11dca59687", func := "loop.example/versioncontrol/laws.FnExactRuleMore", spec := "fnExactRuleMore", inPlace := ["internal/bytealg.CountString", "internal/bytealg.IndexByteString", "internal/bytealg.IndexString"], named := ["unicode/utf8.first", "unicode/utf8.acceptRanges", "internal/bytealg.MaxLen"], apart := false, laid := [("unicode/utf8.acceptRanges", laid_unicode_utf8_acceptRanges), ("unicode/utf8.first", laid_unicode_utf8_first)] }
def FnExactRuleMoreSaid : Prop := fnExactRuleMoreRow.holds Tryd.pinned (OpenSpec.ofChange fnExactRuleMoreSpec)

/-- ITS FALSE NEIGHBOUR: 'it returns false'. Refute it at one input. -/
def fnExactRuleMoreWrong : ChangeSpec := { name := "fnExactRuleMore", fn := fun _ => fun
  | [d1, d2] => { results := [.lit (.bool false)], args := [d1, d2] }
  | _ => none }
def FnExactRuleMoreWrongFalsely : Prop := fnExactRuleMoreRow.holds Tryd.pinned (OpenSpec.ofChange fnExactRuleMoreWrong)

/-- 'laws.FnExactRuleMove': WHATEVER THE INPUT: true; the input reads as it did. -/
def fnExactRuleMoveSpec : ChangeSpec := { name := "fnExactRuleMove", fn := fun _ => fun
  | [d1, d2, d3] => { results := [.lit (.bool true)], args := [d1, d2, d3] }
  | _ => none }
def fnExactRuleMoveRow : OpenClaim := { program := "ytajajidmncoliaadoor", sum := "332474145dac8b87e809cb1c101193c1e1cce65349aac9a6b3e46f11dca59687", func := "loop.example/versioncontrol/laws.FnExactRuleMove", spec := "fnExactRuleMove", inPlace := ["internal/bytealg.CountString", "internal/bytealg.IndexByteString", "internal/bytealg.IndexString", "slices.overlaps[loop.example/versioncontrol/impl.File]"], named := ["unicode/utf8.first", "unicode/utf8.acceptRanges", "internal/bytealg.MaxLen"], apart := false, laid := [("unicode/utf8.acceptRanges", laid_unicode_utf8_acceptRanges), ("unicode/utf8.first", laid_unicode_utf8_first)] }
def FnExactRuleMoveSaid : Prop := fnExactRuleMoveRow.holds Tryd.pinned (OpenSpec.ofChange fnExactRuleMoveSpec)

/-- ITS FALSE NEIGHBOUR: 'it returns false'. Refute it at one input. -/
def fnExactRuleMoveWrong : ChangeSpec := { name := "fnExactRuleMove", fn := fun _ => fun
  | [d1, d2, d3] => { results := [.lit (.bool false)], args := [d1, d2, d3] }
  | _ => none }
def FnExactRuleMoveWrongFalsely : Prop := fnExactRuleMoveRow.holds Tryd.pinned (OpenSpec.ofChange fnExactRuleMoveWrong)

/-- 'laws.FnExactKeepOnly': WHATEVER THE INPUT: true; the input reads as it did. -/
def fnExactKeepOnlySpec : ChangeSpec := { name := "fnExactKeepOnly", fn := fun _ => fun
  | [d] => { results := [.lit (.bool true)], args := [d] }
  | _ => none }
def fnExactKeepOnlyRow : OpenClaim := { program := "ytajajidmncoliaadoor", sum := "332474145dac8b87e809cb1c101193c1e1cce65349aac9a6b3e46f11dca59687", func := "loop.example/versioncontrol/laws.FnExactKeepOnly", spec := "fnExactKeepOnly", inPlace := ["internal/bytealg.CountString", "internal/bytealg.IndexByteString", "internal/bytealg.IndexString"], named := ["unicode/utf8.first", "unicode/utf8.acceptRanges", "internal/bytealg.MaxLen"], apart := false, laid := [("unicode/utf8.acceptRanges", laid_unicode_utf8_acceptRanges), ("unicode/utf8.first", laid_unicode_utf8_first)] }
def FnExactKeepOnlySaid : Prop := fnExactKeepOnlyRow.holds Tryd.pinned (OpenSpec.ofChange fnExactKeepOnlySpec)

/-- ITS FALSE NEIGHBOUR: 'it returns false'. Refute it at one input. -/
def fnExactKeepOnlyWrong : ChangeSpec := { name := "fnExactKeepOnly", fn := fun _ => fun
  | [d] => { results := [.lit (.bool false)], args := [d] }
  | _ => none }
def FnExactKeepOnlyWrongFalsely : Prop := fnExactKeepOnlyRow.holds Tryd.pinned (OpenSpec.ofChange fnExactKeepOnlyWrong)

/- THE SECOND FORM. 'bulk': how many values and letters a reading holds, each counted each time it is reached (what is shared counts as often as it is met; a slice's spare places count too). A statement '..UptoSaid' is the law's where the arguments, and the package variables that the reading takes, are together of bulk at most 1048576: NARROWER than '..Said'. Prove '..Said' where nothing that the law and all that it calls make is longer than what came in: it says more and counts as full. Else prove '..UptoSaid'. A law counts once. -/
mutual
def uptoBulk {H : Type} : DataW H → Nat
  | .lit (.string bytes) => bytes.length + 1
  | .lit _ => 1
  | .nil => 1
  | .ptr d => uptoBulk d + 1
  | .slice elems spare => uptoBulkAll elems + uptoBulkAll spare + 1
  | .agg parts => uptoBulkAll parts + 1
  | .iface _ d => uptoBulk d + 1
  | .map entries => uptoBulkEntries entries + 1
  | .held _ => 1
def uptoBulkAll {H : Type} : List (DataW H) → Nat
  | [] => 0
  | d :: r => uptoBulk d + uptoBulkAll r
def uptoBulkEntries {H : Type} : List (Lit × DataW H) → Nat
  | [] => 0
  | x :: r => uptoBulkEntry x + uptoBulkEntries r
def uptoBulkEntry {H : Type} : Lit × DataW H → Nat
  | (.string bytes, d) => bytes.length + uptoBulk d + 1
  | (_, d) => uptoBulk d + 1
 end
def uptoSmall : (H : Type) → List (DataW H) → Bool := fun _ ds => decide (uptoBulkAll ds ≤ 1048576)
def OpenSpec.upto (s : _root_.Go.ChangeSpec) : _root_.Go.OpenSpec := { _root_.Go.OpenSpec.ofChange s with cond := some uptoSmall }

/-- 'laws.FnOwnerOf', WHERE WHAT IT READS IS OF BULK AT MOST 1048576: true; the input reads as it did. -/
def fnOwnerOfUptoRow : OpenClaim := { program := "ytajajidmncoliaadoor", sum := "332474145dac8b87e809cb1c101193c1e1cce65349aac9a6b3e46f11dca59687", func := "loop.example/versioncontrol/laws.FnOwnerOf", spec := "fnOwnerOf", inPlace := ["internal/bytealg.CountString", "internal/bytealg.IndexByteString", "internal/bytealg.IndexString"], named := ["unicode/utf8.first", "unicode/utf8.acceptRanges", "internal/bytealg.MaxLen"], apart := false, laid := [("unicode/utf8.acceptRanges", laid_unicode_utf8_acceptRanges), ("unicode/utf8.first", laid_unicode_utf8_first)], narrowed := true }
def FnOwnerOfUptoSaid : Prop := fnOwnerOfUptoRow.holds Tryd.pinned (OpenSpec.upto fnOwnerOfSpec)

/-- 'laws.FnTreeUnder', WHERE WHAT IT READS IS OF BULK AT MOST 1048576: true; the input reads as it did. -/
def fnTreeUnderUptoRow : OpenClaim := { program := "ytajajidmncoliaadoor", sum := "332474145dac8b87e809cb1c101193c1e1cce65349aac9a6b3e46f11dca59687", func := "loop.example/versioncontrol/laws.FnTreeUnder", spec := "fnTreeUnder", inPlace := ["internal/bytealg.CountString", "internal/bytealg.IndexByteString", "internal/bytealg.IndexString"], named := ["unicode/utf8.first", "unicode/utf8.acceptRanges", "internal/bytealg.MaxLen"], apart := false, laid := [("unicode/utf8.acceptRanges", laid_unicode_utf8_acceptRanges), ("unicode/utf8.first", laid_unicode_utf8_first)], narrowed := true }
def FnTreeUnderUptoSaid : Prop := fnTreeUnderUptoRow.holds Tryd.pinned (OpenSpec.upto fnTreeUnderSpec)

/-- 'laws.FnTreeGet', WHERE WHAT IT READS IS OF BULK AT MOST 1048576: true; the input reads as it did. -/
def fnTreeGetUptoRow : OpenClaim := { program := "ytajajidmncoliaadoor", sum := "332474145dac8b87e809cb1c101193c1e1cce65349aac9a6b3e46f11dca59687", func := "loop.example/versioncontrol/laws.FnTreeGet", spec := "fnTreeGet", inPlace := ["internal/bytealg.CountString", "internal/bytealg.IndexByteString", "internal/bytealg.IndexString"], named := ["unicode/utf8.first", "unicode/utf8.acceptRanges", "internal/bytealg.MaxLen"], apart := false, laid := [("unicode/utf8.acceptRanges", laid_unicode_utf8_acceptRanges), ("unicode/utf8.first", laid_unicode_utf8_first)], narrowed := true }
def FnTreeGetUptoSaid : Prop := fnTreeGetUptoRow.holds Tryd.pinned (OpenSpec.upto fnTreeGetSpec)

/-- 'laws.FnExactRuleUses', WHERE WHAT IT READS IS OF BULK AT MOST 1048576: true; the input reads as it did. -/
def fnExactRuleUsesUptoRow : OpenClaim := { program := "ytajajidmncoliaadoor", sum := "332474145dac8b87e809cb1c101193c1e1cce65349aac9a6b3e46f11dca59687", func := "loop.example/versioncontrol/laws.FnExactRuleUses", spec := "fnExactRuleUses", inPlace := ["internal/bytealg.CountString", "internal/bytealg.IndexByteString", "internal/bytealg.IndexString"], unfollowed := true, recurses := true, named := ["unicode/utf8.first", "unicode/utf8.acceptRanges", "internal/bytealg.MaxLen"], apart := false, laid := [("unicode/utf8.acceptRanges", laid_unicode_utf8_acceptRanges), ("unicode/utf8.first", laid_unicode_utf8_first)], narrowed := true }
def FnExactRuleUsesUptoSaid : Prop := fnExactRuleUsesUptoRow.holds Tryd.pinned (OpenSpec.upto fnExactRuleUsesSpec)

/-- 'laws.FnTreeDrop', WHERE WHAT IT READS IS OF BULK AT MOST 1048576: true; the input reads as it did. -/
def fnTreeDropUptoRow : OpenClaim := { program := "ytajajidmncoliaadoor", sum := "332474145dac8b87e809cb1c101193c1e1cce65349aac9a6b3e46f11dca59687", func := "loop.example/versioncontrol/laws.FnTreeDrop", spec := "fnTreeDrop", inPlace := ["internal/bytealg.CountString", "internal/bytealg.IndexByteString", "internal/bytealg.IndexString"], named := ["unicode/utf8.first", "unicode/utf8.acceptRanges", "internal/bytealg.MaxLen"], apart := false, laid := [("unicode/utf8.acceptRanges", laid_unicode_utf8_acceptRanges), ("unicode/utf8.first", laid_unicode_utf8_first)], narrowed := true }
def FnTreeDropUptoSaid : Prop := fnTreeDropUptoRow.holds Tryd.pinned (OpenSpec.upto fnTreeDropSpec)

/-- 'laws.FnRuleUses', WHERE WHAT IT READS IS OF BULK AT MOST 1048576: true; the input reads as it did. -/
def fnRuleUsesUptoRow : OpenClaim := { program := "ytajajidmncoliaadoor", sum := "332474145dac8b87e809cb1c101193c1e1cce65349aac9a6b3e46f11dca59687", func := "loop.example/versioncontrol/laws.FnRuleUses", spec := "fnRuleUses", inPlace := ["internal/bytealg.CountString", "internal/bytealg.IndexByteString", "internal/bytealg.IndexString"], unfollowed := true, recurses := true, named := ["unicode/utf8.first", "unicode/utf8.acceptRanges", "internal/bytealg.MaxLen"], apart := false, laid := [("unicode/utf8.acceptRanges", laid_unicode_utf8_acceptRanges), ("unicode/utf8.first", laid_unicode_utf8_first)], narrowed := true }
def FnRuleUsesUptoSaid : Prop := fnRuleUsesUptoRow.holds Tryd.pinned (OpenSpec.upto fnRuleUsesSpec)

/-- 'laws.FnExactRuleLost', WHERE WHAT IT READS IS OF BULK AT MOST 1048576: true; the input reads as it did. -/
def fnExactRuleLostUptoRow : OpenClaim := { program := "ytajajidmncoliaadoor", sum := "332474145dac8b87e809cb1c101193c1e1cce65349aac9a6b3e46f11dca59687", func := "loop.example/versioncontrol/laws.FnExactRuleLost", spec := "fnExactRuleLost", inPlace := ["internal/bytealg.CountString", "internal/bytealg.IndexByteString", "internal/bytealg.IndexString"], named := ["unicode/utf8.first", "unicode/utf8.acceptRanges", "internal/bytealg.MaxLen"], apart := false, laid := [("unicode/utf8.acceptRanges", laid_unicode_utf8_acceptRanges), ("unicode/utf8.first", laid_unicode_utf8_first)], narrowed := true }
def FnExactRuleLostUptoSaid : Prop := fnExactRuleLostUptoRow.holds Tryd.pinned (OpenSpec.upto fnExactRuleLostSpec)

/-- 'laws.FnTreeSet', WHERE WHAT IT READS IS OF BULK AT MOST 1048576: true; the input reads as it did. -/
def fnTreeSetUptoRow : OpenClaim := { program := "ytajajidmncoliaadoor", sum := "332474145dac8b87e809cb1c101193c1e1cce65349aac9a6b3e46f11dca59687", func := "loop.example/versioncontrol/laws.FnTreeSet", spec := "fnTreeSet", inPlace := ["internal/bytealg.CountString", "internal/bytealg.IndexByteString", "internal/bytealg.IndexString", "slices.overlaps[loop.example/versioncontrol/impl.File]"], named := ["unicode/utf8.first", "unicode/utf8.acceptRanges", "internal/bytealg.MaxLen"], apart := false, laid := [("unicode/utf8.acceptRanges", laid_unicode_utf8_acceptRanges), ("unicode/utf8.first", laid_unicode_utf8_first)], narrowed := true }
def FnTreeSetUptoSaid : Prop := fnTreeSetUptoRow.holds Tryd.pinned (OpenSpec.upto fnTreeSetSpec)

/-- 'laws.FnExactRuleMore', WHERE WHAT IT READS IS OF BULK AT MOST 1048576: true; the input reads as it did. -/
def fnExactRuleMoreUptoRow : OpenClaim := { program := "ytajajidmncoliaadoor", sum := "332474145dac8b87e809cb1c101193c1e1cce65349aac9a6b3e46f11dca59687", func := "loop.example/versioncontrol/laws.FnExactRuleMore", spec := "fnExactRuleMore", inPlace := ["internal/bytealg.CountString", "internal/bytealg.IndexByteString", "internal/bytealg.IndexString"], named := ["unicode/utf8.first", "unicode/utf8.acceptRanges", "internal/bytealg.MaxLen"], apart := false, laid := [("unicode/utf8.acceptRanges", laid_unicode_utf8_acceptRanges), ("unicode/utf8.first", laid_unicode_utf8_first)], narrowed := true }
def FnExactRuleMoreUptoSaid : Prop := fnExactRuleMoreUptoRow.holds Tryd.pinned (OpenSpec.upto fnExactRuleMoreSpec)

/-- 'laws.FnExactRuleMove', WHERE WHAT IT READS IS OF BULK AT MOST 1048576: true; the input reads as it did. -/
def fnExactRuleMoveUptoRow : OpenClaim := { program := "ytajajidmncoliaadoor", sum := "332474145dac8b87e809cb1c101193c1e1cce65349aac9a6b3e46f11dca59687", func := "loop.example/versioncontrol/laws.FnExactRuleMove", spec := "fnExactRuleMove", inPlace := ["internal/bytealg.CountString", "internal/bytealg.IndexByteString", "internal/bytealg.IndexString", "slices.overlaps[loop.example/versioncontrol/impl.File]"], named := ["unicode/utf8.first", "unicode/utf8.acceptRanges", "internal/bytealg.MaxLen"], apart := false, laid := [("unicode/utf8.acceptRanges", laid_unicode_utf8_acceptRanges), ("unicode/utf8.first", laid_unicode_utf8_first)], narrowed := true }
def FnExactRuleMoveUptoSaid : Prop := fnExactRuleMoveUptoRow.holds Tryd.pinned (OpenSpec.upto fnExactRuleMoveSpec)

/-- 'laws.FnExactKeepOnly', WHERE WHAT IT READS IS OF BULK AT MOST 1048576: true; the input reads as it did. -/
def fnExactKeepOnlyUptoRow : OpenClaim := { program := "ytajajidmncoliaadoor", sum := "332474145dac8b87e809cb1c101193c1e1cce65349aac9a6b3e46f11dca59687", func := "loop.example/versioncontrol/laws.FnExactKeepOnly", spec := "fnExactKeepOnly", inPlace := ["internal/bytealg.CountString", "internal/bytealg.IndexByteString", "internal/bytealg.IndexString"], named := ["unicode/utf8.first", "unicode/utf8.acceptRanges", "internal/bytealg.MaxLen"], apart := false, laid := [("unicode/utf8.acceptRanges", laid_unicode_utf8_acceptRanges), ("unicode/utf8.first", laid_unicode_utf8_first)], narrowed := true }
def FnExactKeepOnlyUptoSaid : Prop := fnExactKeepOnlyUptoRow.holds Tryd.pinned (OpenSpec.upto fnExactKeepOnlySpec)

end Rows
end Go.Proofs.YtajajidmncoliaaDoor
