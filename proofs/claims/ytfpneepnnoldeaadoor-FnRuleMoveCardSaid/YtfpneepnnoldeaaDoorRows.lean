/-
  NARROWER THAN 'FOR EVERY INPUT', by the rows' own cells (each row's printed sentence says how): FnOwnerOf: laid · FnTreeDrop: laid · FnRuleUses: laid · FnTreeSet: laid · FnTreeMove: laid · FnExactRuleMove: laid · FnRuleMove: laid · FnRuleLost: laid · FnRuleMore: laid.
  DERIVED. THE GIVEN ROWS OF THIS SEAT. 9 by the template 'for every input the law returns true; each argument reads behind the call as it read before'; 0 by the template 'total and deterministic' (their statements: YtfpneepnnoldeaaDoorTotals.lean).
  GIVEN WITH THE SEED: the statements are not yours to turn. If you find one false, say at which input.
  Laid BY PROGRAM, IN A SANDBOX (cutbox-rows.mjs): the forced cells as the released guide's own fill.sh prints them over the translation ccff0a2d1c9ec700… (all of the seat's roots in one cut). By AI agents, Wed Nov 11 2026. No macro, syntax, notation, axiom, sorry.
-/
import Derived.Test.YtfpneepnnoldeaaDoorChecked
import GoSem.PinnedTables
import GoSem.Claim
import GoSem.ClaimJoined
import GoSem.ClaimMapViews
import Derived.JoinedTies
import Derived.KernelRfl
namespace Go.Proofs.YtfpneepnnoldeaaDoor
/- THE CELL 'sum', in the pinned program and in every row, IS THE sha256 OF THE DUMP (.gsa) THAT YtfpneepnnoldeaaDoorProg.lean LOADS. Nothing in Lean hashes anything: it is a label: what it is worth is what the hold of that sum in a sandbox is worth. -/
noncomputable def Tryd.pinned : Pinned := { name := "ytfpneepnnoldeaadoor", sum := "ccff0a2d1c9ec700ad510893ec7d487a745681cee0c7025a3d637a7f2f49a486", checked := Tryd.checked }
namespace Rows
def none {H : Type} : Left H := { results := [], args := [] }

/- WHAT THE LISTED PACKAGE-LEVEL VARIABLES READ AS WHEN THE CALL BEGINS. Each datum BY PROGRAM (the guide's laid-datum.mjs) off the statement by which the dump's own 'gosem.cut.vars' lays the variable. In a bare row this is a premise. The card (YtfpneepnnoldeaaDoorCards.lean) ties it to the program's text. -/
def laid_unicode_utf8_acceptRanges {H : Type} : DataW H := .agg [.agg [.lit (.int .u8 128), .lit (.int .u8 191)], .agg [.lit (.int .u8 160), .lit (.int .u8 191)], .agg [.lit (.int .u8 128), .lit (.int .u8 159)], .agg [.lit (.int .u8 144), .lit (.int .u8 191)], .agg [.lit (.int .u8 128), .lit (.int .u8 143)], .agg [.lit (.int .u8 0), .lit (.int .u8 0)], .agg [.lit (.int .u8 0), .lit (.int .u8 0)], .agg [.lit (.int .u8 0), .lit (.int .u8 0)], .agg [.lit (.int .u8 0), .lit (.int .u8 0)], .agg [.lit (.int .u8 0), .lit (.int .u8 0)], .agg [.lit (.int .u8 0), .lit (.int .u8 0)], .agg [.lit (.int .u8 0), .lit (.int .u8 0)], .agg [.lit (.int .u8 0), .lit (.int .u8 0)], .agg [.lit (.int .u8 0), .lit (.int .u8 0)], .agg [.lit (.int .u8 0), .lit (.int .u8 0)], .agg [.lit (.int .u8 0), .lit (.int .u8 0)]]
/-- One of Go's own tables, pinned by name: the form's constant. -/
def laid_unicode_utf8_first : DataW Unit := Go.Pinned.utf8First

/-- 'laws.FnOwnerOf': WHATEVER THE INPUT: true; the input reads as it did. -/
def fnOwnerOfSpec : ChangeSpec := { name := "fnOwnerOf", fn := fun _ => fun
  | [d] => { results := [.lit (.bool true)], args := [d] }
  | _ => none }
def fnOwnerOfRow : OpenClaim := { program := "ytfpneepnnoldeaadoor", sum := "ccff0a2d1c9ec700ad510893ec7d487a745681cee0c7025a3d637a7f2f49a486", func := "loop.example/versioncontrol/laws.FnOwnerOf", spec := "fnOwnerOf", inPlace := ["internal/bytealg.CountString", "internal/bytealg.IndexByteString", "internal/bytealg.IndexString"], named := ["unicode/utf8.first", "unicode/utf8.acceptRanges", "internal/bytealg.MaxLen"], apart := false, laid := [("unicode/utf8.acceptRanges", laid_unicode_utf8_acceptRanges), ("unicode/utf8.first", laid_unicode_utf8_first)] }
def FnOwnerOfSaid : Prop := fnOwnerOfRow.holds Tryd.pinned (OpenSpec.ofChange fnOwnerOfSpec)

/-- ITS FALSE NEIGHBOUR: 'it returns false'. Refute it at one input. -/
def fnOwnerOfWrong : ChangeSpec := { name := "fnOwnerOf", fn := fun _ => fun
  | [d] => { results := [.lit (.bool false)], args := [d] }
  | _ => none }
def FnOwnerOfWrongFalsely : Prop := fnOwnerOfRow.holds Tryd.pinned (OpenSpec.ofChange fnOwnerOfWrong)

/-- 'laws.FnTreeDrop': WHATEVER THE INPUT: true; the input reads as it did. -/
def fnTreeDropSpec : ChangeSpec := { name := "fnTreeDrop", fn := fun _ => fun
  | [d] => { results := [.lit (.bool true)], args := [d] }
  | _ => none }
def fnTreeDropRow : OpenClaim := { program := "ytfpneepnnoldeaadoor", sum := "ccff0a2d1c9ec700ad510893ec7d487a745681cee0c7025a3d637a7f2f49a486", func := "loop.example/versioncontrol/laws.FnTreeDrop", spec := "fnTreeDrop", inPlace := ["internal/bytealg.CountString", "internal/bytealg.IndexByteString", "internal/bytealg.IndexString"], named := ["unicode/utf8.first", "unicode/utf8.acceptRanges", "internal/bytealg.MaxLen"], apart := false, laid := [("unicode/utf8.acceptRanges", laid_unicode_utf8_acceptRanges), ("unicode/utf8.first", laid_unicode_utf8_first)] }
def FnTreeDropSaid : Prop := fnTreeDropRow.holds Tryd.pinned (OpenSpec.ofChange fnTreeDropSpec)

/-- ITS FALSE NEIGHBOUR: 'it returns false'. Refute it at one input. -/
def fnTreeDropWrong : ChangeSpec := { name := "fnTreeDrop", fn := fun _ => fun
  | [d] => { results := [.lit (.bool false)], args := [d] }
  | _ => none }
def FnTreeDropWrongFalsely : Prop := fnTreeDropRow.holds Tryd.pinned (OpenSpec.ofChange fnTreeDropWrong)

/-- 'laws.FnRuleUses': WHATEVER THE INPUT: true; the input reads as it did. -/
def fnRuleUsesSpec : ChangeSpec := { name := "fnRuleUses", fn := fun _ => fun
  | [d] => { results := [.lit (.bool true)], args := [d] }
  | _ => none }
def fnRuleUsesRow : OpenClaim := { program := "ytfpneepnnoldeaadoor", sum := "ccff0a2d1c9ec700ad510893ec7d487a745681cee0c7025a3d637a7f2f49a486", func := "loop.example/versioncontrol/laws.FnRuleUses", spec := "fnRuleUses", inPlace := ["internal/bytealg.CountString", "internal/bytealg.IndexByteString", "internal/bytealg.IndexString"], unfollowed := true, recurses := true, named := ["unicode/utf8.first", "unicode/utf8.acceptRanges", "internal/bytealg.MaxLen"], apart := false, laid := [("unicode/utf8.acceptRanges", laid_unicode_utf8_acceptRanges), ("unicode/utf8.first", laid_unicode_utf8_first)] }
def FnRuleUsesSaid : Prop := fnRuleUsesRow.holds Tryd.pinned (OpenSpec.ofChange fnRuleUsesSpec)

/-- ITS FALSE NEIGHBOUR: 'it returns false'. Refute it at one input. -/
def fnRuleUsesWrong : ChangeSpec := { name := "fnRuleUses", fn := fun _ => fun
  | [d] => { results := [.lit (.bool false)], args := [d] }
  | _ => none }
def FnRuleUsesWrongFalsely : Prop := fnRuleUsesRow.holds Tryd.pinned (OpenSpec.ofChange fnRuleUsesWrong)

/-- 'laws.FnTreeSet': WHATEVER THE INPUT: true; the input reads as it did. -/
def fnTreeSetSpec : ChangeSpec := { name := "fnTreeSet", fn := fun _ => fun
  | [d1, d2] => { results := [.lit (.bool true)], args := [d1, d2] }
  | _ => none }
def fnTreeSetRow : OpenClaim := { program := "ytfpneepnnoldeaadoor", sum := "ccff0a2d1c9ec700ad510893ec7d487a745681cee0c7025a3d637a7f2f49a486", func := "loop.example/versioncontrol/laws.FnTreeSet", spec := "fnTreeSet", inPlace := ["internal/bytealg.CountString", "internal/bytealg.IndexByteString", "internal/bytealg.IndexString", "slices.overlaps[loop.example/versioncontrol/impl.File]"], named := ["unicode/utf8.first", "unicode/utf8.acceptRanges", "internal/bytealg.MaxLen"], apart := false, laid := [("unicode/utf8.acceptRanges", laid_unicode_utf8_acceptRanges), ("unicode/utf8.first", laid_unicode_utf8_first)] }
def FnTreeSetSaid : Prop := fnTreeSetRow.holds Tryd.pinned (OpenSpec.ofChange fnTreeSetSpec)

/-- ITS FALSE NEIGHBOUR: 'it returns false'. Refute it at one input. -/
def fnTreeSetWrong : ChangeSpec := { name := "fnTreeSet", fn := fun _ => fun
  | [d1, d2] => { results := [.lit (.bool false)], args := [d1, d2] }
  | _ => none }
def FnTreeSetWrongFalsely : Prop := fnTreeSetRow.holds Tryd.pinned (OpenSpec.ofChange fnTreeSetWrong)

/-- 'laws.FnTreeMove': WHATEVER THE INPUT: true; the input reads as it did. -/
def fnTreeMoveSpec : ChangeSpec := { name := "fnTreeMove", fn := fun _ => fun
  | [d] => { results := [.lit (.bool true)], args := [d] }
  | _ => none }
def fnTreeMoveRow : OpenClaim := { program := "ytfpneepnnoldeaadoor", sum := "ccff0a2d1c9ec700ad510893ec7d487a745681cee0c7025a3d637a7f2f49a486", func := "loop.example/versioncontrol/laws.FnTreeMove", spec := "fnTreeMove", inPlace := ["internal/bytealg.CountString", "internal/bytealg.IndexByteString", "internal/bytealg.IndexString", "slices.overlaps[loop.example/versioncontrol/impl.File]"], named := ["unicode/utf8.first", "unicode/utf8.acceptRanges", "internal/bytealg.MaxLen"], apart := false, laid := [("unicode/utf8.acceptRanges", laid_unicode_utf8_acceptRanges), ("unicode/utf8.first", laid_unicode_utf8_first)] }
def FnTreeMoveSaid : Prop := fnTreeMoveRow.holds Tryd.pinned (OpenSpec.ofChange fnTreeMoveSpec)

/-- ITS FALSE NEIGHBOUR: 'it returns false'. Refute it at one input. -/
def fnTreeMoveWrong : ChangeSpec := { name := "fnTreeMove", fn := fun _ => fun
  | [d] => { results := [.lit (.bool false)], args := [d] }
  | _ => none }
def FnTreeMoveWrongFalsely : Prop := fnTreeMoveRow.holds Tryd.pinned (OpenSpec.ofChange fnTreeMoveWrong)

/-- 'laws.FnExactRuleMove': WHATEVER THE INPUT: true; the input reads as it did. -/
def fnExactRuleMoveSpec : ChangeSpec := { name := "fnExactRuleMove", fn := fun _ => fun
  | [d1, d2, d3] => { results := [.lit (.bool true)], args := [d1, d2, d3] }
  | _ => none }
def fnExactRuleMoveRow : OpenClaim := { program := "ytfpneepnnoldeaadoor", sum := "ccff0a2d1c9ec700ad510893ec7d487a745681cee0c7025a3d637a7f2f49a486", func := "loop.example/versioncontrol/laws.FnExactRuleMove", spec := "fnExactRuleMove", inPlace := ["internal/bytealg.CountString", "internal/bytealg.IndexByteString", "internal/bytealg.IndexString", "slices.overlaps[loop.example/versioncontrol/impl.File]"], named := ["unicode/utf8.first", "unicode/utf8.acceptRanges", "internal/bytealg.MaxLen"], apart := false, laid := [("unicode/utf8.acceptRanges", laid_unicode_utf8_acceptRanges), ("unicode/utf8.first", laid_unicode_utf8_first)] }
def FnExactRuleMoveSaid : Prop := fnExactRuleMoveRow.holds Tryd.pinned (OpenSpec.ofChange fnExactRuleMoveSpec)

/-- ITS FALSE NEIGHBOUR: 'it returns false'. Refute it at one input. -/
def fnExactRuleMoveWrong : ChangeSpec := { name := "fnExactRuleMove", fn := fun _ => fun
  | [d1, d2, d3] => { results := [.lit (.bool false)], args := [d1, d2, d3] }
  | _ => none }
def FnExactRuleMoveWrongFalsely : Prop := fnExactRuleMoveRow.holds Tryd.pinned (OpenSpec.ofChange fnExactRuleMoveWrong)

/-- 'laws.FnRuleMove': WHATEVER THE INPUT: true; the input reads as it did. -/
def fnRuleMoveSpec : ChangeSpec := { name := "fnRuleMove", fn := fun _ => fun
  | [d] => { results := [.lit (.bool true)], args := [d] }
  | _ => none }
def fnRuleMoveRow : OpenClaim := { program := "ytfpneepnnoldeaadoor", sum := "ccff0a2d1c9ec700ad510893ec7d487a745681cee0c7025a3d637a7f2f49a486", func := "loop.example/versioncontrol/laws.FnRuleMove", spec := "fnRuleMove", inPlace := ["internal/bytealg.CountString", "internal/bytealg.IndexByteString", "internal/bytealg.IndexString", "slices.overlaps[loop.example/versioncontrol/impl.File]"], unfollowed := true, recurses := true, named := ["unicode/utf8.first", "unicode/utf8.acceptRanges", "internal/bytealg.MaxLen"], apart := false, laid := [("unicode/utf8.acceptRanges", laid_unicode_utf8_acceptRanges), ("unicode/utf8.first", laid_unicode_utf8_first)] }
def FnRuleMoveSaid : Prop := fnRuleMoveRow.holds Tryd.pinned (OpenSpec.ofChange fnRuleMoveSpec)

/-- ITS FALSE NEIGHBOUR: 'it returns false'. Refute it at one input. -/
def fnRuleMoveWrong : ChangeSpec := { name := "fnRuleMove", fn := fun _ => fun
  | [d] => { results := [.lit (.bool false)], args := [d] }
  | _ => none }
def FnRuleMoveWrongFalsely : Prop := fnRuleMoveRow.holds Tryd.pinned (OpenSpec.ofChange fnRuleMoveWrong)

/-- 'laws.FnRuleLost': WHATEVER THE INPUT: true; the input reads as it did. -/
def fnRuleLostSpec : ChangeSpec := { name := "fnRuleLost", fn := fun _ => fun
  | [d] => { results := [.lit (.bool true)], args := [d] }
  | _ => none }
def fnRuleLostRow : OpenClaim := { program := "ytfpneepnnoldeaadoor", sum := "ccff0a2d1c9ec700ad510893ec7d487a745681cee0c7025a3d637a7f2f49a486", func := "loop.example/versioncontrol/laws.FnRuleLost", spec := "fnRuleLost", inPlace := ["internal/bytealg.CountString", "internal/bytealg.IndexByteString", "internal/bytealg.IndexString", "slices.overlaps[loop.example/versioncontrol/impl.File]"], named := ["unicode/utf8.first", "unicode/utf8.acceptRanges", "internal/bytealg.MaxLen"], apart := false, laid := [("unicode/utf8.acceptRanges", laid_unicode_utf8_acceptRanges), ("unicode/utf8.first", laid_unicode_utf8_first)] }
def FnRuleLostSaid : Prop := fnRuleLostRow.holds Tryd.pinned (OpenSpec.ofChange fnRuleLostSpec)

/-- ITS FALSE NEIGHBOUR: 'it returns false'. Refute it at one input. -/
def fnRuleLostWrong : ChangeSpec := { name := "fnRuleLost", fn := fun _ => fun
  | [d] => { results := [.lit (.bool false)], args := [d] }
  | _ => none }
def FnRuleLostWrongFalsely : Prop := fnRuleLostRow.holds Tryd.pinned (OpenSpec.ofChange fnRuleLostWrong)

/-- 'laws.FnRuleMore': WHATEVER THE INPUT: true; the input reads as it did. -/
def fnRuleMoreSpec : ChangeSpec := { name := "fnRuleMore", fn := fun _ => fun
  | [d] => { results := [.lit (.bool true)], args := [d] }
  | _ => none }
def fnRuleMoreRow : OpenClaim := { program := "ytfpneepnnoldeaadoor", sum := "ccff0a2d1c9ec700ad510893ec7d487a745681cee0c7025a3d637a7f2f49a486", func := "loop.example/versioncontrol/laws.FnRuleMore", spec := "fnRuleMore", inPlace := ["internal/bytealg.CountString", "internal/bytealg.IndexByteString", "internal/bytealg.IndexString"], named := ["unicode/utf8.first", "unicode/utf8.acceptRanges", "internal/bytealg.MaxLen"], apart := false, laid := [("unicode/utf8.acceptRanges", laid_unicode_utf8_acceptRanges), ("unicode/utf8.first", laid_unicode_utf8_first)] }
def FnRuleMoreSaid : Prop := fnRuleMoreRow.holds Tryd.pinned (OpenSpec.ofChange fnRuleMoreSpec)

/-- ITS FALSE NEIGHBOUR: 'it returns false'. Refute it at one input. -/
def fnRuleMoreWrong : ChangeSpec := { name := "fnRuleMore", fn := fun _ => fun
  | [d] => { results := [.lit (.bool false)], args := [d] }
  | _ => none }
def FnRuleMoreWrongFalsely : Prop := fnRuleMoreRow.holds Tryd.pinned (OpenSpec.ofChange fnRuleMoreWrong)

/- THE SECOND FORM. 'bulk': how many values and letters a reading holds, each counted each time it is reached (what is shared counts as often as it is met; a slice's spare places count too). A statement '..UptoSaid' is the law's where the arguments, and the package variables that the reading takes, are together of bulk at most 1048576: NARROWER than '..Said'. Prove '..Said' where nothing that the law and all that it calls make is longer than what came in: it says more and counts as full. Else prove '..UptoSaid'. A law counts once. -/
mutual
def uptoBulk {H : Type} : DataW H → Nat
  | .lit (.string bytes) => bytes.length + 1
  | .lit _ => 1
  | .nil => 1
  | .ptr d => uptoBulk d + 1
  | .slice elems spare => uptoBulkAll elems + uptoBulkAll spare + 1
  | .agg parts => uptoBulkAll parts + 1
  | .iface _ d => uptoBulk d + 1
  | .map entries => uptoBulkEntries entries + 1
  | .held _ => 1
def uptoBulkAll {H : Type} : List (DataW H) → Nat
  | [] => 0
  | d :: r => uptoBulk d + uptoBulkAll r
def uptoBulkEntries {H : Type} : List (Lit × DataW H) → Nat
  | [] => 0
  | x :: r => uptoBulkEntry x + uptoBulkEntries r
def uptoBulkEntry {H : Type} : Lit × DataW H → Nat
  | (.string bytes, d) => bytes.length + uptoBulk d + 1
  | (_, d) => uptoBulk d + 1
 end
def uptoSmall : (H : Type) → List (DataW H) → Bool := fun _ ds => decide (uptoBulkAll ds ≤ 1048576)
def OpenSpec.upto (s : _root_.Go.ChangeSpec) : _root_.Go.OpenSpec := { _root_.Go.OpenSpec.ofChange s with cond := some uptoSmall }

/-- 'laws.FnOwnerOf', WHERE WHAT IT READS IS OF BULK AT MOST 1048576: true; the input reads as it did. -/
def fnOwnerOfUptoRow : OpenClaim := { program := "ytfpneepnnoldeaadoor", sum := "ccff0a2d1c9ec700ad510893ec7d487a745681cee0c7025a3d637a7f2f49a486", func := "loop.example/versioncontrol/laws.FnOwnerOf", spec := "fnOwnerOf", inPlace := ["internal/bytealg.CountString", "internal/bytealg.IndexByteString", "internal/bytealg.IndexString"], named := ["unicode/utf8.first", "unicode/utf8.acceptRanges", "internal/bytealg.MaxLen"], apart := false, laid := [("unicode/utf8.acceptRanges", laid_unicode_utf8_acceptRanges), ("unicode/utf8.first", laid_unicode_utf8_first)], narrowed := true }
def FnOwnerOfUptoSaid : Prop := fnOwnerOfUptoRow.holds Tryd.pinned (OpenSpec.upto fnOwnerOfSpec)

/-- 'laws.FnTreeDrop', WHERE WHAT IT READS IS OF BULK AT MOST 1048576: true; the input reads as it did. -/
def fnTreeDropUptoRow : OpenClaim := { program := "ytfpneepnnoldeaadoor", sum := "ccff0a2d1c9ec700ad510893ec7d487a745681cee0c7025a3d637a7f2f49a486", func := "loop.example/versioncontrol/laws.FnTreeDrop", spec := "fnTreeDrop", inPlace := ["internal/bytealg.CountString", "internal/bytealg.IndexByteString", "internal/bytealg.IndexString"], named := ["unicode/utf8.first", "unicode/utf8.acceptRanges", "internal/bytealg.MaxLen"], apart := false, laid := [("unicode/utf8.acceptRanges", laid_unicode_utf8_acceptRanges), ("unicode/utf8.first", laid_unicode_utf8_first)], narrowed := true }
def FnTreeDropUptoSaid : Prop := fnTreeDropUptoRow.holds Tryd.pinned (OpenSpec.upto fnTreeDropSpec)

/-- 'laws.FnRuleUses', WHERE WHAT IT READS IS OF BULK AT MOST 1048576: true; the input reads as it did. -/
def fnRuleUsesUptoRow : OpenClaim := { program := "ytfpneepnnoldeaadoor", sum := "ccff0a2d1c9ec700ad510893ec7d487a745681cee0c7025a3d637a7f2f49a486", func := "loop.example/versioncontrol/laws.FnRuleUses", spec := "fnRuleUses", inPlace := ["internal/bytealg.CountString", "internal/bytealg.IndexByteString", "internal/bytealg.IndexString"], unfollowed := true, recurses := true, named := ["unicode/utf8.first", "unicode/utf8.acceptRanges", "internal/bytealg.MaxLen"], apart := false, laid := [("unicode/utf8.acceptRanges", laid_unicode_utf8_acceptRanges), ("unicode/utf8.first", laid_unicode_utf8_first)], narrowed := true }
def FnRuleUsesUptoSaid : Prop := fnRuleUsesUptoRow.holds Tryd.pinned (OpenSpec.upto fnRuleUsesSpec)

/-- 'laws.FnTreeSet', WHERE WHAT IT READS IS OF BULK AT MOST 1048576: true; the input reads as it did. -/
def fnTreeSetUptoRow : OpenClaim := { program := "ytfpneepnnoldeaadoor", sum := "ccff0a2d1c9ec700ad510893ec7d487a745681cee0c7025a3d637a7f2f49a486", func := "loop.example/versioncontrol/laws.FnTreeSet", spec := "fnTreeSet", inPlace := ["internal/bytealg.CountString", "internal/bytealg.IndexByteString", "internal/bytealg.IndexString", "slices.overlaps[loop.example/versioncontrol/impl.File]"], named := ["unicode/utf8.first", "unicode/utf8.acceptRanges", "internal/bytealg.MaxLen"], apart := false, laid := [("unicode/utf8.acceptRanges", laid_unicode_utf8_acceptRanges), ("unicode/utf8.first", laid_unicode_utf8_first)], narrowed := true }
def FnTreeSetUptoSaid : Prop := fnTreeSetUptoRow.holds Tryd.pinned (OpenSpec.upto fnTreeSetSpec)

/-- 'laws.FnTreeMove', WHERE WHAT IT READS IS OF BULK AT MOST 1048576: true; the input reads as it did. -/
def fnTreeMoveUptoRow : OpenClaim := { program := "ytfpneepnnoldeaadoor", sum := "ccff0a2d1c9ec700ad510893ec7d487a745681cee0c7025a3d637a7f2f49a486", func := "loop.example/versioncontrol/laws.FnTreeMove", spec := "fnTreeMove", inPlace := ["internal/bytealg.CountString", "internal/bytealg.IndexByteString", "internal/bytealg.IndexString", "slices.overlaps[loop.example/versioncontrol/impl.File]"], named := ["unicode/utf8.first", "unicode/utf8.acceptRanges", "internal/bytealg.MaxLen"], apart := false, laid := [("unicode/utf8.acceptRanges", laid_unicode_utf8_acceptRanges), ("unicode/utf8.first", laid_unicode_utf8_first)], narrowed := true }
def FnTreeMoveUptoSaid : Prop := fnTreeMoveUptoRow.holds Tryd.pinned (OpenSpec.upto fnTreeMoveSpec)

/-- 'laws.FnExactRuleMove', WHERE WHAT IT READS IS OF BULK AT MOST 1048576: true; the input reads as it did. -/
def fnExactRuleMoveUptoRow : OpenClaim := { program := "ytfpneepnnoldeaadoor", sum := "ccff0a2d1c9ec700ad510893ec7d487a745681cee0c7025a3d637a7f2f49a486", func := "loop.example/versioncontrol/laws.FnExactRuleMove", spec := "fnExactRuleMove", inPlace := ["internal/bytealg.CountString", "internal/bytealg.IndexByteString", "internal/bytealg.IndexString", "slices.overlaps[loop.example/versioncontrol/impl.File]"], named := ["unicode/utf8.first", "unicode/utf8.acceptRanges", "internal/bytealg.MaxLen"], apart := false, laid := [("unicode/utf8.acceptRanges", laid_unicode_utf8_acceptRanges), ("unicode/utf8.first", laid_unicode_utf8_first)], narrowed := true }
def FnExactRuleMoveUptoSaid : Prop := fnExactRuleMoveUptoRow.holds Tryd.pinned (OpenSpec.upto fnExactRuleMoveSpec)

/-- 'laws.FnRuleMove', WHERE WHAT IT READS IS OF BULK AT MOST 1048576: true; the input reads as it did. -/
def fnRuleMoveUptoRow : OpenClaim := { program := "ytfpneepnnoldeaadoor", sum := "ccff0a2d1c9ec700ad510893ec7d487a745681cee0c7025a3d637a7f2f49a486", func := "loop.example/versioncontrol/laws.FnRuleMove", spec := "fnRuleMove", inPlace := ["internal/bytealg.CountString", "internal/bytealg.IndexByteString", "internal/bytealg.IndexString", "slices.overlaps[loop.example/versioncontrol/impl.File]"], unfollowed := true, recurses := true, named := ["unicode/utf8.first", "unicode/utf8.acceptRanges", "internal/bytealg.MaxLen"], apart := false, laid := [("unicode/utf8.acceptRanges", laid_unicode_utf8_acceptRanges), ("unicode/utf8.first", laid_unicode_utf8_first)], narrowed := true }
def FnRuleMoveUptoSaid : Prop := fnRuleMoveUptoRow.holds Tryd.pinned (OpenSpec.upto fnRuleMoveSpec)

/-- 'laws.FnRuleLost', WHERE WHAT IT READS IS OF BULK AT MOST 1048576: true; the input reads as it did. -/
def fnRuleLostUptoRow : OpenClaim := { program := "ytfpneepnnoldeaadoor", sum := "ccff0a2d1c9ec700ad510893ec7d487a745681cee0c7025a3d637a7f2f49a486", func := "loop.example/versioncontrol/laws.FnRuleLost", spec := "fnRuleLost", inPlace := ["internal/bytealg.CountString", "internal/bytealg.IndexByteString", "internal/bytealg.IndexString", "slices.overlaps[loop.example/versioncontrol/impl.File]"], named := ["unicode/utf8.first", "unicode/utf8.acceptRanges", "internal/bytealg.MaxLen"], apart := false, laid := [("unicode/utf8.acceptRanges", laid_unicode_utf8_acceptRanges), ("unicode/utf8.first", laid_unicode_utf8_first)], narrowed := true }
def FnRuleLostUptoSaid : Prop := fnRuleLostUptoRow.holds Tryd.pinned (OpenSpec.upto fnRuleLostSpec)

/-- 'laws.FnRuleMore', WHERE WHAT IT READS IS OF BULK AT MOST 1048576: true; the input reads as it did. -/
def fnRuleMoreUptoRow : OpenClaim := { program := "ytfpneepnnoldeaadoor", sum := "ccff0a2d1c9ec700ad510893ec7d487a745681cee0c7025a3d637a7f2f49a486", func := "loop.example/versioncontrol/laws.FnRuleMore", spec := "fnRuleMore", inPlace := ["internal/bytealg.CountString", "internal/bytealg.IndexByteString", "internal/bytealg.IndexString"], named := ["unicode/utf8.first", "unicode/utf8.acceptRanges", "internal/bytealg.MaxLen"], apart := false, laid := [("unicode/utf8.acceptRanges", laid_unicode_utf8_acceptRanges), ("unicode/utf8.first", laid_unicode_utf8_first)], narrowed := true }
def FnRuleMoreUptoSaid : Prop := fnRuleMoreUptoRow.holds Tryd.pinned (OpenSpec.upto fnRuleMoreSpec)

end Rows
end Go.Proofs.YtfpneepnnoldeaaDoor
