/-
  NARROWER THAN 'FOR EVERY INPUT', by the rows' own cells (each row's printed sentence says how): FnExactSendMany: laid · FnExactLogNext: laid · FnExactKeepLive: laid · FnExactLogWho: laid · FnExactKeepTexts: laid · FnExactLogLeft: laid · FnExactBlameOf: laid · FnExactLogPath: laid · FnExactKeepOnly: laid · FnExactSendOf: laid · FnExactBlameLine: laid.
  DERIVED. THE GIVEN ROWS OF THIS SEAT. 11 by the template 'for every input the law returns true; each argument reads behind the call as it read before'; 0 by the template 'total and deterministic' (their statements: YtmblockojnaffaaDoorTotals.lean).
  GIVEN WITH THE SEED: the statements are not yours to turn. If you find one false, say at which input.
  Laid BY PROGRAM, IN A SANDBOX (cutbox-rows.mjs): the forced cells as the released guide's own fill.sh prints them over the translation d549f5a71166dbd4… (all of the seat's roots in one cut). By AI agents, Wed Nov 11 2026. No macro, syntax, notation, axiom, sorry.
-/
import Derived.Test.YtmblockojnaffaaDoorChecked
import GoSem.PinnedTables
import GoSem.Claim
import GoSem.ClaimJoined
import GoSem.ClaimMapViews
import Derived.JoinedTies
import Derived.KernelRfl
namespace Go.Proofs.YtmblockojnaffaaDoor
/- THE CELL 'sum', in the pinned program and in every row, IS THE sha256 OF THE DUMP (.gsa) THAT YtmblockojnaffaaDoorProg.lean LOADS. Nothing in Lean hashes anything: it is a label: what it is worth is what the hold of that sum in a sandbox is worth. -/
noncomputable def Tryd.pinned : Pinned := { name := "ytmblockojnaffaadoor", sum := "d549f5a71166dbd4fda05fdf411ec5d59d80d043914e69a2fb264428c387f5c4", checked := Tryd.checked }
namespace Rows
def none {H : Type} : Left H := { results := [], args := [] }

/- WHAT THE LISTED PACKAGE-LEVEL VARIABLES READ AS WHEN THE CALL BEGINS. Each datum BY PROGRAM (the guide's laid-datum.mjs) off the statement by which the dump's own 'gosem.cut.vars' lays the variable. In a bare row this is a premise. The card (YtmblockojnaffaaDoorCards.lean) ties it to the program's text. -/
def laid_unicode_utf8_acceptRanges {H : Type} : DataW H := .agg [.agg [.lit (.int .u8 128), .lit (.int .u8 191)], .agg [.lit (.int .u8 160), .lit (.int .u8 191)], .agg [.lit (.int .u8 128), .lit (.int .u8 159)], .agg [.lit (.int .u8 144), .lit (.int .u8 191)], .agg [.lit (.int .u8 128), .lit (.int .u8 143)], .agg [.lit (.int .u8 0), .lit (.int .u8 0)], .agg [.lit (.int .u8 0), .lit (.int .u8 0)], .agg [.lit (.int .u8 0), .lit (.int .u8 0)], .agg [.lit (.int .u8 0), .lit (.int .u8 0)], .agg [.lit (.int .u8 0), .lit (.int .u8 0)], .agg [.lit (.int .u8 0), .lit (.int .u8 0)], .agg [.lit (.int .u8 0), .lit (.int .u8 0)], .agg [.lit (.int .u8 0), .lit (.int .u8 0)], .agg [.lit (.int .u8 0), .lit (.int .u8 0)], .agg [.lit (.int .u8 0), .lit (.int .u8 0)], .agg [.lit (.int .u8 0), .lit (.int .u8 0)]]
/-- One of Go's own tables, pinned by name: the form's constant. -/
def laid_unicode_utf8_first : DataW Unit := Go.Pinned.utf8First

/-- 'laws.FnExactSendMany': WHATEVER THE INPUT: true; the input reads as it did. -/
def fnExactSendManySpec : ChangeSpec := { name := "fnExactSendMany", fn := fun _ => fun
  | [d1, d2, d3] => { results := [.lit (.bool true)], args := [d1, d2, d3] }
  | _ => none }
def fnExactSendManyRow : OpenClaim := { program := "ytmblockojnaffaadoor", sum := "d549f5a71166dbd4fda05fdf411ec5d59d80d043914e69a2fb264428c387f5c4", func := "loop.example/versioncontrol/laws.FnExactSendMany", spec := "fnExactSendMany", inPlace := ["internal/bytealg.CountString", "internal/bytealg.IndexByteString", "internal/bytealg.IndexString"], named := ["unicode/utf8.first", "unicode/utf8.acceptRanges", "internal/bytealg.MaxLen"], apart := false, laid := [("unicode/utf8.acceptRanges", laid_unicode_utf8_acceptRanges), ("unicode/utf8.first", laid_unicode_utf8_first)] }
def FnExactSendManySaid : Prop := fnExactSendManyRow.holds Tryd.pinned (OpenSpec.ofChange fnExactSendManySpec)

/-- ITS FALSE NEIGHBOUR: 'it returns false'. Refute it at one input. -/
def fnExactSendManyWrong : ChangeSpec := { name := "fnExactSendMany", fn := fun _ => fun
  | [d1, d2, d3] => { results := [.lit (.bool false)], args := [d1, d2, d3] }
  | _ => none }
def FnExactSendManyWrongFalsely : Prop := fnExactSendManyRow.holds Tryd.pinned (OpenSpec.ofChange fnExactSendManyWrong)

/-- 'laws.FnExactLogNext': WHATEVER THE INPUT: true; the input reads as it did. -/
def fnExactLogNextSpec : ChangeSpec := { name := "fnExactLogNext", fn := fun _ => fun
  | [d1, d2, d3] => { results := [.lit (.bool true)], args := [d1, d2, d3] }
  | _ => none }
def fnExactLogNextRow : OpenClaim := { program := "ytmblockojnaffaadoor", sum := "d549f5a71166dbd4fda05fdf411ec5d59d80d043914e69a2fb264428c387f5c4", func := "loop.example/versioncontrol/laws.FnExactLogNext", spec := "fnExactLogNext", inPlace := ["internal/bytealg.CountString", "internal/bytealg.IndexByteString", "internal/bytealg.IndexString"], named := ["unicode/utf8.first", "unicode/utf8.acceptRanges", "internal/bytealg.MaxLen"], apart := false, laid := [("unicode/utf8.acceptRanges", laid_unicode_utf8_acceptRanges), ("unicode/utf8.first", laid_unicode_utf8_first)] }
def FnExactLogNextSaid : Prop := fnExactLogNextRow.holds Tryd.pinned (OpenSpec.ofChange fnExactLogNextSpec)

/-- ITS FALSE NEIGHBOUR: 'it returns false'. Refute it at one input. -/
def fnExactLogNextWrong : ChangeSpec := { name := "fnExactLogNext", fn := fun _ => fun
  | [d1, d2, d3] => { results := [.lit (.bool false)], args := [d1, d2, d3] }
  | _ => none }
def FnExactLogNextWrongFalsely : Prop := fnExactLogNextRow.holds Tryd.pinned (OpenSpec.ofChange fnExactLogNextWrong)

/-- 'laws.FnExactKeepLive': WHATEVER THE INPUT: true; the input reads as it did. -/
def fnExactKeepLiveSpec : ChangeSpec := { name := "fnExactKeepLive", fn := fun _ => fun
  | [d] => { results := [.lit (.bool true)], args := [d] }
  | _ => none }
def fnExactKeepLiveRow : OpenClaim := { program := "ytmblockojnaffaadoor", sum := "d549f5a71166dbd4fda05fdf411ec5d59d80d043914e69a2fb264428c387f5c4", func := "loop.example/versioncontrol/laws.FnExactKeepLive", spec := "fnExactKeepLive", inPlace := ["internal/bytealg.CountString", "internal/bytealg.IndexByteString", "internal/bytealg.IndexString"], named := ["unicode/utf8.first", "unicode/utf8.acceptRanges", "internal/bytealg.MaxLen"], apart := false, laid := [("unicode/utf8.acceptRanges", laid_unicode_utf8_acceptRanges), ("unicode/utf8.first", laid_unicode_utf8_first)] }
def FnExactKeepLiveSaid : Prop := fnExactKeepLiveRow.holds Tryd.pinned (OpenSpec.ofChange fnExactKeepLiveSpec)

/-- ITS FALSE NEIGHBOUR: 'it returns false'. Refute it at one input. -/
def fnExactKeepLiveWrong : ChangeSpec := { name := "fnExactKeepLive", fn := fun _ => fun
  | [d] => { results := [.lit (.bool false)], args := [d] }
  | _ => none }
def FnExactKeepLiveWrongFalsely : Prop := fnExactKeepLiveRow.holds Tryd.pinned (OpenSpec.ofChange fnExactKeepLiveWrong)

/-- 'laws.FnExactLogWho': WHATEVER THE INPUT: true; the input reads as it did. -/
def fnExactLogWhoSpec : ChangeSpec := { name := "fnExactLogWho", fn := fun _ => fun
  | [d1, d2, d3] => { results := [.lit (.bool true)], args := [d1, d2, d3] }
  | _ => none }
def fnExactLogWhoRow : OpenClaim := { program := "ytmblockojnaffaadoor", sum := "d549f5a71166dbd4fda05fdf411ec5d59d80d043914e69a2fb264428c387f5c4", func := "loop.example/versioncontrol/laws.FnExactLogWho", spec := "fnExactLogWho", inPlace := ["internal/bytealg.CountString", "internal/bytealg.IndexByteString", "internal/bytealg.IndexString"], unfollowed := true, recurses := true, named := ["unicode/utf8.first", "unicode/utf8.acceptRanges", "internal/bytealg.MaxLen"], apart := false, laid := [("unicode/utf8.acceptRanges", laid_unicode_utf8_acceptRanges), ("unicode/utf8.first", laid_unicode_utf8_first)] }
def FnExactLogWhoSaid : Prop := fnExactLogWhoRow.holds Tryd.pinned (OpenSpec.ofChange fnExactLogWhoSpec)

/-- ITS FALSE NEIGHBOUR: 'it returns false'. Refute it at one input. -/
def fnExactLogWhoWrong : ChangeSpec := { name := "fnExactLogWho", fn := fun _ => fun
  | [d1, d2, d3] => { results := [.lit (.bool false)], args := [d1, d2, d3] }
  | _ => none }
def FnExactLogWhoWrongFalsely : Prop := fnExactLogWhoRow.holds Tryd.pinned (OpenSpec.ofChange fnExactLogWhoWrong)

/-- 'laws.FnExactKeepTexts': WHATEVER THE INPUT: true; the input reads as it did. -/
def fnExactKeepTextsSpec : ChangeSpec := { name := "fnExactKeepTexts", fn := fun _ => fun
  | [d] => { results := [.lit (.bool true)], args := [d] }
  | _ => none }
def fnExactKeepTextsRow : OpenClaim := { program := "ytmblockojnaffaadoor", sum := "d549f5a71166dbd4fda05fdf411ec5d59d80d043914e69a2fb264428c387f5c4", func := "loop.example/versioncontrol/laws.FnExactKeepTexts", spec := "fnExactKeepTexts", inPlace := ["internal/bytealg.CountString", "internal/bytealg.IndexByteString", "internal/bytealg.IndexString"], unfollowed := true, recurses := true, named := ["unicode/utf8.first", "unicode/utf8.acceptRanges", "internal/bytealg.MaxLen"], apart := false, laid := [("unicode/utf8.acceptRanges", laid_unicode_utf8_acceptRanges), ("unicode/utf8.first", laid_unicode_utf8_first)] }
def FnExactKeepTextsSaid : Prop := fnExactKeepTextsRow.holds Tryd.pinned (OpenSpec.ofChange fnExactKeepTextsSpec)

/-- ITS FALSE NEIGHBOUR: 'it returns false'. Refute it at one input. -/
def fnExactKeepTextsWrong : ChangeSpec := { name := "fnExactKeepTexts", fn := fun _ => fun
  | [d] => { results := [.lit (.bool false)], args := [d] }
  | _ => none }
def FnExactKeepTextsWrongFalsely : Prop := fnExactKeepTextsRow.holds Tryd.pinned (OpenSpec.ofChange fnExactKeepTextsWrong)

/-- 'laws.FnExactLogLeft': WHATEVER THE INPUT: true; the input reads as it did. -/
def fnExactLogLeftSpec : ChangeSpec := { name := "fnExactLogLeft", fn := fun _ => fun
  | [d1, d2, d3] => { results := [.lit (.bool true)], args := [d1, d2, d3] }
  | _ => none }
def fnExactLogLeftRow : OpenClaim := { program := "ytmblockojnaffaadoor", sum := "d549f5a71166dbd4fda05fdf411ec5d59d80d043914e69a2fb264428c387f5c4", func := "loop.example/versioncontrol/laws.FnExactLogLeft", spec := "fnExactLogLeft", inPlace := ["internal/bytealg.CountString", "internal/bytealg.IndexByteString", "internal/bytealg.IndexString"], named := ["unicode/utf8.first", "unicode/utf8.acceptRanges", "internal/bytealg.MaxLen"], apart := false, laid := [("unicode/utf8.acceptRanges", laid_unicode_utf8_acceptRanges), ("unicode/utf8.first", laid_unicode_utf8_first)] }
def FnExactLogLeftSaid : Prop := fnExactLogLeftRow.holds Tryd.pinned (OpenSpec.ofChange fnExactLogLeftSpec)

/-- ITS FALSE NEIGHBOUR: 'it returns false'. Refute it at one input. -/
def fnExactLogLeftWrong : ChangeSpec := { name := "fnExactLogLeft", fn := fun _ => fun
  | [d1, d2, d3] => { results := [.lit (.bool false)], args := [d1, d2, d3] }
  | _ => none }
def FnExactLogLeftWrongFalsely : Prop := fnExactLogLeftRow.holds Tryd.pinned (OpenSpec.ofChange fnExactLogLeftWrong)

/-- 'laws.FnExactBlameOf': WHATEVER THE INPUT: true; the input reads as it did. -/
def fnExactBlameOfSpec : ChangeSpec := { name := "fnExactBlameOf", fn := fun _ => fun
  | [d1, d2, d3] => { results := [.lit (.bool true)], args := [d1, d2, d3] }
  | _ => none }
def fnExactBlameOfRow : OpenClaim := { program := "ytmblockojnaffaadoor", sum := "d549f5a71166dbd4fda05fdf411ec5d59d80d043914e69a2fb264428c387f5c4", func := "loop.example/versioncontrol/laws.FnExactBlameOf", spec := "fnExactBlameOf", inPlace := ["internal/bytealg.CountString", "internal/bytealg.IndexByteString", "internal/bytealg.IndexString"], recurses := true, named := ["unicode/utf8.first", "unicode/utf8.acceptRanges", "internal/bytealg.MaxLen"], apart := false, laid := [("unicode/utf8.acceptRanges", laid_unicode_utf8_acceptRanges), ("unicode/utf8.first", laid_unicode_utf8_first)] }
def FnExactBlameOfSaid : Prop := fnExactBlameOfRow.holds Tryd.pinned (OpenSpec.ofChange fnExactBlameOfSpec)

/-- ITS FALSE NEIGHBOUR: 'it returns false'. Refute it at one input. -/
def fnExactBlameOfWrong : ChangeSpec := { name := "fnExactBlameOf", fn := fun _ => fun
  | [d1, d2, d3] => { results := [.lit (.bool false)], args := [d1, d2, d3] }
  | _ => none }
def FnExactBlameOfWrongFalsely : Prop := fnExactBlameOfRow.holds Tryd.pinned (OpenSpec.ofChange fnExactBlameOfWrong)

/-- 'laws.FnExactLogPath': WHATEVER THE INPUT: true; the input reads as it did. -/
def fnExactLogPathSpec : ChangeSpec := { name := "fnExactLogPath", fn := fun _ => fun
  | [d1, d2, d3] => { results := [.lit (.bool true)], args := [d1, d2, d3] }
  | _ => none }
def fnExactLogPathRow : OpenClaim := { program := "ytmblockojnaffaadoor", sum := "d549f5a71166dbd4fda05fdf411ec5d59d80d043914e69a2fb264428c387f5c4", func := "loop.example/versioncontrol/laws.FnExactLogPath", spec := "fnExactLogPath", inPlace := ["internal/bytealg.CountString", "internal/bytealg.IndexByteString", "internal/bytealg.IndexString"], unfollowed := true, recurses := true, named := ["unicode/utf8.first", "unicode/utf8.acceptRanges", "internal/bytealg.MaxLen"], apart := false, laid := [("unicode/utf8.acceptRanges", laid_unicode_utf8_acceptRanges), ("unicode/utf8.first", laid_unicode_utf8_first)] }
def FnExactLogPathSaid : Prop := fnExactLogPathRow.holds Tryd.pinned (OpenSpec.ofChange fnExactLogPathSpec)

/-- ITS FALSE NEIGHBOUR: 'it returns false'. Refute it at one input. -/
def fnExactLogPathWrong : ChangeSpec := { name := "fnExactLogPath", fn := fun _ => fun
  | [d1, d2, d3] => { results := [.lit (.bool false)], args := [d1, d2, d3] }
  | _ => none }
def FnExactLogPathWrongFalsely : Prop := fnExactLogPathRow.holds Tryd.pinned (OpenSpec.ofChange fnExactLogPathWrong)

/-- 'laws.FnExactKeepOnly': WHATEVER THE INPUT: true; the input reads as it did. -/
def fnExactKeepOnlySpec : ChangeSpec := { name := "fnExactKeepOnly", fn := fun _ => fun
  | [d] => { results := [.lit (.bool true)], args := [d] }
  | _ => none }
def fnExactKeepOnlyRow : OpenClaim := { program := "ytmblockojnaffaadoor", sum := "d549f5a71166dbd4fda05fdf411ec5d59d80d043914e69a2fb264428c387f5c4", func := "loop.example/versioncontrol/laws.FnExactKeepOnly", spec := "fnExactKeepOnly", inPlace := ["internal/bytealg.CountString", "internal/bytealg.IndexByteString", "internal/bytealg.IndexString"], named := ["unicode/utf8.first", "unicode/utf8.acceptRanges", "internal/bytealg.MaxLen"], apart := false, laid := [("unicode/utf8.acceptRanges", laid_unicode_utf8_acceptRanges), ("unicode/utf8.first", laid_unicode_utf8_first)] }
def FnExactKeepOnlySaid : Prop := fnExactKeepOnlyRow.holds Tryd.pinned (OpenSpec.ofChange fnExactKeepOnlySpec)

/-- ITS FALSE NEIGHBOUR: 'it returns false'. Refute it at one input. -/
def fnExactKeepOnlyWrong : ChangeSpec := { name := "fnExactKeepOnly", fn := fun _ => fun
  | [d] => { results := [.lit (.bool false)], args := [d] }
  | _ => none }
def FnExactKeepOnlyWrongFalsely : Prop := fnExactKeepOnlyRow.holds Tryd.pinned (OpenSpec.ofChange fnExactKeepOnlyWrong)

/-- 'laws.FnExactSendOf': WHATEVER THE INPUT: true; the input reads as it did. -/
def fnExactSendOfSpec : ChangeSpec := { name := "fnExactSendOf", fn := fun _ => fun
  | [d1, d2, d3] => { results := [.lit (.bool true)], args := [d1, d2, d3] }
  | _ => none }
def fnExactSendOfRow : OpenClaim := { program := "ytmblockojnaffaadoor", sum := "d549f5a71166dbd4fda05fdf411ec5d59d80d043914e69a2fb264428c387f5c4", func := "loop.example/versioncontrol/laws.FnExactSendOf", spec := "fnExactSendOf", inPlace := ["internal/bytealg.CountString", "internal/bytealg.IndexByteString", "internal/bytealg.IndexString"], named := ["unicode/utf8.first", "unicode/utf8.acceptRanges", "internal/bytealg.MaxLen"], apart := false, laid := [("unicode/utf8.acceptRanges", laid_unicode_utf8_acceptRanges), ("unicode/utf8.first", laid_unicode_utf8_first)] }
def FnExactSendOfSaid : Prop := fnExactSendOfRow.holds Tryd.pinned (OpenSpec.ofChange fnExactSendOfSpec)

/-- ITS FALSE NEIGHBOUR: 'it returns false'. Refute it at one input. -/
def fnExactSendOfWrong : ChangeSpec := { name := "fnExactSendOf", fn := fun _ => fun
  | [d1, d2, d3] => { results := [.lit (.bool false)], args := [d1, d2, d3] }
  | _ => none }
def FnExactSendOfWrongFalsely : Prop := fnExactSendOfRow.holds Tryd.pinned (OpenSpec.ofChange fnExactSendOfWrong)

/-- 'laws.FnExactBlameLine': WHATEVER THE INPUT: true; the input reads as it did. -/
def fnExactBlameLineSpec : ChangeSpec := { name := "fnExactBlameLine", fn := fun _ => fun
  | [d1, d2, d3, d4] => { results := [.lit (.bool true)], args := [d1, d2, d3, d4] }
  | _ => none }
def fnExactBlameLineRow : OpenClaim := { program := "ytmblockojnaffaadoor", sum := "d549f5a71166dbd4fda05fdf411ec5d59d80d043914e69a2fb264428c387f5c4", func := "loop.example/versioncontrol/laws.FnExactBlameLine", spec := "fnExactBlameLine", inPlace := ["internal/bytealg.CountString", "internal/bytealg.IndexByteString", "internal/bytealg.IndexString"], recurses := true, named := ["unicode/utf8.first", "unicode/utf8.acceptRanges", "internal/bytealg.MaxLen"], apart := false, laid := [("unicode/utf8.acceptRanges", laid_unicode_utf8_acceptRanges), ("unicode/utf8.first", laid_unicode_utf8_first)] }
def FnExactBlameLineSaid : Prop := fnExactBlameLineRow.holds Tryd.pinned (OpenSpec.ofChange fnExactBlameLineSpec)

/-- ITS FALSE NEIGHBOUR: 'it returns false'. Refute it at one input. -/
def fnExactBlameLineWrong : ChangeSpec := { name := "fnExactBlameLine", fn := fun _ => fun
  | [d1, d2, d3, d4] => { results := [.lit (.bool false)], args := [d1, d2, d3, d4] }
  | _ => none }
def FnExactBlameLineWrongFalsely : Prop := fnExactBlameLineRow.holds Tryd.pinned (OpenSpec.ofChange fnExactBlameLineWrong)

/- THE SECOND FORM. 'bulk': how many values and letters a reading holds, each counted each time it is reached (what is shared counts as often as it is met; a slice's spare places count too). A statement '..UptoSaid' is the law's where the arguments, and the package variables that the reading takes, are together of bulk at most 1048576: NARROWER than '..Said'. Prove '..Said' where nothing that the law and all that it calls make is longer than what came in: it says more and counts as full. Else prove '..UptoSaid'. A law counts once. -/
mutual
def uptoBulk {H : Type} : DataW H → Nat
  | .lit (.string bytes) => bytes.length + 1
  | .lit _ => 1
  | .nil => 1
  | .ptr d => uptoBulk d + 1
  | .slice elems spare => uptoBulkAll elems + uptoBulkAll spare + 1
  | .agg parts => uptoBulkAll parts + 1
  | .iface _ d => uptoBulk d + 1
  | .map entries => uptoBulkEntries entries + 1
  | .held _ => 1
def uptoBulkAll {H : Type} : List (DataW H) → Nat
  | [] => 0
  | d :: r => uptoBulk d + uptoBulkAll r
def uptoBulkEntries {H : Type} : List (Lit × DataW H) → Nat
  | [] => 0
  | x :: r => uptoBulkEntry x + uptoBulkEntries r
def uptoBulkEntry {H : Type} : Lit × DataW H → Nat
  | (.string bytes, d) => bytes.length + uptoBulk d + 1
  | (_, d) => uptoBulk d + 1
 end
def uptoSmall : (H : Type) → List (DataW H) → Bool := fun _ ds => decide (uptoBulkAll ds ≤ 1048576)
def OpenSpec.upto (s : _root_.Go.ChangeSpec) : _root_.Go.OpenSpec := { _root_.Go.OpenSpec.ofChange s with cond := some uptoSmall }

/-- 'laws.FnExactSendMany', WHERE WHAT IT READS IS OF BULK AT MOST 1048576: true; the input reads as it did. -/
def fnExactSendManyUptoRow : OpenClaim := { program := "ytmblockojnaffaadoor", sum := "d549f5a71166dbd4fda05fdf411ec5d59d80d043914e69a2fb264428c387f5c4", func := "loop.example/versioncontrol/laws.FnExactSendMany", spec := "fnExactSendMany", inPlace := ["internal/bytealg.CountString", "internal/bytealg.IndexByteString", "internal/bytealg.IndexString"], named := ["unicode/utf8.first", "unicode/utf8.acceptRanges", "internal/bytealg.MaxLen"], apart := false, laid := [("unicode/utf8.acceptRanges", laid_unicode_utf8_acceptRanges), ("unicode/utf8.first", laid_unicode_utf8_first)], narrowed := true }
def FnExactSendManyUptoSaid : Prop := fnExactSendManyUptoRow.holds Tryd.pinned (OpenSpec.upto fnExactSendManySpec)

/-- 'laws.FnExactLogNext', WHERE WHAT IT READS IS OF BULK AT MOST 1048576: true; the input reads as it did. -/
def fnExactLogNextUptoRow : OpenClaim := { program := "ytmblockojnaffaadoor", sum := "d549f5a71166dbd4fda05fdf411ec5d59d80d043914e69a2fb264428c387f5c4", func := "loop.example/versioncontrol/laws.FnExactLogNext", spec := "fnExactLogNext", inPlace := ["internal/bytealg.CountString", "internal/bytealg.IndexByteString", "internal/bytealg.IndexString"], named := ["unicode/utf8.first", "unicode/utf8.acceptRanges", "internal/bytealg.MaxLen"], apart := false, laid := [("unicode/utf8.acceptRanges", laid_unicode_utf8_acceptRanges), ("unicode/utf8.first", laid_unicode_utf8_first)], narrowed := true }
def FnExactLogNextUptoSaid : Prop := fnExactLogNextUptoRow.holds Tryd.pinned (OpenSpec.upto fnExactLogNextSpec)

/-- 'laws.FnExactKeepLive', WHERE WHAT IT READS IS OF BULK AT MOST 1048576: true; the input reads as it did. -/
def fnExactKeepLiveUptoRow : OpenClaim := { program := "ytmblockojnaffaadoor", sum := "d549f5a71166dbd4fda05fdf411ec5d59d80d043914e69a2fb264428c387f5c4", func := "loop.example/versioncontrol/laws.FnExactKeepLive", spec := "fnExactKeepLive", inPlace := ["internal/bytealg.CountString", "internal/bytealg.IndexByteString", "internal/bytealg.IndexString"], named := ["unicode/utf8.first", "unicode/utf8.acceptRanges", "internal/bytealg.MaxLen"], apart := false, laid := [("unicode/utf8.acceptRanges", laid_unicode_utf8_acceptRanges), ("unicode/utf8.first", laid_unicode_utf8_first)], narrowed := true }
def FnExactKeepLiveUptoSaid : Prop := fnExactKeepLiveUptoRow.holds Tryd.pinned (OpenSpec.upto fnExactKeepLiveSpec)

/-- 'laws.FnExactLogWho', WHERE WHAT IT READS IS OF BULK AT MOST 1048576: true; the input reads as it did. -/
def fnExactLogWhoUptoRow : OpenClaim := { program := "ytmblockojnaffaadoor", sum := "d549f5a71166dbd4fda05fdf411ec5d59d80d043914e69a2fb264428c387f5c4", func := "loop.example/versioncontrol/laws.FnExactLogWho", spec := "fnExactLogWho", inPlace := ["internal/bytealg.CountString", "internal/bytealg.IndexByteString", "internal/bytealg.IndexString"], unfollowed := true, recurses := true, named := ["unicode/utf8.first", "unicode/utf8.acceptRanges", "internal/bytealg.MaxLen"], apart := false, laid := [("unicode/utf8.acceptRanges", laid_unicode_utf8_acceptRanges), ("unicode/utf8.first", laid_unicode_utf8_first)], narrowed := true }
def FnExactLogWhoUptoSaid : Prop := fnExactLogWhoUptoRow.holds Tryd.pinned (OpenSpec.upto fnExactLogWhoSpec)

/-- 'laws.FnExactKeepTexts', WHERE WHAT IT READS IS OF BULK AT MOST 1048576: true; the input reads as it did. -/
def fnExactKeepTextsUptoRow : OpenClaim := { program := "ytmblockojnaffaadoor", sum := "d549f5a71166dbd4fda05fdf411ec5d59d80d043914e69a2fb264428c387f5c4", func := "loop.example/versioncontrol/laws.FnExactKeepTexts", spec := "fnExactKeepTexts", inPlace := ["internal/bytealg.CountString", "internal/bytealg.IndexByteString", "internal/bytealg.IndexString"], unfollowed := true, recurses := true, named := ["unicode/utf8.first", "unicode/utf8.acceptRanges", "internal/bytealg.MaxLen"], apart := false, laid := [("unicode/utf8.acceptRanges", laid_unicode_utf8_acceptRanges), ("unicode/utf8.first", laid_unicode_utf8_first)], narrowed := true }
def FnExactKeepTextsUptoSaid : Prop := fnExactKeepTextsUptoRow.holds Tryd.pinned (OpenSpec.upto fnExactKeepTextsSpec)

/-- 'laws.FnExactLogLeft', WHERE WHAT IT READS IS OF BULK AT MOST 1048576: true; the input reads as it did. -/
def fnExactLogLeftUptoRow : OpenClaim := { program := "ytmblockojnaffaadoor", sum := "d549f5a71166dbd4fda05fdf411ec5d59d80d043914e69a2fb264428c387f5c4", func := "loop.example/versioncontrol/laws.FnExactLogLeft", spec := "fnExactLogLeft", inPlace := ["internal/bytealg.CountString", "internal/bytealg.IndexByteString", "internal/bytealg.IndexString"], named := ["unicode/utf8.first", "unicode/utf8.acceptRanges", "internal/bytealg.MaxLen"], apart := false, laid := [("unicode/utf8.acceptRanges", laid_unicode_utf8_acceptRanges), ("unicode/utf8.first", laid_unicode_utf8_first)], narrowed := true }
def FnExactLogLeftUptoSaid : Prop := fnExactLogLeftUptoRow.holds Tryd.pinned (OpenSpec.upto fnExactLogLeftSpec)

/-- 'laws.FnExactBlameOf', WHERE WHAT IT READS IS OF BULK AT MOST 1048576: true; the input reads as it did. -/
def fnExactBlameOfUptoRow : OpenClaim := { program := "ytmblockojnaffaadoor", sum := "d549f5a71166dbd4fda05fdf411ec5d59d80d043914e69a2fb264428c387f5c4", func := "loop.example/versioncontrol/laws.FnExactBlameOf", spec := "fnExactBlameOf", inPlace := ["internal/bytealg.CountString", "internal/bytealg.IndexByteString", "internal/bytealg.IndexString"], recurses := true, named := ["unicode/utf8.first", "unicode/utf8.acceptRanges", "internal/bytealg.MaxLen"], apart := false, laid := [("unicode/utf8.acceptRanges", laid_unicode_utf8_acceptRanges), ("unicode/utf8.first", laid_unicode_utf8_first)], narrowed := true }
def FnExactBlameOfUptoSaid : Prop := fnExactBlameOfUptoRow.holds Tryd.pinned (OpenSpec.upto fnExactBlameOfSpec)

/-- 'laws.FnExactLogPath', WHERE WHAT IT READS IS OF BULK AT MOST 1048576: true; the input reads as it did. -/
def fnExactLogPathUptoRow : OpenClaim := { program := "ytmblockojnaffaadoor", sum := "d549f5a71166dbd4fda05fdf411ec5d59d80d043914e69a2fb264428c387f5c4", func := "loop.example/versioncontrol/laws.FnExactLogPath", spec := "fnExactLogPath", inPlace := ["internal/bytealg.CountString", "internal/bytealg.IndexByteString", "internal/bytealg.IndexString"], unfollowed := true, recurses := true, named := ["unicode/utf8.first", "unicode/utf8.acceptRanges", "internal/bytealg.MaxLen"], apart := false, laid := [("unicode/utf8.acceptRanges", laid_unicode_utf8_acceptRanges), ("unicode/utf8.first", laid_unicode_utf8_first)], narrowed := true }
def FnExactLogPathUptoSaid : Prop := fnExactLogPathUptoRow.holds Tryd.pinned (OpenSpec.upto fnExactLogPathSpec)

/-- 'laws.FnExactKeepOnly', WHERE WHAT IT READS IS OF BULK AT MOST 1048576: true; the input reads as it did. -/
def fnExactKeepOnlyUptoRow : OpenClaim := { program := "ytmblockojnaffaadoor", sum := "d549f5a71166dbd4fda05fdf411ec5d59d80d043914e69a2fb264428c387f5c4", func := "loop.example/versioncontrol/laws.FnExactKeepOnly", spec := "fnExactKeepOnly", inPlace := ["internal/bytealg.CountString", "internal/bytealg.IndexByteString", "internal/bytealg.IndexString"], named := ["unicode/utf8.first", "unicode/utf8.acceptRanges", "internal/bytealg.MaxLen"], apart := false, laid := [("unicode/utf8.acceptRanges", laid_unicode_utf8_acceptRanges), ("unicode/utf8.first", laid_unicode_utf8_first)], narrowed := true }
def FnExactKeepOnlyUptoSaid : Prop := fnExactKeepOnlyUptoRow.holds Tryd.pinned (OpenSpec.upto fnExactKeepOnlySpec)

/-- 'laws.FnExactSendOf', WHERE WHAT IT READS IS OF BULK AT MOST 1048576: true; the input reads as it did. -/
def fnExactSendOfUptoRow : OpenClaim := { program := "ytmblockojnaffaadoor", sum := "d549f5a71166dbd4fda05fdf411ec5d59d80d043914e69a2fb264428c387f5c4", func := "loop.example/versioncontrol/laws.FnExactSendOf", spec := "fnExactSendOf", inPlace := ["internal/bytealg.CountString", "internal/bytealg.IndexByteString", "internal/bytealg.IndexString"], named := ["unicode/utf8.first", "unicode/utf8.acceptRanges", "internal/bytealg.MaxLen"], apart := false, laid := [("unicode/utf8.acceptRanges", laid_unicode_utf8_acceptRanges), ("unicode/utf8.first", laid_unicode_utf8_first)], narrowed := true }
def FnExactSendOfUptoSaid : Prop := fnExactSendOfUptoRow.holds Tryd.pinned (OpenSpec.upto fnExactSendOfSpec)

/-- 'laws.FnExactBlameLine', WHERE WHAT IT READS IS OF BULK AT MOST 1048576: true; the input reads as it did. -/
def fnExactBlameLineUptoRow : OpenClaim := { program := "ytmblockojnaffaadoor", sum := "d549f5a71166dbd4fda05fdf411ec5d59d80d043914e69a2fb264428c387f5c4", func := "loop.example/versioncontrol/laws.FnExactBlameLine", spec := "fnExactBlameLine", inPlace := ["internal/bytealg.CountString", "internal/bytealg.IndexByteString", "internal/bytealg.IndexString"], recurses := true, named := ["unicode/utf8.first", "unicode/utf8.acceptRanges", "internal/bytealg.MaxLen"], apart := false, laid := [("unicode/utf8.acceptRanges", laid_unicode_utf8_acceptRanges), ("unicode/utf8.first", laid_unicode_utf8_first)], narrowed := true }
def FnExactBlameLineUptoSaid : Prop := fnExactBlameLineUptoRow.holds Tryd.pinned (OpenSpec.upto fnExactBlameLineSpec)

end Rows
end Go.Proofs.YtmblockojnaffaaDoor
