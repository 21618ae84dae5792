/-
  No cell of these rows narrows 'for every input' (looked for: loops, veiled, ifaces, maps, wideKeys, modest, calm, conditions, laid).
  DERIVED. THE GIVEN ROWS OF THIS SEAT. 6 by the template 'for every input the law returns true; each argument reads behind the call as it read before'; 0 by the template 'total and deterministic' (their statements: YtlokkbllplhlbaaTotals.lean).
  GIVEN WITH THE SEED: the statements are not yours to turn. If you find one false, say at which input.
  Laid BY PROGRAM, IN A SANDBOX (cutbox-rows.mjs): the forced cells as the released guide's own fill.sh prints them over the translation 11a8a564c904bf7a… (all of the seat's roots in one cut). By AI agents, Wed Nov 11 2026. No macro, syntax, notation, axiom, sorry.
-/
import Derived.Test.YtlokkbllplhlbaaChecked
import GoSem.Claim
import GoSem.ClaimJoined
import GoSem.ClaimMapViews
import Derived.JoinedTies
import Derived.KernelRfl
namespace Go.Proofs.Ytlokkbllplhlbaa
/- THE CELL 'sum', in the pinned program and in every row, IS THE sha256 OF THE DUMP (.gsa) THAT YtlokkbllplhlbaaProg.lean LOADS. Nothing in Lean hashes anything: it is a label: what it is worth is what the hold of that sum in a sandbox is worth. -/
noncomputable def Try.pinned : Pinned := { name := "ytlokkbllplhlbaa", sum := "11a8a564c904bf7ab50b89f39feaa27cbabce5f2a5d232dbaa22193f76498a0c", checked := Try.checked }
namespace Rows
def none {H : Type} : Left H := { results := [], args := [] }

/-- 'laws.FnExactReviewOk': WHATEVER THE INPUT: true; the input reads as it did. -/
def fnExactReviewOkSpec : ChangeSpec := { name := "fnExactReviewOk", fn := fun _ => fun
  | [d] => { results := [.lit (.bool true)], args := [d] }
  | _ => none }
def fnExactReviewOkRow : OpenClaim := { program := "ytlokkbllplhlbaa", sum := "11a8a564c904bf7ab50b89f39feaa27cbabce5f2a5d232dbaa22193f76498a0c", func := "loop.example/versioncontrol/laws.FnExactReviewOk", spec := "fnExactReviewOk", apart := false }
def FnExactReviewOkSaid : Prop := fnExactReviewOkRow.holds Try.pinned (OpenSpec.ofChange fnExactReviewOkSpec)

/-- ITS FALSE NEIGHBOUR: 'it returns false'. Refute it at one input. -/
def fnExactReviewOkWrong : ChangeSpec := { name := "fnExactReviewOk", fn := fun _ => fun
  | [d] => { results := [.lit (.bool false)], args := [d] }
  | _ => none }
def FnExactReviewOkWrongFalsely : Prop := fnExactReviewOkRow.holds Try.pinned (OpenSpec.ofChange fnExactReviewOkWrong)

/-- 'laws.FnMergeSide': WHATEVER THE INPUT: true; the input reads as it did. -/
def fnMergeSideSpec : ChangeSpec := { name := "fnMergeSide", fn := fun _ => fun
  | [d] => { results := [.lit (.bool true)], args := [d] }
  | _ => none }
def fnMergeSideRow : OpenClaim := { program := "ytlokkbllplhlbaa", sum := "11a8a564c904bf7ab50b89f39feaa27cbabce5f2a5d232dbaa22193f76498a0c", func := "loop.example/versioncontrol/laws.FnMergeSide", spec := "fnMergeSide", unfollowed := true, recurses := true, apart := false }
def FnMergeSideSaid : Prop := fnMergeSideRow.holds Try.pinned (OpenSpec.ofChange fnMergeSideSpec)

/-- ITS FALSE NEIGHBOUR: 'it returns false'. Refute it at one input. -/
def fnMergeSideWrong : ChangeSpec := { name := "fnMergeSide", fn := fun _ => fun
  | [d] => { results := [.lit (.bool false)], args := [d] }
  | _ => none }
def FnMergeSideWrongFalsely : Prop := fnMergeSideRow.holds Try.pinned (OpenSpec.ofChange fnMergeSideWrong)

/-- 'laws.FnPatchOver': WHATEVER THE INPUT: true; the input reads as it did. -/
def fnPatchOverSpec : ChangeSpec := { name := "fnPatchOver", fn := fun _ => fun
  | [d] => { results := [.lit (.bool true)], args := [d] }
  | _ => none }
def fnPatchOverRow : OpenClaim := { program := "ytlokkbllplhlbaa", sum := "11a8a564c904bf7ab50b89f39feaa27cbabce5f2a5d232dbaa22193f76498a0c", func := "loop.example/versioncontrol/laws.FnPatchOver", spec := "fnPatchOver", apart := false }
def FnPatchOverSaid : Prop := fnPatchOverRow.holds Try.pinned (OpenSpec.ofChange fnPatchOverSpec)

/-- ITS FALSE NEIGHBOUR: 'it returns false'. Refute it at one input. -/
def fnPatchOverWrong : ChangeSpec := { name := "fnPatchOver", fn := fun _ => fun
  | [d] => { results := [.lit (.bool false)], args := [d] }
  | _ => none }
def FnPatchOverWrongFalsely : Prop := fnPatchOverRow.holds Try.pinned (OpenSpec.ofChange fnPatchOverWrong)

/-- 'laws.FnMergeShow': WHATEVER THE INPUT: true; the input reads as it did. -/
def fnMergeShowSpec : ChangeSpec := { name := "fnMergeShow", fn := fun _ => fun
  | [d] => { results := [.lit (.bool true)], args := [d] }
  | _ => none }
def fnMergeShowRow : OpenClaim := { program := "ytlokkbllplhlbaa", sum := "11a8a564c904bf7ab50b89f39feaa27cbabce5f2a5d232dbaa22193f76498a0c", func := "loop.example/versioncontrol/laws.FnMergeShow", spec := "fnMergeShow", unfollowed := true, recurses := true, apart := false }
def FnMergeShowSaid : Prop := fnMergeShowRow.holds Try.pinned (OpenSpec.ofChange fnMergeShowSpec)

/-- ITS FALSE NEIGHBOUR: 'it returns false'. Refute it at one input. -/
def fnMergeShowWrong : ChangeSpec := { name := "fnMergeShow", fn := fun _ => fun
  | [d] => { results := [.lit (.bool false)], args := [d] }
  | _ => none }
def FnMergeShowWrongFalsely : Prop := fnMergeShowRow.holds Try.pinned (OpenSpec.ofChange fnMergeShowWrong)

/-- 'laws.FnMergeFree': WHATEVER THE INPUT: true; the input reads as it did. -/
def fnMergeFreeSpec : ChangeSpec := { name := "fnMergeFree", fn := fun _ => fun
  | [d] => { results := [.lit (.bool true)], args := [d] }
  | _ => none }
def fnMergeFreeRow : OpenClaim := { program := "ytlokkbllplhlbaa", sum := "11a8a564c904bf7ab50b89f39feaa27cbabce5f2a5d232dbaa22193f76498a0c", func := "loop.example/versioncontrol/laws.FnMergeFree", spec := "fnMergeFree", unfollowed := true, recurses := true, apart := false }
def FnMergeFreeSaid : Prop := fnMergeFreeRow.holds Try.pinned (OpenSpec.ofChange fnMergeFreeSpec)

/-- ITS FALSE NEIGHBOUR: 'it returns false'. Refute it at one input. -/
def fnMergeFreeWrong : ChangeSpec := { name := "fnMergeFree", fn := fun _ => fun
  | [d] => { results := [.lit (.bool false)], args := [d] }
  | _ => none }
def FnMergeFreeWrongFalsely : Prop := fnMergeFreeRow.holds Try.pinned (OpenSpec.ofChange fnMergeFreeWrong)

/-- 'laws.FnMergeDiff': WHATEVER THE INPUT: true; the input reads as it did. -/
def fnMergeDiffSpec : ChangeSpec := { name := "fnMergeDiff", fn := fun _ => fun
  | [d] => { results := [.lit (.bool true)], args := [d] }
  | _ => none }
def fnMergeDiffRow : OpenClaim := { program := "ytlokkbllplhlbaa", sum := "11a8a564c904bf7ab50b89f39feaa27cbabce5f2a5d232dbaa22193f76498a0c", func := "loop.example/versioncontrol/laws.FnMergeDiff", spec := "fnMergeDiff", unfollowed := true, recurses := true, apart := false }
def FnMergeDiffSaid : Prop := fnMergeDiffRow.holds Try.pinned (OpenSpec.ofChange fnMergeDiffSpec)

/-- ITS FALSE NEIGHBOUR: 'it returns false'. Refute it at one input. -/
def fnMergeDiffWrong : ChangeSpec := { name := "fnMergeDiff", fn := fun _ => fun
  | [d] => { results := [.lit (.bool false)], args := [d] }
  | _ => none }
def FnMergeDiffWrongFalsely : Prop := fnMergeDiffRow.holds Try.pinned (OpenSpec.ofChange fnMergeDiffWrong)

/- THE SECOND FORM. 'bulk': how many values and letters a reading holds, each counted each time it is reached (what is shared counts as often as it is met; a slice's spare places count too). A statement '..UptoSaid' is the law's where the arguments, and the package variables that the reading takes, are together of bulk at most 1048576: NARROWER than '..Said'. Prove '..Said' where nothing that the law and all that it calls make is longer than what came in: it says more and counts as full. Else prove '..UptoSaid'. A law counts once. -/
mutual
def uptoBulk {H : Type} : DataW H → Nat
  | .lit (.string bytes) => bytes.length + 1
  | .lit _ => 1
  | .nil => 1
  | .ptr d => uptoBulk d + 1
  | .slice elems spare => uptoBulkAll elems + uptoBulkAll spare + 1
  | .agg parts => uptoBulkAll parts + 1
  | .iface _ d => uptoBulk d + 1
  | .map entries => uptoBulkEntries entries + 1
  | .held _ => 1
def uptoBulkAll {H : Type} : List (DataW H) → Nat
  | [] => 0
  | d :: r => uptoBulk d + uptoBulkAll r
def uptoBulkEntries {H : Type} : List (Lit × DataW H) → Nat
  | [] => 0
  | x :: r => uptoBulkEntry x + uptoBulkEntries r
def uptoBulkEntry {H : Type} : Lit × DataW H → Nat
  | (.string bytes, d) => bytes.length + uptoBulk d + 1
  | (_, d) => uptoBulk d + 1
 end
def uptoSmall : (H : Type) → List (DataW H) → Bool := fun _ ds => decide (uptoBulkAll ds ≤ 1048576)
def OpenSpec.upto (s : _root_.Go.ChangeSpec) : _root_.Go.OpenSpec := { _root_.Go.OpenSpec.ofChange s with cond := some uptoSmall }

/-- 'laws.FnExactReviewOk', WHERE WHAT IT READS IS OF BULK AT MOST 1048576: true; the input reads as it did. -/
def fnExactReviewOkUptoRow : OpenClaim := { program := "ytlokkbllplhlbaa", sum := "11a8a564c904bf7ab50b89f39feaa27cbabce5f2a5d232dbaa22193f76498a0c", func := "loop.example/versioncontrol/laws.FnExactReviewOk", spec := "fnExactReviewOk", apart := false, narrowed := true }
def FnExactReviewOkUptoSaid : Prop := fnExactReviewOkUptoRow.holds Try.pinned (OpenSpec.upto fnExactReviewOkSpec)

/-- 'laws.FnMergeSide', WHERE WHAT IT READS IS OF BULK AT MOST 1048576: true; the input reads as it did. -/
def fnMergeSideUptoRow : OpenClaim := { program := "ytlokkbllplhlbaa", sum := "11a8a564c904bf7ab50b89f39feaa27cbabce5f2a5d232dbaa22193f76498a0c", func := "loop.example/versioncontrol/laws.FnMergeSide", spec := "fnMergeSide", unfollowed := true, recurses := true, apart := false, narrowed := true }
def FnMergeSideUptoSaid : Prop := fnMergeSideUptoRow.holds Try.pinned (OpenSpec.upto fnMergeSideSpec)

/-- 'laws.FnPatchOver', WHERE WHAT IT READS IS OF BULK AT MOST 1048576: true; the input reads as it did. -/
def fnPatchOverUptoRow : OpenClaim := { program := "ytlokkbllplhlbaa", sum := "11a8a564c904bf7ab50b89f39feaa27cbabce5f2a5d232dbaa22193f76498a0c", func := "loop.example/versioncontrol/laws.FnPatchOver", spec := "fnPatchOver", apart := false, narrowed := true }
def FnPatchOverUptoSaid : Prop := fnPatchOverUptoRow.holds Try.pinned (OpenSpec.upto fnPatchOverSpec)

/-- 'laws.FnMergeShow', WHERE WHAT IT READS IS OF BULK AT MOST 1048576: true; the input reads as it did. -/
def fnMergeShowUptoRow : OpenClaim := { program := "ytlokkbllplhlbaa", sum := "11a8a564c904bf7ab50b89f39feaa27cbabce5f2a5d232dbaa22193f76498a0c", func := "loop.example/versioncontrol/laws.FnMergeShow", spec := "fnMergeShow", unfollowed := true, recurses := true, apart := false, narrowed := true }
def FnMergeShowUptoSaid : Prop := fnMergeShowUptoRow.holds Try.pinned (OpenSpec.upto fnMergeShowSpec)

/-- 'laws.FnMergeFree', WHERE WHAT IT READS IS OF BULK AT MOST 1048576: true; the input reads as it did. -/
def fnMergeFreeUptoRow : OpenClaim := { program := "ytlokkbllplhlbaa", sum := "11a8a564c904bf7ab50b89f39feaa27cbabce5f2a5d232dbaa22193f76498a0c", func := "loop.example/versioncontrol/laws.FnMergeFree", spec := "fnMergeFree", unfollowed := true, recurses := true, apart := false, narrowed := true }
def FnMergeFreeUptoSaid : Prop := fnMergeFreeUptoRow.holds Try.pinned (OpenSpec.upto fnMergeFreeSpec)

/-- 'laws.FnMergeDiff', WHERE WHAT IT READS IS OF BULK AT MOST 1048576: true; the input reads as it did. -/
def fnMergeDiffUptoRow : OpenClaim := { program := "ytlokkbllplhlbaa", sum := "11a8a564c904bf7ab50b89f39feaa27cbabce5f2a5d232dbaa22193f76498a0c", func := "loop.example/versioncontrol/laws.FnMergeDiff", spec := "fnMergeDiff", unfollowed := true, recurses := true, apart := false, narrowed := true }
def FnMergeDiffUptoSaid : Prop := fnMergeDiffUptoRow.holds Try.pinned (OpenSpec.upto fnMergeDiffSpec)

end Rows
end Go.Proofs.Ytlokkbllplhlbaa
