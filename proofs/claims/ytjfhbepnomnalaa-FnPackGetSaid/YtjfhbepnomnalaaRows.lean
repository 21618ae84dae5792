/-
  No cell of these rows narrows 'for every input' (looked for: loops, veiled, ifaces, maps, wideKeys, modest, calm, conditions, laid).
  DERIVED. THE GIVEN ROWS OF THIS SEAT. 12 by the template 'for every input the law returns true; each argument reads behind the call as it read before'; 0 by the template 'total and deterministic' (their statements: YtjfhbepnomnalaaTotals.lean).
  GIVEN WITH THE SEED: the statements are not yours to turn. If you find one false, say at which input.
  Laid BY PROGRAM, IN A SANDBOX (cutbox-rows.mjs): the forced cells as the released guide's own fill.sh prints them over the translation aba61d4f504fe90e… (all of the seat's roots in one cut). By AI agents, Wed Nov 11 2026. No macro, syntax, notation, axiom, sorry.
-/
import Derived.Test.YtjfhbepnomnalaaChecked
import GoSem.Claim
import GoSem.ClaimJoined
import GoSem.ClaimMapViews
import Derived.JoinedTies
import Derived.KernelRfl
namespace Go.Proofs.Ytjfhbepnomnalaa
/- THE CELL 'sum', in the pinned program and in every row, IS THE sha256 OF THE DUMP (.gsa) THAT YtjfhbepnomnalaaProg.lean LOADS. Nothing in Lean hashes anything: it is a label: what it is worth is what the hold of that sum in a sandbox is worth. -/
noncomputable def Try.pinned : Pinned := { name := "ytjfhbepnomnalaa", sum := "aba61d4f504fe90ea5817323753ade1119ba14ea613c0a40886b270811ece8b9", checked := Try.checked }
namespace Rows
def none {H : Type} : Left H := { results := [], args := [] }

/-- 'laws.FnExactDeltaOk': WHATEVER THE INPUT: true; the input reads as it did. -/
def fnExactDeltaOkSpec : ChangeSpec := { name := "fnExactDeltaOk", fn := fun _ => fun
  | [d] => { results := [.lit (.bool true)], args := [d] }
  | _ => none }
def fnExactDeltaOkRow : OpenClaim := { program := "ytjfhbepnomnalaa", sum := "aba61d4f504fe90ea5817323753ade1119ba14ea613c0a40886b270811ece8b9", func := "loop.example/versioncontrol/laws.FnExactDeltaOk", spec := "fnExactDeltaOk", apart := false }
def FnExactDeltaOkSaid : Prop := fnExactDeltaOkRow.holds Try.pinned (OpenSpec.ofChange fnExactDeltaOkSpec)

/-- ITS FALSE NEIGHBOUR: 'it returns false'. Refute it at one input. -/
def fnExactDeltaOkWrong : ChangeSpec := { name := "fnExactDeltaOk", fn := fun _ => fun
  | [d] => { results := [.lit (.bool false)], args := [d] }
  | _ => none }
def FnExactDeltaOkWrongFalsely : Prop := fnExactDeltaOkRow.holds Try.pinned (OpenSpec.ofChange fnExactDeltaOkWrong)

/-- 'laws.FnExactDeltaOf': WHATEVER THE INPUT: true; the input reads as it did. -/
def fnExactDeltaOfSpec : ChangeSpec := { name := "fnExactDeltaOf", fn := fun _ => fun
  | [d1, d2] => { results := [.lit (.bool true)], args := [d1, d2] }
  | _ => none }
def fnExactDeltaOfRow : OpenClaim := { program := "ytjfhbepnomnalaa", sum := "aba61d4f504fe90ea5817323753ade1119ba14ea613c0a40886b270811ece8b9", func := "loop.example/versioncontrol/laws.FnExactDeltaOf", spec := "fnExactDeltaOf", apart := false }
def FnExactDeltaOfSaid : Prop := fnExactDeltaOfRow.holds Try.pinned (OpenSpec.ofChange fnExactDeltaOfSpec)

/-- ITS FALSE NEIGHBOUR: 'it returns false'. Refute it at one input. -/
def fnExactDeltaOfWrong : ChangeSpec := { name := "fnExactDeltaOf", fn := fun _ => fun
  | [d1, d2] => { results := [.lit (.bool false)], args := [d1, d2] }
  | _ => none }
def FnExactDeltaOfWrongFalsely : Prop := fnExactDeltaOfRow.holds Try.pinned (OpenSpec.ofChange fnExactDeltaOfWrong)

/-- 'laws.FnExactDeltaDo': WHATEVER THE INPUT: true; the input reads as it did. -/
def fnExactDeltaDoSpec : ChangeSpec := { name := "fnExactDeltaDo", fn := fun _ => fun
  | [d1, d2] => { results := [.lit (.bool true)], args := [d1, d2] }
  | _ => none }
def fnExactDeltaDoRow : OpenClaim := { program := "ytjfhbepnomnalaa", sum := "aba61d4f504fe90ea5817323753ade1119ba14ea613c0a40886b270811ece8b9", func := "loop.example/versioncontrol/laws.FnExactDeltaDo", spec := "fnExactDeltaDo", apart := false }
def FnExactDeltaDoSaid : Prop := fnExactDeltaDoRow.holds Try.pinned (OpenSpec.ofChange fnExactDeltaDoSpec)

/-- ITS FALSE NEIGHBOUR: 'it returns false'. Refute it at one input. -/
def fnExactDeltaDoWrong : ChangeSpec := { name := "fnExactDeltaDo", fn := fun _ => fun
  | [d1, d2] => { results := [.lit (.bool false)], args := [d1, d2] }
  | _ => none }
def FnExactDeltaDoWrongFalsely : Prop := fnExactDeltaDoRow.holds Try.pinned (OpenSpec.ofChange fnExactDeltaDoWrong)

/-- 'laws.FnDeltaOf': WHATEVER THE INPUT: true; the input reads as it did. -/
def fnDeltaOfSpec : ChangeSpec := { name := "fnDeltaOf", fn := fun _ => fun
  | [d] => { results := [.lit (.bool true)], args := [d] }
  | _ => none }
def fnDeltaOfRow : OpenClaim := { program := "ytjfhbepnomnalaa", sum := "aba61d4f504fe90ea5817323753ade1119ba14ea613c0a40886b270811ece8b9", func := "loop.example/versioncontrol/laws.FnDeltaOf", spec := "fnDeltaOf", apart := false }
def FnDeltaOfSaid : Prop := fnDeltaOfRow.holds Try.pinned (OpenSpec.ofChange fnDeltaOfSpec)

/-- ITS FALSE NEIGHBOUR: 'it returns false'. Refute it at one input. -/
def fnDeltaOfWrong : ChangeSpec := { name := "fnDeltaOf", fn := fun _ => fun
  | [d] => { results := [.lit (.bool false)], args := [d] }
  | _ => none }
def FnDeltaOfWrongFalsely : Prop := fnDeltaOfRow.holds Try.pinned (OpenSpec.ofChange fnDeltaOfWrong)

/-- 'laws.FnDeltaDo': WHATEVER THE INPUT: true; the input reads as it did. -/
def fnDeltaDoSpec : ChangeSpec := { name := "fnDeltaDo", fn := fun _ => fun
  | [d] => { results := [.lit (.bool true)], args := [d] }
  | _ => none }
def fnDeltaDoRow : OpenClaim := { program := "ytjfhbepnomnalaa", sum := "aba61d4f504fe90ea5817323753ade1119ba14ea613c0a40886b270811ece8b9", func := "loop.example/versioncontrol/laws.FnDeltaDo", spec := "fnDeltaDo", apart := false }
def FnDeltaDoSaid : Prop := fnDeltaDoRow.holds Try.pinned (OpenSpec.ofChange fnDeltaDoSpec)

/-- ITS FALSE NEIGHBOUR: 'it returns false'. Refute it at one input. -/
def fnDeltaDoWrong : ChangeSpec := { name := "fnDeltaDo", fn := fun _ => fun
  | [d] => { results := [.lit (.bool false)], args := [d] }
  | _ => none }
def FnDeltaDoWrongFalsely : Prop := fnDeltaDoRow.holds Try.pinned (OpenSpec.ofChange fnDeltaDoWrong)

/-- 'laws.FnExactPackOk': WHATEVER THE INPUT: true; the input reads as it did. -/
def fnExactPackOkSpec : ChangeSpec := { name := "fnExactPackOk", fn := fun _ => fun
  | [d] => { results := [.lit (.bool true)], args := [d] }
  | _ => none }
def fnExactPackOkRow : OpenClaim := { program := "ytjfhbepnomnalaa", sum := "aba61d4f504fe90ea5817323753ade1119ba14ea613c0a40886b270811ece8b9", func := "loop.example/versioncontrol/laws.FnExactPackOk", spec := "fnExactPackOk", recurses := true, apart := false }
def FnExactPackOkSaid : Prop := fnExactPackOkRow.holds Try.pinned (OpenSpec.ofChange fnExactPackOkSpec)

/-- ITS FALSE NEIGHBOUR: 'it returns false'. Refute it at one input. -/
def fnExactPackOkWrong : ChangeSpec := { name := "fnExactPackOk", fn := fun _ => fun
  | [d] => { results := [.lit (.bool false)], args := [d] }
  | _ => none }
def FnExactPackOkWrongFalsely : Prop := fnExactPackOkRow.holds Try.pinned (OpenSpec.ofChange fnExactPackOkWrong)

/-- 'laws.FnPackGet': WHATEVER THE INPUT: true; the input reads as it did. -/
def fnPackGetSpec : ChangeSpec := { name := "fnPackGet", fn := fun _ => fun
  | [d] => { results := [.lit (.bool true)], args := [d] }
  | _ => none }
def fnPackGetRow : OpenClaim := { program := "ytjfhbepnomnalaa", sum := "aba61d4f504fe90ea5817323753ade1119ba14ea613c0a40886b270811ece8b9", func := "loop.example/versioncontrol/laws.FnPackGet", spec := "fnPackGet", recurses := true, apart := false }
def FnPackGetSaid : Prop := fnPackGetRow.holds Try.pinned (OpenSpec.ofChange fnPackGetSpec)

/-- ITS FALSE NEIGHBOUR: 'it returns false'. Refute it at one input. -/
def fnPackGetWrong : ChangeSpec := { name := "fnPackGet", fn := fun _ => fun
  | [d] => { results := [.lit (.bool false)], args := [d] }
  | _ => none }
def FnPackGetWrongFalsely : Prop := fnPackGetRow.holds Try.pinned (OpenSpec.ofChange fnPackGetWrong)

/-- 'laws.FnExactPackSize': WHATEVER THE INPUT: true; the input reads as it did. -/
def fnExactPackSizeSpec : ChangeSpec := { name := "fnExactPackSize", fn := fun _ => fun
  | [d] => { results := [.lit (.bool true)], args := [d] }
  | _ => none }
def fnExactPackSizeRow : OpenClaim := { program := "ytjfhbepnomnalaa", sum := "aba61d4f504fe90ea5817323753ade1119ba14ea613c0a40886b270811ece8b9", func := "loop.example/versioncontrol/laws.FnExactPackSize", spec := "fnExactPackSize", recurses := true, apart := false }
def FnExactPackSizeSaid : Prop := fnExactPackSizeRow.holds Try.pinned (OpenSpec.ofChange fnExactPackSizeSpec)

/-- ITS FALSE NEIGHBOUR: 'it returns false'. Refute it at one input. -/
def fnExactPackSizeWrong : ChangeSpec := { name := "fnExactPackSize", fn := fun _ => fun
  | [d] => { results := [.lit (.bool false)], args := [d] }
  | _ => none }
def FnExactPackSizeWrongFalsely : Prop := fnExactPackSizeRow.holds Try.pinned (OpenSpec.ofChange fnExactPackSizeWrong)

/-- 'laws.FnPackFew': WHATEVER THE INPUT: true; the input reads as it did. -/
def fnPackFewSpec : ChangeSpec := { name := "fnPackFew", fn := fun _ => fun
  | [d1, d2] => { results := [.lit (.bool true)], args := [d1, d2] }
  | _ => none }
def fnPackFewRow : OpenClaim := { program := "ytjfhbepnomnalaa", sum := "aba61d4f504fe90ea5817323753ade1119ba14ea613c0a40886b270811ece8b9", func := "loop.example/versioncontrol/laws.FnPackFew", spec := "fnPackFew", recurses := true, apart := false }
def FnPackFewSaid : Prop := fnPackFewRow.holds Try.pinned (OpenSpec.ofChange fnPackFewSpec)

/-- ITS FALSE NEIGHBOUR: 'it returns false'. Refute it at one input. -/
def fnPackFewWrong : ChangeSpec := { name := "fnPackFew", fn := fun _ => fun
  | [d1, d2] => { results := [.lit (.bool false)], args := [d1, d2] }
  | _ => none }
def FnPackFewWrongFalsely : Prop := fnPackFewRow.holds Try.pinned (OpenSpec.ofChange fnPackFewWrong)

/-- 'laws.FnExactPackOf': WHATEVER THE INPUT: true; the input reads as it did. -/
def fnExactPackOfSpec : ChangeSpec := { name := "fnExactPackOf", fn := fun _ => fun
  | [d] => { results := [.lit (.bool true)], args := [d] }
  | _ => none }
def fnExactPackOfRow : OpenClaim := { program := "ytjfhbepnomnalaa", sum := "aba61d4f504fe90ea5817323753ade1119ba14ea613c0a40886b270811ece8b9", func := "loop.example/versioncontrol/laws.FnExactPackOf", spec := "fnExactPackOf", apart := false }
def FnExactPackOfSaid : Prop := fnExactPackOfRow.holds Try.pinned (OpenSpec.ofChange fnExactPackOfSpec)

/-- ITS FALSE NEIGHBOUR: 'it returns false'. Refute it at one input. -/
def fnExactPackOfWrong : ChangeSpec := { name := "fnExactPackOf", fn := fun _ => fun
  | [d] => { results := [.lit (.bool false)], args := [d] }
  | _ => none }
def FnExactPackOfWrongFalsely : Prop := fnExactPackOfRow.holds Try.pinned (OpenSpec.ofChange fnExactPackOfWrong)

/-- 'laws.FnExactPackGet': WHATEVER THE INPUT: true; the input reads as it did. -/
def fnExactPackGetSpec : ChangeSpec := { name := "fnExactPackGet", fn := fun _ => fun
  | [d1, d2] => { results := [.lit (.bool true)], args := [d1, d2] }
  | _ => none }
def fnExactPackGetRow : OpenClaim := { program := "ytjfhbepnomnalaa", sum := "aba61d4f504fe90ea5817323753ade1119ba14ea613c0a40886b270811ece8b9", func := "loop.example/versioncontrol/laws.FnExactPackGet", spec := "fnExactPackGet", recurses := true, apart := false }
def FnExactPackGetSaid : Prop := fnExactPackGetRow.holds Try.pinned (OpenSpec.ofChange fnExactPackGetSpec)

/-- ITS FALSE NEIGHBOUR: 'it returns false'. Refute it at one input. -/
def fnExactPackGetWrong : ChangeSpec := { name := "fnExactPackGet", fn := fun _ => fun
  | [d1, d2] => { results := [.lit (.bool false)], args := [d1, d2] }
  | _ => none }
def FnExactPackGetWrongFalsely : Prop := fnExactPackGetRow.holds Try.pinned (OpenSpec.ofChange fnExactPackGetWrong)

/-- 'laws.FnPackOf': WHATEVER THE INPUT: true; the input reads as it did. -/
def fnPackOfSpec : ChangeSpec := { name := "fnPackOf", fn := fun _ => fun
  | [d] => { results := [.lit (.bool true)], args := [d] }
  | _ => none }
def fnPackOfRow : OpenClaim := { program := "ytjfhbepnomnalaa", sum := "aba61d4f504fe90ea5817323753ade1119ba14ea613c0a40886b270811ece8b9", func := "loop.example/versioncontrol/laws.FnPackOf", spec := "fnPackOf", apart := false }
def FnPackOfSaid : Prop := fnPackOfRow.holds Try.pinned (OpenSpec.ofChange fnPackOfSpec)

/-- ITS FALSE NEIGHBOUR: 'it returns false'. Refute it at one input. -/
def fnPackOfWrong : ChangeSpec := { name := "fnPackOf", fn := fun _ => fun
  | [d] => { results := [.lit (.bool false)], args := [d] }
  | _ => none }
def FnPackOfWrongFalsely : Prop := fnPackOfRow.holds Try.pinned (OpenSpec.ofChange fnPackOfWrong)

/- THE SECOND FORM. 'bulk': how many values and letters a reading holds, each counted each time it is reached (what is shared counts as often as it is met; a slice's spare places count too). A statement '..UptoSaid' is the law's where the arguments, and the package variables that the reading takes, are together of bulk at most 1048576: NARROWER than '..Said'. Prove '..Said' where nothing that the law and all that it calls make is longer than what came in: it says more and counts as full. Else prove '..UptoSaid'. A law counts once. -/
mutual
def uptoBulk {H : Type} : DataW H → Nat
  | .lit (.string bytes) => bytes.length + 1
  | .lit _ => 1
  | .nil => 1
  | .ptr d => uptoBulk d + 1
  | .slice elems spare => uptoBulkAll elems + uptoBulkAll spare + 1
  | .agg parts => uptoBulkAll parts + 1
  | .iface _ d => uptoBulk d + 1
  | .map entries => uptoBulkEntries entries + 1
  | .held _ => 1
def uptoBulkAll {H : Type} : List (DataW H) → Nat
  | [] => 0
  | d :: r => uptoBulk d + uptoBulkAll r
def uptoBulkEntries {H : Type} : List (Lit × DataW H) → Nat
  | [] => 0
  | x :: r => uptoBulkEntry x + uptoBulkEntries r
def uptoBulkEntry {H : Type} : Lit × DataW H → Nat
  | (.string bytes, d) => bytes.length + uptoBulk d + 1
  | (_, d) => uptoBulk d + 1
 end
def uptoSmall : (H : Type) → List (DataW H) → Bool := fun _ ds => decide (uptoBulkAll ds ≤ 1048576)
def OpenSpec.upto (s : _root_.Go.ChangeSpec) : _root_.Go.OpenSpec := { _root_.Go.OpenSpec.ofChange s with cond := some uptoSmall }

/-- 'laws.FnExactDeltaOk', WHERE WHAT IT READS IS OF BULK AT MOST 1048576: true; the input reads as it did. -/
def fnExactDeltaOkUptoRow : OpenClaim := { program := "ytjfhbepnomnalaa", sum := "aba61d4f504fe90ea5817323753ade1119ba14ea613c0a40886b270811ece8b9", func := "loop.example/versioncontrol/laws.FnExactDeltaOk", spec := "fnExactDeltaOk", apart := false, narrowed := true }
def FnExactDeltaOkUptoSaid : Prop := fnExactDeltaOkUptoRow.holds Try.pinned (OpenSpec.upto fnExactDeltaOkSpec)

/-- 'laws.FnExactDeltaOf', WHERE WHAT IT READS IS OF BULK AT MOST 1048576: true; the input reads as it did. -/
def fnExactDeltaOfUptoRow : OpenClaim := { program := "ytjfhbepnomnalaa", sum := "aba61d4f504fe90ea5817323753ade1119ba14ea613c0a40886b270811ece8b9", func := "loop.example/versioncontrol/laws.FnExactDeltaOf", spec := "fnExactDeltaOf", apart := false, narrowed := true }
def FnExactDeltaOfUptoSaid : Prop := fnExactDeltaOfUptoRow.holds Try.pinned (OpenSpec.upto fnExactDeltaOfSpec)

/-- 'laws.FnExactDeltaDo', WHERE WHAT IT READS IS OF BULK AT MOST 1048576: true; the input reads as it did. -/
def fnExactDeltaDoUptoRow : OpenClaim := { program := "ytjfhbepnomnalaa", sum := "aba61d4f504fe90ea5817323753ade1119ba14ea613c0a40886b270811ece8b9", func := "loop.example/versioncontrol/laws.FnExactDeltaDo", spec := "fnExactDeltaDo", apart := false, narrowed := true }
def FnExactDeltaDoUptoSaid : Prop := fnExactDeltaDoUptoRow.holds Try.pinned (OpenSpec.upto fnExactDeltaDoSpec)

/-- 'laws.FnDeltaOf', WHERE WHAT IT READS IS OF BULK AT MOST 1048576: true; the input reads as it did. -/
def fnDeltaOfUptoRow : OpenClaim := { program := "ytjfhbepnomnalaa", sum := "aba61d4f504fe90ea5817323753ade1119ba14ea613c0a40886b270811ece8b9", func := "loop.example/versioncontrol/laws.FnDeltaOf", spec := "fnDeltaOf", apart := false, narrowed := true }
def FnDeltaOfUptoSaid : Prop := fnDeltaOfUptoRow.holds Try.pinned (OpenSpec.upto fnDeltaOfSpec)

/-- 'laws.FnDeltaDo', WHERE WHAT IT READS IS OF BULK AT MOST 1048576: true; the input reads as it did. -/
def fnDeltaDoUptoRow : OpenClaim := { program := "ytjfhbepnomnalaa", sum := "aba61d4f504fe90ea5817323753ade1119ba14ea613c0a40886b270811ece8b9", func := "loop.example/versioncontrol/laws.FnDeltaDo", spec := "fnDeltaDo", apart := false, narrowed := true }
def FnDeltaDoUptoSaid : Prop := fnDeltaDoUptoRow.holds Try.pinned (OpenSpec.upto fnDeltaDoSpec)

/-- 'laws.FnExactPackOk', WHERE WHAT IT READS IS OF BULK AT MOST 1048576: true; the input reads as it did. -/
def fnExactPackOkUptoRow : OpenClaim := { program := "ytjfhbepnomnalaa", sum := "aba61d4f504fe90ea5817323753ade1119ba14ea613c0a40886b270811ece8b9", func := "loop.example/versioncontrol/laws.FnExactPackOk", spec := "fnExactPackOk", recurses := true, apart := false, narrowed := true }
def FnExactPackOkUptoSaid : Prop := fnExactPackOkUptoRow.holds Try.pinned (OpenSpec.upto fnExactPackOkSpec)

/-- 'laws.FnPackGet', WHERE WHAT IT READS IS OF BULK AT MOST 1048576: true; the input reads as it did. -/
def fnPackGetUptoRow : OpenClaim := { program := "ytjfhbepnomnalaa", sum := "aba61d4f504fe90ea5817323753ade1119ba14ea613c0a40886b270811ece8b9", func := "loop.example/versioncontrol/laws.FnPackGet", spec := "fnPackGet", recurses := true, apart := false, narrowed := true }
def FnPackGetUptoSaid : Prop := fnPackGetUptoRow.holds Try.pinned (OpenSpec.upto fnPackGetSpec)

/-- 'laws.FnExactPackSize', WHERE WHAT IT READS IS OF BULK AT MOST 1048576: true; the input reads as it did. -/
def fnExactPackSizeUptoRow : OpenClaim := { program := "ytjfhbepnomnalaa", sum := "aba61d4f504fe90ea5817323753ade1119ba14ea613c0a40886b270811ece8b9", func := "loop.example/versioncontrol/laws.FnExactPackSize", spec := "fnExactPackSize", recurses := true, apart := false, narrowed := true }
def FnExactPackSizeUptoSaid : Prop := fnExactPackSizeUptoRow.holds Try.pinned (OpenSpec.upto fnExactPackSizeSpec)

/-- 'laws.FnPackFew', WHERE WHAT IT READS IS OF BULK AT MOST 1048576: true; the input reads as it did. -/
def fnPackFewUptoRow : OpenClaim := { program := "ytjfhbepnomnalaa", sum := "aba61d4f504fe90ea5817323753ade1119ba14ea613c0a40886b270811ece8b9", func := "loop.example/versioncontrol/laws.FnPackFew", spec := "fnPackFew", recurses := true, apart := false, narrowed := true }
def FnPackFewUptoSaid : Prop := fnPackFewUptoRow.holds Try.pinned (OpenSpec.upto fnPackFewSpec)

/-- 'laws.FnExactPackOf', WHERE WHAT IT READS IS OF BULK AT MOST 1048576: true; the input reads as it did. -/
def fnExactPackOfUptoRow : OpenClaim := { program := "ytjfhbepnomnalaa", sum := "aba61d4f504fe90ea5817323753ade1119ba14ea613c0a40886b270811ece8b9", func := "loop.example/versioncontrol/laws.FnExactPackOf", spec := "fnExactPackOf", apart := false, narrowed := true }
def FnExactPackOfUptoSaid : Prop := fnExactPackOfUptoRow.holds Try.pinned (OpenSpec.upto fnExactPackOfSpec)

/-- 'laws.FnExactPackGet', WHERE WHAT IT READS IS OF BULK AT MOST 1048576: true; the input reads as it did. -/
def fnExactPackGetUptoRow : OpenClaim := { program := "ytjfhbepnomnalaa", sum := "aba61d4f504fe90ea5817323753ade1119ba14ea613c0a40886b270811ece8b9", func := "loop.example/versioncontrol/laws.FnExactPackGet", spec := "fnExactPackGet", recurses := true, apart := false, narrowed := true }
def FnExactPackGetUptoSaid : Prop := fnExactPackGetUptoRow.holds Try.pinned (OpenSpec.upto fnExactPackGetSpec)

/-- 'laws.FnPackOf', WHERE WHAT IT READS IS OF BULK AT MOST 1048576: true; the input reads as it did. -/
def fnPackOfUptoRow : OpenClaim := { program := "ytjfhbepnomnalaa", sum := "aba61d4f504fe90ea5817323753ade1119ba14ea613c0a40886b270811ece8b9", func := "loop.example/versioncontrol/laws.FnPackOf", spec := "fnPackOf", apart := false, narrowed := true }
def FnPackOfUptoSaid : Prop := fnPackOfUptoRow.holds Try.pinned (OpenSpec.upto fnPackOfSpec)

end Rows
end Go.Proofs.Ytjfhbepnomnalaa
