/-
  The numbers of the deltas' types.
-/
import Derived.Test.YtjfhbepnomnalaaTypes
set_option linter.unusedVariables false
namespace Go.Proofs.Ytjfhbepnomnalaa
open Go.RowKit Go.Vc
open Go.Vc.Rep (rd)
open Go.Vc.Own (own)

instance : Tid Delta := ⟨43⟩
theorem info_delta : (Try.prog.info? 43).map (fun i => (i.zero, i.size, i.bytes)) = some (some (.agg #[.int .i64 0, .int .i64 0, .slice none 0 0]), 3, 40) := by kernel_rfl
theorem slz_delta : SlZ Try.prog 25 Delta 40 (.agg #[.int .i64 0, .int .i64 0, .slice none 0 0]) := by
  obtain ⟨i, h1, h2, h3, h4⟩ := info_parts info_delta
  exact ⟨Try.underlying25, ⟨i, h1, h2, h3, h4⟩, fun w => ⟨[_], [_, _], [], [], rfl, rfl, ⟨rfl, rfl, i64_zero⟩, [_], [_], [], [], rfl, rfl, ⟨rfl, rfl, i64_zero⟩, _, [], [], rfl, World.ownsRow_nil _ _ _ _, rfl, trivial, Nat.one_pos⟩, by decide⟩

theorem opn_lawDelta : Opn Try.prog 72 Delta := opn_delta Try.underlying72 (opn_int Try.underlying3) (opn_int Try.underlying3) opn_strS (by kernel_rfl) (by kernel_rfl) (by kernel_rfl) rfl rfl rfl (by kernel_rfl)
theorem opn_lawDeltaS : Opn Try.prog 22 (List Delta) := opn_slice Try.underlying22 opn_lawDelta (by kernel_rfl) (by decide)
end Go.Proofs.Ytjfhbepnomnalaa
