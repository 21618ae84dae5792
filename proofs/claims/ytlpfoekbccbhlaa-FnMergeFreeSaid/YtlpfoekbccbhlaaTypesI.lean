/-
  What the program's table says of []int.
-/
import Derived.Test.YtlpfoekbccbhlaaTypes
set_option linter.unusedVariables false
namespace Go.Proofs.Ytlpfoekbccbhlaa
open Go.RowKit Go.Vc
open Go.Vc.Rep (rd)
open Go.Vc.Own (own)

theorem slz_int : SlZ Try.prog 59 Int 8 (.int .i64 0) := by
  obtain ⟨i, h1, h2, h3, h4⟩ := info_parts (show (Try.prog.info? 3).map (fun i => (i.zero, i.size, i.bytes)) = some (some (.int .i64 0), 1, 8) by kernel_rfl)
  exact ⟨Try.underlying59, ⟨i, h1, h2, h3, h4⟩, fun w => ⟨rfl, rfl, i64_zero⟩, Nat.one_pos⟩
theorem opn_intS : Opn Try.prog 59 (List Int) := opn_slice Try.underlying59 (opn_int Try.underlying3) (by kernel_rfl) Nat.one_pos
end Go.Proofs.Ytlpfoekbccbhlaa
