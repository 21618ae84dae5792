/-
  The numbers of the types, and what the program's table says of the slices' types.
-/
import Derived.Test.YtjfhbepnomnalaaRows
import Derived.Test.YtjfhbepnomnalaaOpen
namespace Go.Proofs.Ytjfhbepnomnalaa
open Go.RowKit Go.Vc
open Go.Vc.Rep (rd)
open Go.Vc.Own (own)

instance : Tid ByteArray := ⟨9⟩
instance : Tid Int := ⟨3⟩
instance : Tid UInt8 := ⟨5⟩
instance : Tid (List ByteArray) := ⟨29⟩
instance : Tid Delta := ⟨43⟩

theorem info_string : (Try.prog.info? 9).map (fun i => (i.zero, i.size, i.bytes)) = some (some (.string ⟨#[]⟩), 1, 16) := by kernel_rfl
theorem slz_string : SlZ Try.prog 29 ByteArray 16 (.string ⟨#[]⟩) := by
  obtain ⟨i, h1, h2, h3, h4⟩ := info_parts info_string
  exact ⟨Try.underlying29, ⟨i, h1, h2, h3, h4⟩, fun _ => ⟨rfl, rfl, Nat.zero_le _⟩, Nat.one_pos⟩
theorem info_delta : (Try.prog.info? 43).map (fun i => (i.zero, i.size, i.bytes)) = some (some (.agg #[.int .i64 0, .int .i64 0, .slice none 0 0]), 3, 40) := by kernel_rfl
theorem i64_zero : I64 0 := by unfold I64; omega
theorem slz_delta : SlZ Try.prog 25 Delta 40 (.agg #[.int .i64 0, .int .i64 0, .slice none 0 0]) := by
  obtain ⟨i, h1, h2, h3, h4⟩ := info_parts info_delta
  exact ⟨Try.underlying25, ⟨i, h1, h2, h3, h4⟩, fun w => ⟨[_], [_, _], [], [], rfl, rfl, ⟨rfl, rfl, i64_zero⟩, [_], [_], [], [], rfl, rfl, ⟨rfl, rfl, i64_zero⟩, _, [], [], rfl, World.ownsRow_nil _ _ _ _, rfl, trivial, Nat.one_pos⟩, by decide⟩

theorem opn_strS : Opn Try.prog 29 (List ByteArray) := opn_slice Try.underlying29 (opn_str Try.underlying9) (by kernel_rfl) Nat.one_pos
theorem opn_lawDelta : Opn Try.prog 72 Delta := opn_delta Try.underlying72 (opn_int Try.underlying3) (opn_int Try.underlying3) opn_strS (by kernel_rfl) (by kernel_rfl) (by kernel_rfl) rfl rfl rfl (by kernel_rfl)
theorem opn_lawDeltaS : Opn Try.prog 22 (List Delta) := opn_slice Try.underlying22 opn_lawDelta (by kernel_rfl) (by decide)
end Go.Proofs.Ytjfhbepnomnalaa
