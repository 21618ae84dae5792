/-
  The numbers of the types, and what the program's table says of the slices' types.
-/
import Derived.Test.YtjfhbepnomnalaaRows
import Derived.Test.YtjfhbepnomnalaaOpen
namespace Go.Proofs.Ytjfhbepnomnalaa
open Go.RowKit Go.Vc
open Go.Vc.Rep (rd)
open Go.Vc.Own (own)

instance : Tid ByteArray := ⟨9⟩
instance : Tid Int := ⟨3⟩
instance : Tid (List ByteArray) := ⟨29⟩

theorem info_string : (Try.prog.info? 9).map (fun i => (i.zero, i.size, i.bytes)) = some (some (.string ⟨#[]⟩), 1, 16) := by kernel_rfl
theorem slz_string : SlZ Try.prog 29 ByteArray 16 (.string ⟨#[]⟩) := by
  obtain ⟨i, h1, h2, h3, h4⟩ := info_parts info_string
  exact ⟨Try.underlying29, ⟨i, h1, h2, h3, h4⟩, fun _ => ⟨rfl, rfl, Nat.zero_le _⟩, Nat.one_pos⟩
theorem i64_zero : I64 0 := by unfold I64; omega
theorem opn_strS : Opn Try.prog 29 (List ByteArray) := opn_slice Try.underlying29 (opn_str Try.underlying9) (by kernel_rfl) Nat.one_pos
end Go.Proofs.Ytjfhbepnomnalaa
