/-
  The numbers of the types, and what the program's table says of the slices' types. / The number of the bytes' type.
-/
import Derived.Test.YthddcfbjgcbioaaGreatDoorRows
import Derived.Test.YthddcfbjgcbioaaGreatDoorVA
set_option linter.unusedVariables false
namespace Go.Proofs.YthddcfbjgcbioaaGreatDoor
open Go.RowKit Go.Vc
open Go.Vc.Rep (rd)
open Go.Vc.Own (own)

instance : Tid ByteArray := ⟨9⟩
instance : Tid Int := ⟨3⟩
instance : Tid (List ByteArray) := ⟨29⟩

theorem info_string : (Tryz.prog.info? 9).map (fun i => (i.zero, i.size, i.bytes)) = some (some (.string ⟨#[]⟩), 1, 16) := by kernel_rfl
theorem slz_string : SlZ Tryz.prog 29 ByteArray 16 (.string ⟨#[]⟩) := by
  obtain ⟨i, h1, h2, h3, h4⟩ := info_parts info_string
  exact ⟨Tryz.underlying29, ⟨i, h1, h2, h3, h4⟩, fun _ => ⟨rfl, rfl, Nat.zero_le _⟩, Nat.one_pos⟩
theorem i64_zero : I64 0 := by unfold I64; omega
theorem opn_strS : Opn Tryz.prog 29 (List ByteArray) := opn_slice Tryz.underlying29 (opn_str Tryz.underlying9) (by kernel_rfl) Nat.one_pos
end Go.Proofs.YthddcfbjgcbioaaGreatDoor
namespace Go.Proofs.YthddcfbjgcbioaaGreatDoor
open Go.RowKit Go.Vc
instance : Tid UInt8 := ⟨5⟩
end Go.Proofs.YthddcfbjgcbioaaGreatDoor
