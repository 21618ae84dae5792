/-
  The numbers of the types, and what the program's table says of the slices' types. / The number of the bytes' type.
-/
import Derived.Test.YthhmaclhggmneaaDoorRows
import Derived.Test.YthhmaclhggmneaaDoorVA
set_option linter.unusedVariables false
namespace Go.Proofs.YthhmaclhggmneaaDoor
open Go.RowKit Go.Vc
open Go.Vc.Rep (rd)
open Go.Vc.Own (own)

instance : Tid ByteArray := ⟨9⟩
instance : Tid Int := ⟨3⟩
instance : Tid (List ByteArray) := ⟨69⟩

theorem info_string : (Tryd.prog.info? 9).map (fun i => (i.zero, i.size, i.bytes)) = some (some (.string ⟨#[]⟩), 1, 16) := by kernel_rfl
theorem slz_string : SlZ Tryd.prog 69 ByteArray 16 (.string ⟨#[]⟩) := by
  obtain ⟨i, h1, h2, h3, h4⟩ := info_parts info_string
  exact ⟨Tryd.underlying69, ⟨i, h1, h2, h3, h4⟩, fun _ => ⟨rfl, rfl, Nat.zero_le _⟩, Nat.one_pos⟩
theorem i64_zero : I64 0 := by unfold I64; omega
theorem opn_strS : Opn Tryd.prog 69 (List ByteArray) := opn_slice Tryd.underlying69 (opn_str Tryd.underlying9) (by kernel_rfl) Nat.one_pos
end Go.Proofs.YthhmaclhggmneaaDoor
namespace Go.Proofs.YthhmaclhggmneaaDoor
open Go.RowKit Go.Vc
instance : Tid UInt8 := ⟨5⟩
end Go.Proofs.YthhmaclhggmneaaDoor
