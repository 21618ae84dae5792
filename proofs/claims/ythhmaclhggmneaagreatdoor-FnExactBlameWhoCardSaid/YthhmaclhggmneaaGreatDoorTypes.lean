/-
  The numbers of the types, and what the program's table says of the slices' types.
-/
import Derived.Test.YthhmaclhggmneaaGreatDoorRows
import Derived.Test.YthhmaclhggmneaaGreatDoorVA
namespace Go.Proofs.YthhmaclhggmneaaGreatDoor
open Go.RowKit Go.Vc
open Go.Vc.Rep (rd)
open Go.Vc.Own (own)

instance : Tid ByteArray := ⟨9⟩
instance : Tid Int := ⟨3⟩
instance : Tid (List ByteArray) := ⟨51⟩

theorem info_string : (Tryz.prog.info? 9).map (fun i => (i.zero, i.size, i.bytes)) = some (some (.string ⟨#[]⟩), 1, 16) := by kernel_rfl
theorem slz_string : SlZ Tryz.prog 51 ByteArray 16 (.string ⟨#[]⟩) := by
  obtain ⟨i, h1, h2, h3, h4⟩ := info_parts info_string
  exact ⟨Tryz.underlying51, ⟨i, h1, h2, h3, h4⟩, fun _ => ⟨rfl, rfl, Nat.zero_le _⟩, Nat.one_pos⟩
theorem i64_zero : I64 0 := by unfold I64; omega
theorem opn_strS : Opn Tryz.prog 51 (List ByteArray) := opn_slice Tryz.underlying51 (opn_str Tryz.underlying9) (by kernel_rfl) Nat.one_pos
end Go.Proofs.YthhmaclhggmneaaGreatDoor
