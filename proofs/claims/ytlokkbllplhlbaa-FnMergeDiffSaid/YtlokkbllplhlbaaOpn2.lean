/-
  A law's argument: bytes.
-/
import Derived.Test.YtlokkbllplhlbaaTypesB
import Derived.Test.YtlokkbllplhlbaaTypes
namespace Go.Proofs.Ytlokkbllplhlbaa
open Go.RowKit Go.Vc
theorem opn_byteS : Opn Try.prog 31 (List UInt8) := opn_slice Try.underlying31 (opn_byte Try.underlying5) (by kernel_rfl) Nat.one_pos
end Go.Proofs.Ytlokkbllplhlbaa
