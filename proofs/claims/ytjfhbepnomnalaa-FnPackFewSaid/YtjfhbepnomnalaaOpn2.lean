/-
  A law's argument: bytes.
-/
import Derived.Test.YtjfhbepnomnalaaTypesB
import Derived.Test.YtjfhbepnomnalaaTypes
namespace Go.Proofs.Ytjfhbepnomnalaa
open Go.RowKit Go.Vc
theorem opn_byteS : Opn Try.prog 38 (List UInt8) := opn_slice Try.underlying38 (opn_byte Try.underlying5) (by kernel_rfl) Nat.one_pos
end Go.Proofs.Ytjfhbepnomnalaa
