/-
  A law's argument: bytes.
-/
import Derived.Test.YtlpfoekbccbhlaaTypesB
import Derived.Test.YtlpfoekbccbhlaaTypes
namespace Go.Proofs.Ytlpfoekbccbhlaa
open Go.RowKit Go.Vc
theorem opn_byteS : Opn Try.prog 22 (List UInt8) := opn_slice Try.underlying22 (opn_byte Try.underlying5) (by kernel_rfl) Nat.one_pos
end Go.Proofs.Ytlpfoekbccbhlaa
