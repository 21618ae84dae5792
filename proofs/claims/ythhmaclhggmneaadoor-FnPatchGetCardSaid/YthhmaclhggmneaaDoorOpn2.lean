/-
  A law's argument: bytes.
-/
import Derived.Test.YthhmaclhggmneaaDoorVTY
namespace Go.Proofs.YthhmaclhggmneaaDoor
open Go.RowKit Go.Vc
theorem opn_byteS : Opn Tryd.prog 36 (List UInt8) := opn_slice Tryd.underlying36 (opn_byte Tryd.underlying5) (by kernel_rfl) Nat.one_pos
end Go.Proofs.YthhmaclhggmneaaDoor
