/-
  A law's argument: bytes.
-/
import Derived.Test.YtajajidmncoliaaDoorTypesB
import Derived.Test.YtajajidmncoliaaDoorTypes
namespace Go.Proofs.YtajajidmncoliaaDoor
open Go.RowKit Go.Vc
theorem opn_byteS : Opn Tryd.prog 22 (List UInt8) := opn_slice Tryd.underlying22 (opn_byte Tryd.underlying5) (by kernel_rfl) Nat.one_pos
end Go.Proofs.YtajajidmncoliaaDoor
