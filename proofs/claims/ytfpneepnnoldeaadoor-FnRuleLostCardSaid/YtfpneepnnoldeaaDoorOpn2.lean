/-
  A law's argument: bytes.
-/
import Derived.Test.YtfpneepnnoldeaaDoorTypesB
import Derived.Test.YtfpneepnnoldeaaDoorTypes
namespace Go.Proofs.YtfpneepnnoldeaaDoor
open Go.RowKit Go.Vc
theorem opn_byteS : Opn Tryd.prog 22 (List UInt8) := opn_slice Tryd.underlying22 (opn_byte Tryd.underlying5) (by kernel_rfl) Nat.one_pos
end Go.Proofs.YtfpneepnnoldeaaDoor
