/-
  A struct's value out of its cells. No program is in sight here. / A law's argument: bytes.
-/
import Derived.Test.YtegknjcifmenpaaDoorVF
import Derived.Test.YtegknjcifmenpaaDoorVTY
set_option linter.unusedVariables false
namespace Go.Vc
open Go.RowKit
theorem agg_of_cells {v : Value} {l : List Value} (h : v.cells.toList = l) (hl : l.length ≠ 1) : v = .agg l.toArray := by
  subst h
  cases v with
  | agg cs => rfl
  | _ => exact absurd rfl hl
end Go.Vc
namespace Go.Proofs.YtegknjcifmenpaaDoor
open Go.RowKit Go.Vc
theorem opn_byteS : Opn Tryd.prog 22 (List UInt8) := opn_slice Tryd.underlying22 (opn_byte Tryd.underlying5) (by kernel_rfl) Nat.one_pos
end Go.Proofs.YtegknjcifmenpaaDoor
