/-
  Two closed facts on the program.
-/
import Derived.Test.YthddcfbjgcbioaaGreatDoorRows
import Derived.ProofKit
namespace Go.Proofs.YthddcfbjgcbioaaGreatDoor
theorem own : ownKnob Tryz.prog.godebug = none := by kernel_rfl
theorem laid : laidOutB Tryz.prog = true := by kernel_rfl
end Go.Proofs.YthddcfbjgcbioaaGreatDoor
