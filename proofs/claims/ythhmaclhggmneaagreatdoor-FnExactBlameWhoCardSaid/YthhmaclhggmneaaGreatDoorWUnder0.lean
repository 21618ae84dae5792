/-
  A file's row. No program is in sight here.
-/
import Derived.Test.YthhmaclhggmneaaGreatDoorRaw
import Derived.Test.YthhmaclhggmneaaGreatDoorVC
set_option linter.unusedVariables false
namespace Go.Vc
open Go.RowKit
open Rep (rd)
open Own (own)
theorem rd_file_mk {S : Nat → Prop} {w : World} {f : File} {a1 : Option Addr} {c1 : Nat} (h : f.path.size ≤ maxLen) (hs : IsSlice S w a1 c1 f.text) : rd S w [.string f.path, .slice a1 f.text.length c1] f := ⟨[_], [_], rfl, ⟨rfl, h⟩, hs.rd⟩
theorem one_cells2 (s : ByteArray) (a : Option Addr) (n c : Nat) : ∀ u ∈ [Value.string s, .slice a n c], u.oneCell' = true := by
  intro u hu
  simp at hu
  rcases hu with rfl | rfl <;> rfl
end Go.Vc
