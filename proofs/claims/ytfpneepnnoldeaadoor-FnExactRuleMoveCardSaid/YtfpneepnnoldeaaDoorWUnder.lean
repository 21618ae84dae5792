/-
  Walks: the files at a path.
-/
import Derived.Test.YtfpneepnnoldeaaDoorVR
import Derived.Test.YtfpneepnnoldeaaDoorVPB
import Derived.Test.YtfpneepnnoldeaaDoorVL
import Derived.Test.YtfpneepnnoldeaaDoorWAnc2
set_option linter.unusedVariables false
namespace Go.Proofs.YtfpneepnnoldeaaDoor
open Go.RowKit Go.Vc
open Go.Vc.Rep (rd)
open Go.Vc.Own (own)
set_option maxHeartbeats 1000000 in
theorem isAt_is (p : ByteArray) (tv : Value) (path : ByteArray) (w : World) (hz1 : p.size ≤ maxLen) (hz2 : path.size ≤ 1048576) {b : Bool} (h : isAtB path p = b) :
    Calls Tryd.prog 64 #[.agg #[.string p, tv], .string path] w fun e w' => e = .returned (.bool b) ∧ Below w.heap.size w w' := by
  subst h
  have hB0 : Below w.heap.size w (w.alloc (.cells #[.string p, tv] 45)) := ((Below.refl _ _).alloc (by simp <;> omega) _)
  by_cases he : p = path
  · have H := Lib.hid (show isAtB path p = true by unfold isAtB; rw [decide_eq_true he]; rfl)
    have hd : decide (p = path) = true := decide_eq_true he
    clear he
    go_enter Tryd.func64, Tryd.ntmps64
    go_wp2
    go_ret
    exact ⟨ret_bool H.out.symm, hB0⟩
  · have H := Lib.hid (show isAtB path p = inB path p by unfold isAtB; rw [decide_eq_false he]; rfl)
    have hd : decide (p = path) = false := decide_eq_false he
    clear he
    have hz3 : (path ++ ⟨#[47]⟩ : ByteArray).size ≤ maxLen := by rw [append_size]; unfold maxLen; show path.size + 1 ≤ _; omega
    have hno : ¬ 9223372036854775807 < path.size + 1 := by omega
    cases h3 : inB path p with
    | true =>
      rw [h3] at H
      go_enter Tryd.func64, Tryd.ntmps64
      go_wp2_with fail
      refine (hasPrefix_is _ _ _ hz1 hz3 h3).mono ?_
      rintro e w3 ⟨rfl, rfl⟩
      go_wp2
      go_ret
      exact ⟨ret_bool H.out.symm, hB0⟩
    | false =>
      rw [h3] at H
      go_enter Tryd.func64, Tryd.ntmps64
      go_wp2_with fail
      refine (hasPrefix_is _ _ _ hz1 hz3 h3).mono ?_
      rintro e w3 ⟨rfl, rfl⟩
      go_wp2
      go_ret
      exact ⟨ret_bool H.out.symm, hB0⟩


end Go.Proofs.YtfpneepnnoldeaaDoor
