/-
  Walks: a text copied.
-/
import Derived.Test.YthddcfbjgcbioaaGreatDoorBase
import Derived.Test.YthddcfbjgcbioaaGreatDoorVTY
import Derived.Test.YthddcfbjgcbioaaGreatDoorVB
set_option linter.unusedVariables false
namespace Go.Proofs.YthddcfbjgcbioaaGreatDoor
open Go.RowKit Go.Vc
open Go.Vc.Rep (rd)
open Go.Vc.Own (own)
set_option maxHeartbeats 1000000 in
theorem copyText_any {S : Nat → Prop} (v : Value) (xs : List ByteArray) (w : World) (hv : rd S w [v] xs) (hl : xs.length ≤ 1048576) :
    Calls Tryz.prog 49 #[v] w fun e w' => ∃ a c, e = .returned (.slice a xs.length c) ∧ Fresh w.heap.size w'.heap.size w' [.slice a xs.length c] xs ∧ Below w.heap.size w w' := by
  obtain ⟨a, cap, rfl, hs⟩ := rd_slice_elim (Rep.lt hv)
  have hF := (Fresh.empty (β := ByteArray) (by decide) w.heap.size w (Nat.le_refl _))
  go_enter Tryz.func49, Tryz.ntmps49
  go_wp2_with (at_builtin; go_must (refine wpList_app_leaf slz_string.slt rfl (.tmp 3) (.tmp 4) rfl rfl hF (by simp <;> omega) rfl rfl (hs.alloc _) (by simp <;> omega) (by unfold maxLen; simp <;> omega) ?_); intro a4 c4 w4 hG4)
  go_ret
  have h4 := hG4.fresh
  rw [List.nil_append, List.length_nil, Nat.zero_add] at h4
  exact ⟨a4, c4, by simp, h4, ((Below.refl _ _).alloc (Nat.le_refl _) _).trans hG4.below⟩

end Go.Proofs.YthddcfbjgcbioaaGreatDoor
