/-
  Walks: whether a commit changes something at a path.
-/
import Derived.Test.YthhmaclhggmneaaGreatDoorWUnder
import Derived.Test.YthhmaclhggmneaaGreatDoorWSameT
import Derived.Deep.RegionHeld3
set_option linter.unusedVariables false
namespace Go.Proofs.YthhmaclhggmneaaGreatDoor
open Go.RowKit Go.Vc
open Go.Vc.Rep (rd)
open Go.Vc.Own (own)

set_option maxHeartbeats 1000000 in
theorem tree_any {S : Nat → Prop} (v0 v1 : Value) (cs : List Commit) (i : Int) (w : World) (h0 : rd S w [v0] cs) (hi : 0 ≤ i) (hl : i < (cs.length : Int)) :
    Calls Tryz.prog 54 #[.agg #[v0, v1], .int .i64 i] w fun e w' => ∃ v', e = .returned v' ∧ rd (fun b => b < w.heap.size) w' [v'] (treeAtC cs i) ∧ Below w.heap.size w w' := by
  obtain ⟨a, cap, rfl, hs⟩ := rd_slice_elim (Rep.lt h0)
  obtain ⟨k, rfl⟩ : ∃ k : Nat, i = (k : Int) := ⟨i.toNat, by omega⟩
  have hk : k < cs.length := by omega
  have hB0 : Below w.heap.size w (w.alloc (.cells #[.slice a cs.length cap, v1] 32)) := ((Below.refl _ _).alloc (by simp <;> omega) _)
  obtain ⟨g, off, ap, np, at_, nt, rfl, hc0, hc1, hc2, hpar, hz1, htr⟩ := hs.commit hk
  have HT : Hid (treeAtC cs (k : Int) = cs[k].tree) := by show _ = _; unfold treeAtC; rw [Int.toNat_natCast, getD_com hk]
  have hc2 := keepc hc2 hB0
  have hnn : decide ((k : Int) < 0) = false := decide_eq_false (by omega)
  go_enter Tryz.func54, Tryz.ntmps54
  go_wp2
  go_ret
  exact ⟨_, rfl, by rw [HT.out]; exact (htr.keep hB0).rd, hB0⟩

end Go.Proofs.YthhmaclhggmneaaGreatDoor
