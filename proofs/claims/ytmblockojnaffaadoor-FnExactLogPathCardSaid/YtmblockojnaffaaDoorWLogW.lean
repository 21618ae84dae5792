/-
  Walks: ancestors by somebody.
-/
import Derived.Test.YtmblockojnaffaaDoorWLog
import Derived.Test.YtmblockojnaffaaDoorPlPath
import Derived.Test.YtmblockojnaffaaDoorVM
set_option linter.unusedVariables false
namespace Go.Proofs.YtmblockojnaffaaDoor
open Go.RowKit Go.Vc
open Go.Vc.Rep (rd)
open Go.Vc.Own (own)
set_option maxHeartbeats 4000000 in
set_option maxRecDepth 100000 in
theorem logWho1_is {S : Nat → Prop} (v0 : Value) (cs : List Commit) (b0 b1 : Nat) (who : ByteArray) (i : Int) (w : World) (h0 : rd S w [v0] cs) (q0 : w.cell? ⟨b0, 0, none⟩ = some v0) (q1 : w.cell? ⟨b1, 0, none⟩ = some (.string who)) (hi : 0 ≤ i) (hl : i < (cs.length : Int)) :
    Calls Tryd.prog 70 #[.int .i64 i, .pointer (some ⟨b0, 0, none⟩), .pointer (some ⟨b1, 0, none⟩)] w fun e w' => e = .returned (.bool (whoB cs who i)) ∧ Below w.heap.size w w' := by
  obtain ⟨a, cap, rfl, hs⟩ := rd_slice_elim (Rep.lt h0)
  obtain ⟨k, rfl⟩ : ∃ k : Nat, i = (k : Int) := ⟨i.toNat, by omega⟩
  have hk : k < cs.length := by omega
  obtain ⟨g, off, ap, np, at_, nt, rfl, hc0, hc1, hc2, hpar, hz1, htr⟩ := hs.commit hk
  have HW : Hid (whoB cs who (k : Int) = decide (cs[k].who = who)) := by show _ = _; unfold whoB; rw [Int.toNat_natCast, getD_com hk]
  have r0 := BW.cell q0
  have r1 := BW.cell q1
  have rc := BW.cell hc1
  clear hc0 hc2 hpar htr
  go_enter Tryd.func70, Tryd.ntmps70
  go_wp2
  refine wp_region_bw (by kernel_rfl) (by kernel_rfl) ?_
  repeat (go_big_quiet_step (fail))
  refine wpQuiet_nil ?_
  rintro w1 ⟨⟨_, hbw⟩, rfl⟩
  go_wp2
  go_ret
  exact ⟨ret_bool HW.out.symm, hbw⟩
end Go.Proofs.YtmblockojnaffaaDoor
