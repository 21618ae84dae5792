/-
  Walks: lists of what is lost, compared.
-/
import Derived.Test.YtfpneepnnoldeaaDoorLost0
import Derived.Test.YtfpneepnnoldeaaDoorVSM
set_option linter.unusedVariables false
namespace Go.Proofs.YtfpneepnnoldeaaDoor
open Go.RowKit Go.Vc
open Go.Vc.Rep (rd)
open Go.Vc.Own (own)
set_option maxHeartbeats 2000000 in
set_option maxRecDepth 100000 in
theorem smLost_same {S T : Nat → Prop} (v u : Value) (xs : List Lost) (w : World) (hv : rd S w [v] xs) (hu : rd T w [u] xs) :
    Calls Tryd.prog 49 #[v, u] w fun e w' => e = .returned (.bool true) ∧ Below w.heap.size w w' := by
  obtain ⟨a, cap, rfl, hs⟩ := rd_slice_elim (Rep.lt hv)
  obtain ⟨b, cbp, rfl, ht⟩ := rd_slice_elim (Rep.lt hu)
  have hle := hs.le
  go_enter Tryd.func49, Tryd.ntmps49
  go_wp2
  go_loopw [5] (fun i wr => (∃ k : Nat, k ≤ xs.length ∧ i = .int .i64 k) ∧ Below w.heap.size w wr) (fun i _ => xs.length - (intOf i).toNat)
  case atStart => exact ⟨⟨0, by omega, rfl⟩, Below.refl _ _⟩
  case round =>
    obtain ⟨⟨k, hk, rfl⟩, hb⟩ := hrel
    by_cases hlt : k < xs.length
    · obtain ⟨g, off, rfl, hc0, hc1, hc2, hz0, hz1, hz2⟩ := (hs.keep hb).lost hlt
      obtain ⟨g', off', rfl, hc0', hc1', hc2', _, _, _⟩ := (ht.keep hb).lost hlt
      obtain ⟨f, hf⟩ : ∃ f, f = xs[k] := ⟨_, rfl⟩
      rw [← hf] at hc0 hc1 hc2 hc0' hc1' hc2'
      have hc0 := BW.cell hc0
      have hc1 := BW.cell hc1
      have hc2 := BW.cell hc2
      have hc0' := BW.cell hc0'
      have hc1' := BW.cell hc1'
      have hc2' := BW.cell hc2'
      clear hf
      go_wp2
      refine wp_region_bw (by kernel_rfl) (by kernel_rfl) ?_
      repeat (go_big_quiet_step (fail))
      refine wpQuiet_nil ?_
      rintro w1 ⟨⟨_, hbw⟩, rfl⟩
      go_wp2
      go_roundw
      case rel => exact ⟨⟨k + 1, by omega, by go_num⟩, hb.trans (hbw.mono hb.size)⟩
      case measure => simp [intOf]; omega
    · go_wp2
      go_ret
      exact ⟨rfl, hb⟩
end Go.Proofs.YtfpneepnnoldeaaDoor
