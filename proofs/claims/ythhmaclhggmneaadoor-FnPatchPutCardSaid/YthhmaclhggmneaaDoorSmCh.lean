/-
  Walks: changes, compared.
-/
import Derived.Test.YthhmaclhggmneaaDoorVSM
import Derived.Test.YthhmaclhggmneaaDoorVP1
set_option linter.unusedVariables false
namespace Go.Proofs.YthhmaclhggmneaaDoor
open Go.RowKit Go.Vc
open Go.Vc.Rep (rd)
open Go.Vc.Own (own)
set_option maxHeartbeats 4000000 in
set_option maxRecDepth 100000 in
theorem smHunks_ch {S T : Nat → Prop} (v u : Value) (xs : List Hunk) (w : World) (hv : rd S w [v] xs) (hu : rd T w [u] xs) :
    Calls Tryd.prog 19 #[v, u] w fun e w' => e = .returned (.bool true) ∧ Below w.heap.size w w' := by
  obtain ⟨a, cap, rfl, hs⟩ := rd_slice_elim (Rep.lt hv)
  obtain ⟨b, cbp, rfl, ht⟩ := rd_slice_elim (Rep.lt hu)
  have hle := hs.le
  go_enter Tryd.func19, Tryd.ntmps19
  go_wp2
  go_loopw [5] (fun i wr => (∃ k : Nat, k ≤ xs.length ∧ i = .int .i64 k) ∧ Below w.heap.size w wr) (fun i _ => xs.length - (intOf i).toNat)
  case atStart => exact ⟨⟨0, by omega, rfl⟩, Below.refl _ _⟩
  case round =>
    obtain ⟨⟨k, hk, rfl⟩, hb⟩ := hrel
    by_cases hlt : k < xs.length
    · obtain ⟨g, off, a1, n1, a2, n2, rfl, hc0, hc1, hc2, hi, hl, hm⟩ := (hs.keep hb).hunk hlt
      obtain ⟨g', off', b1, m1, b2, m2, rfl, hd0, hd1, hd2, _, hl', hm'⟩ := (ht.keep hb).hunk hlt
      obtain ⟨f, hf⟩ : ∃ f, f = xs[k] := ⟨_, rfl⟩
      rw [← hf] at hc0 hc1 hc2 hd0 hd1 hd2 hl hm hl' hm'
      have hc0 := BW.cell hc0
      have hc1 := BW.cell hc1
      have hc2 := BW.cell hc2
      have hd0 := BW.cell hd0
      have hd1 := BW.cell hd1
      have hd2 := BW.cell hd2
      have ee : decide (f.less = f.less) = true := decide_eq_true rfl
      have ef : decide (f.more = f.more) = true := decide_eq_true rfl
      clear hf hi
      go_wp2
      refine wp_region_bw (by kernel_rfl) (by kernel_rfl) ?_
      repeat (go_big_quiet_step ((go_at_call 50; first | exact Calls.bw_drew (smTexts_any _ _ f.less f.less _ (hl.bw _).rd (hl'.bw _).rd) | exact Calls.bw_drew (smTexts_any _ _ f.more f.more _ (hm.bw _).rd (hm'.bw _).rd))))
      refine wpQuiet_nil ?_
      rintro w1 ⟨⟨_, hbw⟩, rfl⟩
      go_wp2
      go_roundw
      case rel => exact ⟨⟨k + 1, by omega, by go_num⟩, hb.trans (hbw.mono hb.size)⟩
      case measure => simp [intOf]; omega
    · go_wp2
      go_ret
      exact ⟨rfl, hb⟩
end Go.Proofs.YthhmaclhggmneaaDoor
