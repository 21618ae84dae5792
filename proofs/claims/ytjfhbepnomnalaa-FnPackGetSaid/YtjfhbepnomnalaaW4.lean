/-
  Walks: whether deltas are ok.
-/
import Derived.Test.YtjfhbepnomnalaaW3
import Derived.Test.YtjfhbepnomnalaaPlain2
namespace Go.Proofs.Ytjfhbepnomnalaa
open Go.RowKit Go.Vc
open Go.Vc.Rep (rd)
open Go.Vc.Own (own)

set_option maxHeartbeats 1000000 in
theorem deltaOk_any {S : Nat → Prop} (v : Value) (xs : List Delta) (w : World) (hv : rd S w [v] xs) :
    Calls Try.prog 18 #[v] w fun e w' => e = .returned (.bool (deltaB xs)) ∧ Below w.heap.size w w' := by
  obtain ⟨a, cap, rfl, hs⟩ := rd_slice_elim (Rep.lt hv)
  have hle := hs.le
  by_cases h10 : 10 < xs.length
  · go_enter Try.func18, Try.ntmps18
    go_wp2
    go_ret
    exact ⟨ret_bool (by simp [deltaB]; omega), Below.refl _ _⟩
  · go_enter Try.func18, Try.ntmps18
    go_wp2
    go_loopw [10] (fun i wr => (∃ k : Nat, k ≤ xs.length ∧ i = .int .i64 k ∧ Hid (xs.all pieceB = (xs.drop k).all pieceB)) ∧ Below w.heap.size w wr) (fun i _ => xs.length - (intOf i).toNat)
    case atStart => exact ⟨⟨0, by omega, rfl, rfl⟩, Below.refl _ _⟩
    case round =>
      obtain ⟨⟨k, hk, rfl, HA⟩, hb⟩ := hrel
      have hsize := hb.size
      by_cases hlt : k < xs.length
      · obtain ⟨g, off, b, n, rfl, hc0, hc1, hc2, hi1, hi2, hl⟩ := (hs.keep hb).delta hlt
        have hll := hl.le
        by_cases hL : 0 < xs[k].lines.length
        · by_cases h1 : xs[k].fr = 0
          · have h1' : (xs[k].fr != 0) = false := by simp [h1]
            by_cases h2 : xs[k].many = 0
            · have h2' : (xs[k].many != 0) = false := by simp [h2]
              have HP := Lib.hid (piece1 hL h1 h2)
              clear h1 h2
              go_wp2_with (go_at_call 33; refine (textOk_any _ _ _ (hl.alloc _).rd).mono ?_; rintro e w' ⟨rfl, rfl⟩)
              · go_ret
                exact ⟨ret_bool (by rw [deltaB, all_bad HA.out hlt (by rw [HP.out]; exact bnot_t (by assumption)), Bool.and_false]), hb.alloc hsize _⟩
              · go_roundw
                case rel => exact ⟨⟨k + 1, by omega, by go_num, all_next HA.out hlt (by rw [HP.out]; exact bnot_f (by assumption))⟩, hb.alloc hsize _⟩
                case measure => simp [intOf]; omega
            · have h2' : (xs[k].many != 0) = true := by simp [h2]
              have HP := Lib.hid (piece1b hL h2)
              clear h1 h2
              go_wp2
              go_ret
              exact ⟨ret_bool (by rw [deltaB, all_bad HA.out hlt HP.out, Bool.and_false]), hb.alloc hsize _⟩
          · have h1' : (xs[k].fr != 0) = true := by simp [h1]
            have HP := Lib.hid (piece1a hL h1)
            clear h1
            go_wp2
            go_ret
            exact ⟨ret_bool (by rw [deltaB, all_bad HA.out hlt HP.out, Bool.and_false]), hb.alloc hsize _⟩
        · have HP := Lib.hid (piece2 hL)
          cases h1 : withinB xs[k].fr 0 10 with
          | false =>
            go_wp2_with (go_at_call 60; refine (within_any _ _ _ _).mono ?_; rintro e w' ⟨rfl, rfl⟩)
            go_ret
            exact ⟨ret_bool (by rw [deltaB, all_bad HA.out hlt (by rw [HP.out, h1]; rfl), Bool.and_false]), hb.alloc hsize _⟩
          | true =>
            have hw := (withinB_iff _ _ _).1 h1
            cases h2 : withinB xs[k].many 1 (10 - xs[k].fr) with
            | false =>
              go_wp2_with (go_at_call 60; refine (within_any _ _ _ _).mono ?_; rintro e w' ⟨rfl, rfl⟩)
              go_ret
              exact ⟨ret_bool (by rw [deltaB, all_bad HA.out hlt (by rw [HP.out, h1, h2]; rfl), Bool.and_false]), hb.alloc hsize _⟩
            | true =>
              go_wp2_with (go_at_call 60; refine (within_any _ _ _ _).mono ?_; rintro e w' ⟨rfl, rfl⟩)
              go_roundw
              case rel => exact ⟨⟨k + 1, by omega, by go_num, all_next HA.out hlt (by rw [HP.out, h1, h2]; rfl)⟩, hb.alloc hsize _⟩
              case measure => simp [intOf]; omega
      · go_wp2
        go_ret
        exact ⟨ret_bool (by rw [deltaB, all_end HA.out hlt]; simp; omega), hb⟩

theorem piece_bad {d : Delta} (h : ¬ ((0 ≤ d.fr ∧ d.fr ≤ 10) ∧ (0 ≤ d.many ∧ d.many ≤ 10 - d.fr) ∧ textB d.lines = true ∧ (0 < d.many ↔ ¬ 0 < d.lines.length) ∧ (d.many = 0 → d.fr = 0))) : pieceB d = false := by
  rw [← Bool.not_eq_true, piece_iff]; exact h

set_option maxHeartbeats 2000000 in
theorem l13Ok_any {S : Nat → Prop} (v : Value) (xs : List Delta) (w : World) (hv : rd S w [v] xs) :
    Calls Try.prog 58 #[v] w fun e w' => e = .returned (.bool (deltaB xs)) ∧ Below w.heap.size w w' := by
  obtain ⟨a, cap, rfl, hs⟩ := rd_slice_elim (Rep.lt hv)
  have hle := hs.le
  go_enter Try.func58, Try.ntmps58
  go_wp2
  go_loopw [3] (fun i wr => (∃ k : Nat, k ≤ xs.length ∧ i = .int .i64 k ∧ Hid (xs.all pieceB = (xs.drop k).all pieceB)) ∧ Below w.heap.size w wr) (fun i _ => xs.length - (intOf i).toNat)
  case atStart => exact ⟨⟨0, by omega, rfl, rfl⟩, Below.refl _ _⟩
  case round =>
    obtain ⟨⟨k, hk, rfl, HA⟩, hb⟩ := hrel
    by_cases hlt : k < xs.length
    · obtain ⟨g, off, b, n, rfl, hc0, hc1, hc2, hi1, hi2, hl⟩ := (hs.keep hb).delta hlt
      have hll := hl.le
      have hc0 := BW.cell hc0
      have hc1 := BW.cell hc1
      have hc2 := BW.cell hc2
      cases h1 : withinB xs[k].fr 0 10 with
      | false =>
        have HP := Lib.hid (piece_bad fun h => (withinB_not _ _ _).1 h1 h.1)
        go_wp2
        refine wp_region_bw (by kernel_rfl) (by kernel_rfl) ?_
        repeat (go_big_quiet_step ((go_at_call 80; exact Calls.bw_same (l1In_any _ _ _ _))))
        refine wpQuiet_nil ?_
        rintro w1 ⟨⟨_, hbw⟩, rfl⟩
        go_wp2
        go_ret
        exact ⟨ret_bool (by rw [deltaB, all_bad HA.out hlt HP.out, Bool.and_false]), hb.trans (hbw.mono hb.size)⟩
      | true =>
        have hw := (withinB_iff _ _ _).1 h1
        cases h2 : withinB xs[k].many 0 (10 - xs[k].fr) with
        | false =>
          have HP := Lib.hid (piece_bad fun h => (withinB_not _ _ _).1 h2 h.2.1)
          go_wp2
          refine wp_region_bw (by kernel_rfl) (by kernel_rfl) ?_
          repeat (go_big_quiet_step ((go_at_call 80; exact Calls.bw_same (l1In_any _ _ _ _))))
          refine wpQuiet_nil ?_
          rintro w1 ⟨⟨_, hbw⟩, rfl⟩
          go_wp2
          go_ret
          exact ⟨ret_bool (by rw [deltaB, all_bad HA.out hlt HP.out, Bool.and_false]), hb.trans (hbw.mono hb.size)⟩
        | true =>
          have hw2 := (withinB_iff _ _ _).1 h2
          cases h3 : textB xs[k].lines with
          | false =>
            have HP := Lib.hid (piece_bad fun h => by rw [h3] at h; exact absurd h.2.2.1 (by simp))
            go_wp2
            refine wp_region_bw (by kernel_rfl) (by kernel_rfl) ?_
            repeat (go_big_quiet_step ((first | (go_at_call 80; exact Calls.bw_same (l1In_any _ _ _ _)) | (go_at_call 62; exact Calls.bw_same (l1Ok_any _ _ _ (hl.bw _).rd)))))
            refine wpQuiet_nil ?_
            rintro w1 ⟨⟨_, hbw⟩, rfl⟩
            go_wp2
            go_ret
            exact ⟨ret_bool (by rw [deltaB, all_bad HA.out hlt HP.out, Bool.and_false]), hb.trans (hbw.mono hb.size)⟩
          | true =>
            by_cases h4 : 0 < xs[k].many
            · have h4' : decide (0 < xs[k].many) = true := decide_eq_true h4
              have h5 : (xs[k].many == 0) = false := by simp; omega
              by_cases hL : 0 < xs[k].lines.length
              · have hL' : decide (0 < xs[k].lines.length) = true := decide_eq_true hL
                have HP := Lib.hid (piece_bad fun h => (h.2.2.2.1.1 h4) hL)
                go_wp2
                refine wp_region_bw (by kernel_rfl) (by kernel_rfl) ?_
                repeat (go_big_quiet_step ((first | (go_at_call 80; exact Calls.bw_same (l1In_any _ _ _ _)) | (go_at_call 62; exact Calls.bw_same (l1Ok_any _ _ _ (hl.bw _).rd)))))
                refine wpQuiet_nil ?_
                rintro w1 ⟨⟨_, hbw⟩, rfl⟩
                go_wp2
                have hc0 := BW.next hc0 hbw
                have hc1 := BW.next hc1 hbw
                have hc2 := BW.next hc2 hbw
                have hb := hb.trans (hbw.mono hb.size)
                clear hbw
                refine wp_region_bw (by kernel_rfl) (by kernel_rfl) ?_
                repeat (go_big_quiet_step (fail))
                refine wpQuiet_nil ?_
                rintro w1 ⟨⟨_, hbw⟩, rfl⟩
                go_wp2
                go_ret
                exact ⟨ret_bool (by rw [deltaB, all_bad HA.out hlt HP.out, Bool.and_false]), hb.trans (hbw.mono hb.size)⟩
              · have hL' : decide (0 < xs[k].lines.length) = false := decide_eq_false hL
                have HP := Lib.hid ((piece_iff _).2 ⟨hw, hw2, h3, ⟨fun _ => hL, fun _ => h4⟩, fun h => by omega⟩)
                go_wp2
                refine wp_region_bw (by kernel_rfl) (by kernel_rfl) ?_
                repeat (go_big_quiet_step ((first | (go_at_call 80; exact Calls.bw_same (l1In_any _ _ _ _)) | (go_at_call 62; exact Calls.bw_same (l1Ok_any _ _ _ (hl.bw _).rd)))))
                refine wpQuiet_nil ?_
                rintro w1 ⟨⟨_, hbw⟩, rfl⟩
                go_wp2
                have hc0 := BW.next hc0 hbw
                have hc1 := BW.next hc1 hbw
                have hc2 := BW.next hc2 hbw
                have hb := hb.trans (hbw.mono hb.size)
                clear hbw
                refine wp_region_bw (by kernel_rfl) (by kernel_rfl) ?_
                repeat (go_big_quiet_step (fail))
                refine wpQuiet_nil ?_
                rintro w1 ⟨⟨_, hbw⟩, rfl⟩
                go_wp2
                go_roundw
                case rel => exact ⟨⟨k + 1, by omega, by go_num, all_next HA.out hlt HP.out⟩, hb.trans (hbw.mono hb.size)⟩
                case measure => simp [intOf]; omega
            · have h4' : decide (0 < xs[k].many) = false := decide_eq_false h4
              have h5 : (xs[k].many == 0) = true := by simp; omega
              by_cases hL : 0 < xs[k].lines.length
              · have hL' : decide (0 < xs[k].lines.length) = true := decide_eq_true hL
                by_cases h6 : xs[k].fr = 0
                · have h6' : (xs[k].fr != 0) = false := by simp [h6]
                  have HP := Lib.hid ((piece_iff _).2 ⟨hw, hw2, h3, ⟨fun h => absurd h h4, fun h => absurd hL h⟩, fun _ => h6⟩)
                  clear h6
                  go_wp2
                  refine wp_region_bw (by kernel_rfl) (by kernel_rfl) ?_
                  repeat (go_big_quiet_step ((first | (go_at_call 80; exact Calls.bw_same (l1In_any _ _ _ _)) | (go_at_call 62; exact Calls.bw_same (l1Ok_any _ _ _ (hl.bw _).rd)))))
                  refine wpQuiet_nil ?_
                  rintro w1 ⟨⟨_, hbw⟩, rfl⟩
                  go_wp2
                  have hc0 := BW.next hc0 hbw
                  have hc1 := BW.next hc1 hbw
                  have hc2 := BW.next hc2 hbw
                  have hb := hb.trans (hbw.mono hb.size)
                  clear hbw
                  refine wp_region_bw (by kernel_rfl) (by kernel_rfl) ?_
                  repeat (go_big_quiet_step (fail))
                  refine wpQuiet_nil ?_
                  rintro w1 ⟨⟨_, hbw⟩, rfl⟩
                  go_wp2
                  go_roundw
                  case rel => exact ⟨⟨k + 1, by omega, by go_num, all_next HA.out hlt HP.out⟩, hb.trans (hbw.mono hb.size)⟩
                  case measure => simp [intOf]; omega
                · have h6' : (xs[k].fr != 0) = true := by simp [h6]
                  have HP := Lib.hid (piece_bad fun h => h6 (h.2.2.2.2 (by omega)))
                  clear h6
                  go_wp2
                  refine wp_region_bw (by kernel_rfl) (by kernel_rfl) ?_
                  repeat (go_big_quiet_step ((first | (go_at_call 80; exact Calls.bw_same (l1In_any _ _ _ _)) | (go_at_call 62; exact Calls.bw_same (l1Ok_any _ _ _ (hl.bw _).rd)))))
                  refine wpQuiet_nil ?_
                  rintro w1 ⟨⟨_, hbw⟩, rfl⟩
                  go_wp2
                  have hc0 := BW.next hc0 hbw
                  have hc1 := BW.next hc1 hbw
                  have hc2 := BW.next hc2 hbw
                  have hb := hb.trans (hbw.mono hb.size)
                  clear hbw
                  refine wp_region_bw (by kernel_rfl) (by kernel_rfl) ?_
                  repeat (go_big_quiet_step (fail))
                  refine wpQuiet_nil ?_
                  rintro w1 ⟨⟨_, hbw⟩, rfl⟩
                  go_wp2
                  go_ret
                  exact ⟨ret_bool (by rw [deltaB, all_bad HA.out hlt HP.out, Bool.and_false]), hb.trans (hbw.mono hb.size)⟩
              · have hL' : decide (0 < xs[k].lines.length) = false := decide_eq_false hL
                have HP := Lib.hid (piece_bad fun h => h4 (h.2.2.2.1.2 hL))
                go_wp2
                refine wp_region_bw (by kernel_rfl) (by kernel_rfl) ?_
                repeat (go_big_quiet_step ((first | (go_at_call 80; exact Calls.bw_same (l1In_any _ _ _ _)) | (go_at_call 62; exact Calls.bw_same (l1Ok_any _ _ _ (hl.bw _).rd)))))
                refine wpQuiet_nil ?_
                rintro w1 ⟨⟨_, hbw⟩, rfl⟩
                go_wp2
                have hc0 := BW.next hc0 hbw
                have hc1 := BW.next hc1 hbw
                have hc2 := BW.next hc2 hbw
                have hb := hb.trans (hbw.mono hb.size)
                clear hbw
                refine wp_region_bw (by kernel_rfl) (by kernel_rfl) ?_
                repeat (go_big_quiet_step (fail))
                refine wpQuiet_nil ?_
                rintro w1 ⟨⟨_, hbw⟩, rfl⟩
                go_wp2
                go_ret
                exact ⟨ret_bool (by rw [deltaB, all_bad HA.out hlt HP.out, Bool.and_false]), hb.trans (hbw.mono hb.size)⟩
    · go_wp2
      go_ret
      exact ⟨ret_bool (by rw [deltaB, all_end HA.out hlt]; simp; omega), hb⟩
end Go.Proofs.Ytjfhbepnomnalaa
