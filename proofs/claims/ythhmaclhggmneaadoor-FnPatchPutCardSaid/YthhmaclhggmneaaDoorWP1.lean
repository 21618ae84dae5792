/-
  Walks: whether there is a patch.
-/
import Derived.Test.YthhmaclhggmneaaDoorVI
import Derived.Test.YthhmaclhggmneaaDoorVPM
set_option linter.unusedVariables false
namespace Go.Proofs.YthhmaclhggmneaaDoor
open Go.RowKit Go.Vc
open Go.Vc.Rep (rd)
open Go.Vc.Own (own)

set_option maxHeartbeats 1000000 in
theorem hunkEnd_any (h : Hunk) (v2 : Value) {a1 : Option Addr} {c1 : Nat} (w : World) (hl : h.less.length ≤ 1000000) (hat : -1000000 ≤ h.at_ ∧ h.at_ ≤ 1000000) :
    Calls Tryd.prog 47 #[.agg #[.int .i64 h.at_, .slice a1 h.less.length c1, v2]] w fun e w' => e = .returned (.int .i64 (h.at_ + h.less.length)) ∧ Below w.heap.size w w' := by
  go_enter Tryd.func47, Tryd.ntmps47
  go_wp2
  go_ret
  exact ⟨rfl, (Below.refl _ _).alloc (Nat.le_refl _) _⟩
theorem hunks_f1 {d : List Hunk} {k : Nat} (hk : k < d.length) (h : hunkB d[k] = false) : patchB d = false := by
  rw [patchB, hunksB_f hk (fun hh => by rw [getD_hunk hk, h] at hh; cases hh.1), Bool.and_false]
theorem hunks_f2 {d : List Hunk} {k : Nat} (hk : k < d.length) (h0 : 0 < k) (h : d[k].at_ ≤ (d[k - 1]'(by omega)).at_ + (d[k - 1]'(by omega)).less.length) : patchB d = false := by
  rw [patchB, hunksB_f hk (fun hh => by rw [gapB_pos h0 hk] at hh; have := of_decide_eq_true hh.2; omega), Bool.and_false]
theorem gap_zero {d : List Hunk} {k : Nat} (h : ¬ 0 < k) : gapB d k = true := by
  obtain rfl : k = 0 := by omega
  rfl
theorem within_iff {n lo hi : Int} : withinB n lo hi = true ↔ lo ≤ n ∧ n ≤ hi := by simp [withinB]
theorem hunk_bad {h : Hunk} (hh : withinB h.at_ 0 10 = false ∨ textB h.less = false ∨ textB h.more = false ∨ h.less.length + h.more.length = 0) : hunkB h = false := by
  unfold hunkB
  rcases hh with h | h | h | h
  · rw [h]; rfl
  · rw [h]; simp
  · rw [h]; simp
  · rw [decide_eq_false (by omega), Bool.and_false]
theorem hunk_good {h : Hunk} (h1 : withinB h.at_ 0 10 = true) (h2 : textB h.less = true) (h3 : textB h.more = true) (h4 : ¬ h.less.length + h.more.length = 0) : hunkB h = true := by
  unfold hunkB
  rw [h1, h2, h3, decide_eq_true (by omega)]; rfl

set_option maxHeartbeats 8000000 in
set_option maxRecDepth 100000 in
theorem patchOk_any {S : Nat → Prop} (v : Value) (d : List Hunk) (w : World) (hv : rd S w [v] d) :
    Calls Tryd.prog 16 #[v] w fun e w' => e = .returned (.bool (patchB d)) ∧ Below w.heap.size w w' := by
  obtain ⟨a, cap, rfl, hs⟩ := rd_slice_elim (Rep.lt hv)
  have hle := hs.le
  by_cases h8 : 8 < d.length
  · go_enter Tryd.func16, Tryd.ntmps16
    go_wp2
    go_ret
    exact ⟨ret_bool (by rw [patchB, decide_eq_false (by omega)]; rfl), Below.refl _ _⟩
  go_enter Tryd.func16, Tryd.ntmps16
  go_wp2
  go_loopw [10] (fun i wr => (∃ k : Nat, k ≤ d.length ∧ i = .int .i64 k ∧ Hid (∀ j, j < k → hunkB (d.getD j noHunk) = true ∧ gapB d j = true)) ∧ Below w.heap.size w wr) (fun i _ => d.length - (intOf i).toNat)
  case atStart => exact ⟨⟨0, by omega, rfl, by show ∀ _, _; intro j hj; omega⟩, Below.refl _ _⟩
  case round =>
    obtain ⟨⟨k, hk, rfl, HA⟩, hb⟩ := hrel
    have hsize := hb.size
    by_cases hlt : k < d.length
    · have hsr := hs.keep hb
      obtain ⟨g, off, a1, c1, a2, c2, rfl, q0, q1, q2, hi0, hl1, hl2⟩ := hsr.hunk hlt
      have HG : Hid (0 < k → (-1000000 ≤ (d[k - 1]'(by omega)).at_ ∧ (d[k - 1]'(by omega)).at_ ≤ 1000000) ∧ (d[k - 1]'(by omega)).less.length ≤ 1000000) := by
        show _ → _
        intro h0
        have := (HA.out (k - 1) (by omega)).1
        rw [getD_hunk (by omega), hunkB_iff] at this
        have h2 := text_len10 this.2.1
        omega
      obtain ⟨hh, hhe⟩ : ∃ hh, hh = d[k] := ⟨_, rfl⟩
      rw [← hhe] at q0 q1 q2 hi0 hl1 hl2
      have HE := Lib.hid hhe
      clear hhe
      obtain ⟨wb, hwb⟩ : ∃ wb, wb = wr.alloc (.cells #[.int .i64 hh.at_, .slice a1 hh.less.length c1, .slice a2 hh.more.length c2] 71) := ⟨_, rfl⟩
      obtain ⟨hB0, hwz, hq⟩ := boxed (vs := [.int .i64 hh.at_, .slice a1 hh.less.length c1, .slice a2 hh.more.length c2]) hwb
      have q0 := BW.cell (hq 0 _ rfl)
      have q1 := BW.cell (hq 1 _ rfl)
      have q2 := BW.cell (hq 2 _ rfl)
      have hl1 := hl1.keep (hB0.mono hsize)
      have hl2 := hl2.keep (hB0.mono hsize)
      have hbb := hb.trans (hB0.mono hsize)
      have HW := Lib.hid hwb
      clear hwb hq
      cases h1 : withinB hh.at_ 0 10 with
      | false =>
        have HN := Lib.hid (hunks_f1 hlt (by rw [← HE.out]; exact hunk_bad (.inl h1)))
        go_wp2
        rw [← HW.out]
        refine wp_region_bw (by kernel_rfl) (by kernel_rfl) ?_
        repeat (go_big_quiet_step ((first | (go_at_call 45; exact Calls.bw_same (within_is _ _ _ _ h1)))))
        refine wpQuiet_nil ?_
        rintro w1 ⟨⟨_, hbw⟩, rfl⟩
        go_wp2
        go_ret
        exact ⟨ret_bool HN.out.symm, hbb.trans (hbw.mono hbb.size)⟩
      | true =>
        cases h2 : textB hh.less with
        | false =>
          have HN := Lib.hid (hunks_f1 hlt (by rw [← HE.out]; exact hunk_bad (.inr (.inl h2))))
          go_wp2
          rw [← HW.out]
          refine wp_region_bw (by kernel_rfl) (by kernel_rfl) ?_
          repeat (go_big_quiet_step ((first | (go_at_call 45; exact Calls.bw_same (within_is _ _ _ _ h1)) | (go_at_call 46; first | with_reducible exact Calls.bw_same (textOk_is _ _ _ (hl1.bw _).rd h2)))))
          refine wpQuiet_nil ?_
          rintro w1 ⟨⟨_, hbw⟩, rfl⟩
          go_wp2
          go_ret
          exact ⟨ret_bool HN.out.symm, hbb.trans (hbw.mono hbb.size)⟩
        | true =>
          have h2l := text_len10 h2
          have h2s : (hh.less.length : Nat) ≤ 10 := h2l
          cases h3 : textB hh.more with
          | false =>
            have HN := Lib.hid (hunks_f1 hlt (by rw [← HE.out]; exact hunk_bad (.inr (.inr (.inl h3)))))
            go_wp2
            rw [← HW.out]
            refine wp_region_bw (by kernel_rfl) (by kernel_rfl) ?_
            repeat (go_big_quiet_step ((first | (go_at_call 45; exact Calls.bw_same (within_is _ _ _ _ h1)) | (go_at_call 46; first | with_reducible exact Calls.bw_same (textOk_is _ _ _ (hl1.bw _).rd h2) | exact Calls.bw_same (textOk_is _ _ _ (hl2.bw _).rd h3)))))
            refine wpQuiet_nil ?_
            rintro w1 ⟨⟨_, hbw⟩, rfl⟩
            go_wp2
            go_ret
            exact ⟨ret_bool HN.out.symm, hbb.trans (hbw.mono hbb.size)⟩
          | true =>
            have h3l := text_len10 h3
            have h3s : (hh.more.length : Nat) ≤ 10 := h3l
            have es : IntKind.i64.wrap ((hh.less.length : Int) + (hh.more.length : Int)) = (hh.less.length : Int) + (hh.more.length : Int) := IntWalk.i64_in _ (by omega)
            by_cases h4 : hh.less.length + hh.more.length = 0
            · have h4d : ((hh.less.length : Int) + (hh.more.length : Int) == 0) = true := by simp; omega
              have hpa : -1000000 ≤ hh.at_ ∧ hh.at_ ≤ 1000000 := by have := within_iff.1 h1; omega
              have hpl : hh.less.length ≤ 1000000 := by omega
              have HN := Lib.hid (hunks_f1 hlt (by rw [← HE.out]; exact hunk_bad (.inr (.inr (.inr h4)))))
              go_wp2
              rw [← HW.out]
              refine wp_region_bw (by kernel_rfl) (by kernel_rfl) ?_
              repeat (go_big_quiet_step ((first | (go_at_call 45; exact Calls.bw_same (within_is _ _ _ _ h1)) | (go_at_call 46; first | with_reducible exact Calls.bw_same (textOk_is _ _ _ (hl1.bw _).rd h2) | exact Calls.bw_same (textOk_is _ _ _ (hl2.bw _).rd h3)) | (go_at_call 47; exact Calls.bw (hunkEnd_any _ _ _ hpl hpa)))))
              refine wpQuiet_nil ?_
              rintro w1 ⟨⟨_, hbw⟩, rfl⟩
              go_wp2
              go_ret
              exact ⟨ret_bool HN.out.symm, hbb.trans (hbw.mono hbb.size)⟩
            have h4d : ((hh.less.length : Int) + (hh.more.length : Int) == 0) = false := by simp only [beq_eq_false_iff_ne, ne_eq]; omega
            have hwi := within_iff.1 h1
            by_cases h5 : 0 < k
            · have h5d : decide (0 < k) = true := decide_eq_true h5
              obtain ⟨gp, op, p1, r1, p2, r2, hgp, u0, u1, u2, _, _, _⟩ := hsr.hunk (i := k - 1) (by omega)
              obtain ⟨rfl, rfl⟩ : g = gp ∧ off = op := by simpa using hgp
              have hgg := HG.out h5
              obtain ⟨pp, hpe⟩ : ∃ pp, pp = d[k - 1] := ⟨_, rfl⟩
              rw [← hpe] at u0 u1 u2 hgg
              have HP := Lib.hid hpe
              clear hpe hgp
              obtain ⟨hpa, hpl⟩ := hgg
              have e0 : IntKind.i64.wrap ((k : Int) - 1) = (k : Int) - 1 := IntWalk.i64_in _ (by omega)
              have e1 : ((k : Int) - 1).toNat = k - 1 := by omega
              have e2 : (0 : Int) ≤ (k : Int) - 1 := by omega
              have u0 := BW.cell (keepc u0 hB0)
              have u1 := BW.cell (keepc u1 hB0)
              have u2 := BW.cell (keepc u2 hB0)
              by_cases h6 : hh.at_ ≤ pp.at_ + (pp.less.length : Int)
              · have h6d := dec_le_t h6
                have HN := Lib.hid (hunks_f2 hlt h5 (by rw [← HE.out, ← HP.out]; exact h6))
                go_wp2
                rw [← HW.out]
                refine wp_region_bw (by kernel_rfl) (by kernel_rfl) ?_
                repeat (go_big_quiet_step ((first | (go_at_call 45; exact Calls.bw_same (within_is _ _ _ _ h1)) | (go_at_call 46; first | with_reducible exact Calls.bw_same (textOk_is _ _ _ (hl1.bw _).rd h2) | exact Calls.bw_same (textOk_is _ _ _ (hl2.bw _).rd h3)) | (go_at_call 47; exact Calls.bw (hunkEnd_any _ _ _ hpl hpa)))))
                refine wpQuiet_nil ?_
                rintro w1 ⟨⟨_, hbw⟩, rfl⟩
                go_wp2
                go_ret
                exact ⟨ret_bool HN.out.symm, hbb.trans (hbw.mono hbb.size)⟩
              · have h6d := dec_le_f h6
                have HN := Lib.hid (show hunkB (d.getD k noHunk) = true ∧ gapB d k = true from ⟨by rw [getD_hunk hlt, ← HE.out]; exact hunk_good h1 h2 h3 h4, by rw [gapB_pos h5 hlt, ← HE.out, ← HP.out]; exact decide_eq_true (by omega)⟩)
                go_wp2
                rw [← HW.out]
                refine wp_region_bw (by kernel_rfl) (by kernel_rfl) ?_
                repeat (go_big_quiet_step ((first | (go_at_call 45; exact Calls.bw_same (within_is _ _ _ _ h1)) | (go_at_call 46; first | with_reducible exact Calls.bw_same (textOk_is _ _ _ (hl1.bw _).rd h2) | exact Calls.bw_same (textOk_is _ _ _ (hl2.bw _).rd h3)) | (go_at_call 47; exact Calls.bw (hunkEnd_any _ _ _ hpl hpa)))))
                refine wpQuiet_nil ?_
                rintro w1 ⟨⟨_, hbw⟩, rfl⟩
                go_wp2
                go_roundw
                case rel => exact ⟨⟨k + 1, by omega, by go_num, by show ∀ _, _; intro j hj; by_cases e : j < k; exact HA.out j e; exact (show j = k by omega) ▸ HN.out⟩, hbb.trans (hbw.mono hbb.size)⟩
                case measure => simp [intOf]; omega
            · have h5d : decide (0 < k) = false := decide_eq_false h5
              have hpa : -1000000 ≤ hh.at_ ∧ hh.at_ ≤ 1000000 := by omega
              have hpl : hh.less.length ≤ 1000000 := by omega
              have HN := Lib.hid (show hunkB (d.getD k noHunk) = true ∧ gapB d k = true from ⟨by rw [getD_hunk hlt, ← HE.out]; exact hunk_good h1 h2 h3 h4, gap_zero h5⟩)
              go_wp2
              rw [← HW.out]
              refine wp_region_bw (by kernel_rfl) (by kernel_rfl) ?_
              repeat (go_big_quiet_step ((first | (go_at_call 45; exact Calls.bw_same (within_is _ _ _ _ h1)) | (go_at_call 46; first | with_reducible exact Calls.bw_same (textOk_is _ _ _ (hl1.bw _).rd h2) | exact Calls.bw_same (textOk_is _ _ _ (hl2.bw _).rd h3)) | (go_at_call 47; exact Calls.bw (hunkEnd_any _ _ _ hpl hpa)))))
              refine wpQuiet_nil ?_
              rintro w1 ⟨⟨_, hbw⟩, rfl⟩
              go_wp2
              go_roundw
              case rel => exact ⟨⟨k + 1, by omega, by go_num, by show ∀ _, _; intro j hj; by_cases e : j < k; exact HA.out j e; exact (show j = k by omega) ▸ HN.out⟩, hbb.trans (hbw.mono hbb.size)⟩
              case measure => simp [intOf]; omega
    · go_wp2
      go_ret
      exact ⟨ret_bool (by rw [patchB, hunksB_t (fun i hi => HA.out i (by omega))]; simp; try omega), hb⟩

set_option maxHeartbeats 8000000 in
set_option maxRecDepth 100000 in
theorem l2Ok_any {S : Nat → Prop} (v : Value) (d : List Hunk) (w : World) (hv : rd S w [v] d) :
    Calls Tryd.prog 43 #[v] w fun e w' => e = .returned (.bool (patchB d)) ∧ Below w.heap.size w w' := by
  obtain ⟨a, cap, rfl, hs⟩ := rd_slice_elim (Rep.lt hv)
  have hle := hs.le
  go_enter Tryd.func43, Tryd.ntmps43
  go_wp2
  go_loopw [3] (fun i wr => (∃ k : Nat, k ≤ d.length ∧ i = .int .i64 k ∧ Hid (∀ j, j < k → hunkB (d.getD j noHunk) = true ∧ gapB d j = true)) ∧ Below w.heap.size w wr) (fun i _ => d.length - (intOf i).toNat)
  case atStart => exact ⟨⟨0, by omega, rfl, by show ∀ _, _; intro j hj; omega⟩, Below.refl _ _⟩
  case round =>
    obtain ⟨⟨k, hk, rfl, HA⟩, hb⟩ := hrel
    have hsize := hb.size
    by_cases hlt : k < d.length
    · have hsr := hs.keep hb
      obtain ⟨g, off, a1, c1, a2, c2, rfl, q0, q1, q2, hi0, hl1, hl2⟩ := hsr.hunk hlt
      have HG : Hid (0 < k → (-1000000 ≤ (d[k - 1]'(by omega)).at_ ∧ (d[k - 1]'(by omega)).at_ ≤ 1000000) ∧ (d[k - 1]'(by omega)).less.length ≤ 1000000) := by
        show _ → _
        intro h0
        have := (HA.out (k - 1) (by omega)).1
        rw [getD_hunk (by omega), hunkB_iff] at this
        have h2 := text_len10 this.2.1
        omega
      obtain ⟨hh, hhe⟩ : ∃ hh, hh = d[k] := ⟨_, rfl⟩
      rw [← hhe] at q0 q1 q2 hi0 hl1 hl2
      have HE := Lib.hid hhe
      clear hhe
      have q0 := BW.cell q0
      have q1 := BW.cell q1
      have q2 := BW.cell q2
      have hbb := hb
      cases h2 : textB hh.less with
      | false =>
        have HN := Lib.hid (hunks_f1 hlt (by rw [← HE.out]; exact hunk_bad (.inr (.inl h2))))
        go_wp2
        refine wp_region_bw (by kernel_rfl) (by kernel_rfl) ?_
        repeat (go_big_quiet_step ((first | (go_at_call 82; first | with_reducible exact Calls.bw_same (l1Ok_is _ _ _ (hl1.bw _).rd h2)))))
        refine wpQuiet_nil ?_
        rintro w1 ⟨⟨_, hbw⟩, rfl⟩
        go_wp2
        go_ret
        exact ⟨ret_bool HN.out.symm, hbb.trans (hbw.mono hbb.size)⟩
      | true =>
        have h2l := text_len10 h2
        have h2s : (hh.less.length : Nat) ≤ 10 := h2l
        cases h3 : textB hh.more with
        | false =>
          have HN := Lib.hid (hunks_f1 hlt (by rw [← HE.out]; exact hunk_bad (.inr (.inr (.inl h3)))))
          go_wp2
          refine wp_region_bw (by kernel_rfl) (by kernel_rfl) ?_
          repeat (go_big_quiet_step ((first | (go_at_call 82; first | with_reducible exact Calls.bw_same (l1Ok_is _ _ _ (hl1.bw _).rd h2) | exact Calls.bw_same (l1Ok_is _ _ _ (hl2.bw _).rd h3)))))
          refine wpQuiet_nil ?_
          rintro w1 ⟨⟨_, hbw⟩, rfl⟩
          go_wp2
          go_ret
          exact ⟨ret_bool HN.out.symm, hbb.trans (hbw.mono hbb.size)⟩
        | true =>
          have h3l := text_len10 h3
          have h3s : (hh.more.length : Nat) ≤ 10 := h3l
          have es : IntKind.i64.wrap ((hh.less.length : Int) + (hh.more.length : Int)) = (hh.less.length : Int) + (hh.more.length : Int) := IntWalk.i64_in _ (by omega)
          by_cases h4 : hh.less.length + hh.more.length = 0
          · have h4d : ((hh.less.length : Int) + (hh.more.length : Int) == 0) = true := by simp; omega
            have HN := Lib.hid (hunks_f1 hlt (by rw [← HE.out]; exact hunk_bad (.inr (.inr (.inr h4)))))
            go_wp2
            refine wp_region_bw (by kernel_rfl) (by kernel_rfl) ?_
            repeat (go_big_quiet_step ((first | (go_at_call 82; first | with_reducible exact Calls.bw_same (l1Ok_is _ _ _ (hl1.bw _).rd h2) | exact Calls.bw_same (l1Ok_is _ _ _ (hl2.bw _).rd h3)))))
            refine wpQuiet_nil ?_
            rintro w1 ⟨⟨_, hbw⟩, rfl⟩
            go_wp2
            go_ret
            exact ⟨ret_bool HN.out.symm, hbb.trans (hbw.mono hbb.size)⟩
          have h4d : ((hh.less.length : Int) + (hh.more.length : Int) == 0) = false := by simp only [beq_eq_false_iff_ne, ne_eq]; omega
          cases h1 : withinB hh.at_ 0 10 with
          | false =>
            have HN := Lib.hid (hunks_f1 hlt (by rw [← HE.out]; exact hunk_bad (.inl h1)))
            go_wp2
            refine wp_region_bw (by kernel_rfl) (by kernel_rfl) ?_
            repeat (go_big_quiet_step ((first | (go_at_call 60; exact Calls.bw_same (l1In_is _ _ _ _ h1)) | (go_at_call 82; first | with_reducible exact Calls.bw_same (l1Ok_is _ _ _ (hl1.bw _).rd h2) | exact Calls.bw_same (l1Ok_is _ _ _ (hl2.bw _).rd h3)))))
            refine wpQuiet_nil ?_
            rintro w1 ⟨⟨_, hbw⟩, rfl⟩
            go_wp2
            go_ret
            exact ⟨ret_bool HN.out.symm, hbb.trans (hbw.mono hbb.size)⟩
          | true =>
            have hwi := within_iff.1 h1
            by_cases h5 : 0 < k
            · have h5d : decide (0 < k) = true := decide_eq_true h5
              obtain ⟨gp, op, p1, r1, p2, r2, hgp, u0, u1, u2, _, _, _⟩ := hsr.hunk (i := k - 1) (by omega)
              obtain ⟨rfl, rfl⟩ : g = gp ∧ off = op := by simpa using hgp
              have hgg := HG.out h5
              obtain ⟨pp, hpe⟩ : ∃ pp, pp = d[k - 1] := ⟨_, rfl⟩
              rw [← hpe] at u0 u1 u2 hgg
              have HP := Lib.hid hpe
              clear hpe hgp
              obtain ⟨hpa, hpl⟩ := hgg
              have e0 : IntKind.i64.wrap ((k : Int) - 1) = (k : Int) - 1 := IntWalk.i64_in _ (by omega)
              have e1 : ((k : Int) - 1).toNat = k - 1 := by omega
              have e2 : (0 : Int) ≤ (k : Int) - 1 := by omega
              have e3 : IntKind.i64.wrap (pp.at_ + (pp.less.length : Int)) = pp.at_ + (pp.less.length : Int) := IntWalk.i64_in _ (by omega)
              have u0 := BW.cell u0
              have u1 := BW.cell u1
              have u2 := BW.cell u2
              by_cases h6 : hh.at_ ≤ pp.at_ + (pp.less.length : Int)
              · have h6d := dec_le_t h6
                have HN := Lib.hid (hunks_f2 hlt h5 (by rw [← HE.out, ← HP.out]; exact h6))
                go_wp2
                refine wp_region_bw (by kernel_rfl) (by kernel_rfl) ?_
                repeat (go_big_quiet_step ((first | (go_at_call 60; exact Calls.bw_same (l1In_is _ _ _ _ h1)) | (go_at_call 82; first | with_reducible exact Calls.bw_same (l1Ok_is _ _ _ (hl1.bw _).rd h2) | exact Calls.bw_same (l1Ok_is _ _ _ (hl2.bw _).rd h3)))))
                refine wpQuiet_nil ?_
                rintro w1 ⟨⟨_, hbw⟩, rfl⟩
                go_wp2
                go_ret
                exact ⟨ret_bool HN.out.symm, hbb.trans (hbw.mono hbb.size)⟩
              · have h6d := dec_le_f h6
                have HN := Lib.hid (show hunkB (d.getD k noHunk) = true ∧ gapB d k = true from ⟨by rw [getD_hunk hlt, ← HE.out]; exact hunk_good h1 h2 h3 h4, by rw [gapB_pos h5 hlt, ← HE.out, ← HP.out]; exact decide_eq_true (by omega)⟩)
                go_wp2
                refine wp_region_bw (by kernel_rfl) (by kernel_rfl) ?_
                repeat (go_big_quiet_step ((first | (go_at_call 60; exact Calls.bw_same (l1In_is _ _ _ _ h1)) | (go_at_call 82; first | with_reducible exact Calls.bw_same (l1Ok_is _ _ _ (hl1.bw _).rd h2) | exact Calls.bw_same (l1Ok_is _ _ _ (hl2.bw _).rd h3)))))
                refine wpQuiet_nil ?_
                rintro w1 ⟨⟨_, hbw⟩, rfl⟩
                go_wp2
                go_roundw
                case rel => exact ⟨⟨k + 1, by omega, by go_num, by show ∀ _, _; intro j hj; by_cases e : j < k; exact HA.out j e; exact (show j = k by omega) ▸ HN.out⟩, hbb.trans (hbw.mono hbb.size)⟩
                case measure => simp [intOf]; omega
            · have h5d : decide (0 < k) = false := decide_eq_false h5
              have hpa : -1000000 ≤ hh.at_ ∧ hh.at_ ≤ 1000000 := by omega
              have hpl : hh.less.length ≤ 1000000 := by omega
              have HN := Lib.hid (show hunkB (d.getD k noHunk) = true ∧ gapB d k = true from ⟨by rw [getD_hunk hlt, ← HE.out]; exact hunk_good h1 h2 h3 h4, gap_zero h5⟩)
              go_wp2
              refine wp_region_bw (by kernel_rfl) (by kernel_rfl) ?_
              repeat (go_big_quiet_step ((first | (go_at_call 60; exact Calls.bw_same (l1In_is _ _ _ _ h1)) | (go_at_call 82; first | with_reducible exact Calls.bw_same (l1Ok_is _ _ _ (hl1.bw _).rd h2) | exact Calls.bw_same (l1Ok_is _ _ _ (hl2.bw _).rd h3)))))
              refine wpQuiet_nil ?_
              rintro w1 ⟨⟨_, hbw⟩, rfl⟩
              go_wp2
              go_roundw
              case rel => exact ⟨⟨k + 1, by omega, by go_num, by show ∀ _, _; intro j hj; by_cases e : j < k; exact HA.out j e; exact (show j = k by omega) ▸ HN.out⟩, hbb.trans (hbw.mono hbb.size)⟩
              case measure => simp [intOf]; omega
    · go_wp2
      go_ret
      exact ⟨ret_bool (by rw [patchB, hunksB_t (fun i hi => HA.out i (by omega))]; simp; try omega), hb⟩

theorem patchOk_is {S : Nat → Prop} (v : Value) (d : List Hunk) (w : World) (hv : rd S w [v] d) {b : Bool} (h : patchB d = b) :
    Calls Tryd.prog 16 #[v] w fun e w' => e = .returned (.bool b) ∧ Below w.heap.size w w' := by rw [← h]; exact patchOk_any v d w hv
theorem l2Ok_is {S : Nat → Prop} (v : Value) (d : List Hunk) (w : World) (hv : rd S w [v] d) {b : Bool} (h : patchB d = b) :
    Calls Tryd.prog 43 #[v] w fun e w' => e = .returned (.bool b) ∧ Below w.heap.size w w' := by rw [← h]; exact l2Ok_any v d w hv
end Go.Proofs.YthhmaclhggmneaaDoor
