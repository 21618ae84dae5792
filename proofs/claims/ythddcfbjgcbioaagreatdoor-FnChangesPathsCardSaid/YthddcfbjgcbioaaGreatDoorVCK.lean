/-
  Walks: whether a text is among texts, as the library asks it. / Walks: whether there is a patch. / Walks: whether changes are ok, and all their paths, as the program has it.
-/
import Derived.Test.YthddcfbjgcbioaaGreatDoorVI
import Derived.Test.YthddcfbjgcbioaaGreatDoorVSM
import Derived.Test.YthddcfbjgcbioaaGreatDoorVP2
import Derived.Test.YthddcfbjgcbioaaGreatDoorVCH
import Derived.Test.YthddcfbjgcbioaaGreatDoorVPJ
import Derived.Test.YthddcfbjgcbioaaGreatDoorVJJ
import Derived.Test.YthddcfbjgcbioaaGreatDoorVL
import Derived.Test.YthddcfbjgcbioaaGreatDoorVK
set_option linter.unusedVariables false
namespace Go.Vc
open Go.RowKit
def idxS (s : ByteArray) : List ByteArray → Nat → Int
  | [], _ => -1
  | x :: r, k => if s = x then (k : Int) else idxS s r (k + 1)
theorem idxS_ge (s : ByteArray) : ∀ (xs : List ByteArray) (k : Nat), decide (0 ≤ idxS s xs k) = hasS s xs
  | [], k => by simp [idxS, hasS]
  | x :: r, k => by
    rw [idxS]
    have e : hasS s (x :: r) = (decide (x = s) || hasS s r) := rfl
    rw [e]
    by_cases h : s = x
    · rw [if_pos h, decide_eq_true h.symm]
      have : (0 : Int) ≤ (k : Int) := by omega
      simp
    · rw [if_neg h, idxS_ge s r (k + 1), decide_eq_false (fun e => h e.symm), Bool.false_or]
section
variable {s : ByteArray} {xs : List ByteArray} {k : Nat} {n : Int}
theorem idx_hit (H : n = idxS s (xs.drop k) k) (h : k < xs.length) (e : s = xs[k]) : n = k := by rw [H, drop_cons xs k h, idxS, if_pos e]
theorem idx_next (H : n = idxS s (xs.drop k) k) (h : k < xs.length) (e : ¬ s = xs[k]) : n = idxS s (xs.drop (k + 1)) (k + 1) := by rw [H, drop_cons xs k h, idxS, if_neg e]
theorem idx_end (H : n = idxS s (xs.drop k) k) (h : ¬ k < xs.length) : n = -1 := by rw [H, drop_nil xs k h]; rfl
end
end Go.Vc
namespace Go.Proofs.YthddcfbjgcbioaaGreatDoor
open Go.RowKit Go.Vc
open Go.Vc.Rep (rd)
open Go.Vc.Own (own)
end Go.Proofs.YthddcfbjgcbioaaGreatDoor
namespace Go.Proofs.YthddcfbjgcbioaaGreatDoor
open Go.RowKit Go.Vc
open Go.Vc.Rep (rd)
open Go.Vc.Own (own)

set_option maxHeartbeats 1000000 in
theorem hunkEnd_any (h : Hunk) (v2 : Value) {a1 : Option Addr} {c1 : Nat} (w : World) (hl : h.less.length ≤ 1000000) (hat : -1000000 ≤ h.at_ ∧ h.at_ ≤ 1000000) :
    Calls Tryz.prog 51 #[.agg #[.int .i64 h.at_, .slice a1 h.less.length c1, v2]] w fun e w' => e = .returned (.int .i64 (h.at_ + h.less.length)) ∧ Below w.heap.size w w' := by
  go_enter Tryz.func51, Tryz.ntmps51
  go_wp2
  go_ret
  exact ⟨rfl, (Below.refl _ _).alloc (Nat.le_refl _) _⟩
theorem hunks_f1 {d : List Hunk} {k : Nat} (hk : k < d.length) (h : hunkB d[k] = false) : patchB d = false := by
  rw [patchB, hunksB_f hk (fun hh => by rw [getD_hunk hk, h] at hh; cases hh.1), Bool.and_false]
theorem hunks_f2 {d : List Hunk} {k : Nat} (hk : k < d.length) (h0 : 0 < k) (h : d[k].at_ ≤ (d[k - 1]'(by omega)).at_ + (d[k - 1]'(by omega)).less.length) : patchB d = false := by
  rw [patchB, hunksB_f hk (fun hh => by rw [gapB_pos h0 hk] at hh; have := of_decide_eq_true hh.2; omega), Bool.and_false]
theorem gap_zero {d : List Hunk} {k : Nat} (h : ¬ 0 < k) : gapB d k = true := by
  obtain rfl : k = 0 := by omega
  rfl
theorem within_iff {n lo hi : Int} : withinB n lo hi = true ↔ lo ≤ n ∧ n ≤ hi := by simp [withinB]
theorem hunk_bad {h : Hunk} (hh : withinB h.at_ 0 10 = false ∨ textB h.less = false ∨ textB h.more = false ∨ h.less.length + h.more.length = 0) : hunkB h = false := by
  unfold hunkB
  rcases hh with h | h | h | h
  · rw [h]; rfl
  · rw [h]; simp
  · rw [h]; simp
  · rw [decide_eq_false (by omega), Bool.and_false]
theorem hunk_good {h : Hunk} (h1 : withinB h.at_ 0 10 = true) (h2 : textB h.less = true) (h3 : textB h.more = true) (h4 : ¬ h.less.length + h.more.length = 0) : hunkB h = true := by
  unfold hunkB
  rw [h1, h2, h3, decide_eq_true (by omega)]; rfl

set_option maxHeartbeats 8000000 in
set_option maxRecDepth 100000 in
theorem patchOk_any {S : Nat → Prop} (v : Value) (d : List Hunk) (w : World) (hv : rd S w [v] d) :
    Calls Tryz.prog 50 #[v] w fun e w' => e = .returned (.bool (patchB d)) ∧ Below w.heap.size w w' := by
  obtain ⟨a, cap, rfl, hs⟩ := rd_slice_elim (Rep.lt hv)
  have hle := hs.le
  by_cases h8 : 8 < d.length
  · go_enter Tryz.func50, Tryz.ntmps50
    go_wp2
    go_ret
    exact ⟨ret_bool (by rw [patchB, decide_eq_false (by omega)]; rfl), Below.refl _ _⟩
  go_enter Tryz.func50, Tryz.ntmps50
  go_wp2
  go_loopw [10] (fun i wr => (∃ k : Nat, k ≤ d.length ∧ i = .int .i64 k ∧ Hid (∀ j, j < k → hunkB (d.getD j noHunk) = true ∧ gapB d j = true)) ∧ Below w.heap.size w wr) (fun i _ => d.length - (intOf i).toNat)
  case atStart => exact ⟨⟨0, by omega, rfl, by show ∀ _, _; intro j hj; omega⟩, Below.refl _ _⟩
  case round =>
    obtain ⟨⟨k, hk, rfl, HA⟩, hb⟩ := hrel
    have hsize := hb.size
    by_cases hlt : k < d.length
    · have hsr := hs.keep hb
      obtain ⟨g, off, a1, c1, a2, c2, rfl, q0, q1, q2, hi0, hl1, hl2⟩ := hsr.hunk hlt
      have HG : Hid (0 < k → (-1000000 ≤ (d[k - 1]'(by omega)).at_ ∧ (d[k - 1]'(by omega)).at_ ≤ 1000000) ∧ (d[k - 1]'(by omega)).less.length ≤ 1000000) := by
        show _ → _
        intro h0
        have := (HA.out (k - 1) (by omega)).1
        rw [getD_hunk (by omega), hunkB_iff] at this
        have h2 := text_len10 this.2.1
        omega
      obtain ⟨hh, hhe⟩ : ∃ hh, hh = d[k] := ⟨_, rfl⟩
      rw [← hhe] at q0 q1 q2 hi0 hl1 hl2
      have HE := Lib.hid hhe
      clear hhe
      obtain ⟨wb, hwb⟩ : ∃ wb, wb = wr.alloc (.cells #[.int .i64 hh.at_, .slice a1 hh.less.length c1, .slice a2 hh.more.length c2] 73) := ⟨_, rfl⟩
      obtain ⟨hB0, hwz, hq⟩ := boxed (vs := [.int .i64 hh.at_, .slice a1 hh.less.length c1, .slice a2 hh.more.length c2]) hwb
      have q0 := BW.cell (hq 0 _ rfl)
      have q1 := BW.cell (hq 1 _ rfl)
      have q2 := BW.cell (hq 2 _ rfl)
      have hl1 := hl1.keep (hB0.mono hsize)
      have hl2 := hl2.keep (hB0.mono hsize)
      have hbb := hb.trans (hB0.mono hsize)
      have HW := Lib.hid hwb
      clear hwb hq
      cases h1 : withinB hh.at_ 0 10 with
      | false =>
        have HN := Lib.hid (hunks_f1 hlt (by rw [← HE.out]; exact hunk_bad (.inl h1)))
        go_wp2
        rw [← HW.out]
        refine wp_region_bw (by kernel_rfl) (by kernel_rfl) ?_
        repeat (go_big_quiet_step ((first | (go_at_call 69; exact Calls.bw_same (within_is _ _ _ _ h1)))))
        refine wpQuiet_nil ?_
        rintro w1 ⟨⟨_, hbw⟩, rfl⟩
        go_wp2
        go_ret
        exact ⟨ret_bool HN.out.symm, hbb.trans (hbw.mono hbb.size)⟩
      | true =>
        cases h2 : textB hh.less with
        | false =>
          have HN := Lib.hid (hunks_f1 hlt (by rw [← HE.out]; exact hunk_bad (.inr (.inl h2))))
          go_wp2
          rw [← HW.out]
          refine wp_region_bw (by kernel_rfl) (by kernel_rfl) ?_
          repeat (go_big_quiet_step ((first | (go_at_call 69; exact Calls.bw_same (within_is _ _ _ _ h1)) | (go_at_call 46; first | with_reducible exact Calls.bw_same (textOk_is _ _ _ (hl1.bw _).rd h2)))))
          refine wpQuiet_nil ?_
          rintro w1 ⟨⟨_, hbw⟩, rfl⟩
          go_wp2
          go_ret
          exact ⟨ret_bool HN.out.symm, hbb.trans (hbw.mono hbb.size)⟩
        | true =>
          have h2l := text_len10 h2
          have h2s : (hh.less.length : Nat) ≤ 10 := h2l
          cases h3 : textB hh.more with
          | false =>
            have HN := Lib.hid (hunks_f1 hlt (by rw [← HE.out]; exact hunk_bad (.inr (.inr (.inl h3)))))
            go_wp2
            rw [← HW.out]
            refine wp_region_bw (by kernel_rfl) (by kernel_rfl) ?_
            repeat (go_big_quiet_step ((first | (go_at_call 69; exact Calls.bw_same (within_is _ _ _ _ h1)) | (go_at_call 46; first | with_reducible exact Calls.bw_same (textOk_is _ _ _ (hl1.bw _).rd h2) | exact Calls.bw_same (textOk_is _ _ _ (hl2.bw _).rd h3)))))
            refine wpQuiet_nil ?_
            rintro w1 ⟨⟨_, hbw⟩, rfl⟩
            go_wp2
            go_ret
            exact ⟨ret_bool HN.out.symm, hbb.trans (hbw.mono hbb.size)⟩
          | true =>
            have h3l := text_len10 h3
            have h3s : (hh.more.length : Nat) ≤ 10 := h3l
            have es : IntKind.i64.wrap ((hh.less.length : Int) + (hh.more.length : Int)) = (hh.less.length : Int) + (hh.more.length : Int) := IntWalk.i64_in _ (by omega)
            by_cases h4 : hh.less.length + hh.more.length = 0
            · have h4d : ((hh.less.length : Int) + (hh.more.length : Int) == 0) = true := by simp; omega
              have hpa : -1000000 ≤ hh.at_ ∧ hh.at_ ≤ 1000000 := by have := within_iff.1 h1; omega
              have hpl : hh.less.length ≤ 1000000 := by omega
              have HN := Lib.hid (hunks_f1 hlt (by rw [← HE.out]; exact hunk_bad (.inr (.inr (.inr h4)))))
              go_wp2
              rw [← HW.out]
              refine wp_region_bw (by kernel_rfl) (by kernel_rfl) ?_
              repeat (go_big_quiet_step ((first | (go_at_call 69; exact Calls.bw_same (within_is _ _ _ _ h1)) | (go_at_call 46; first | with_reducible exact Calls.bw_same (textOk_is _ _ _ (hl1.bw _).rd h2) | exact Calls.bw_same (textOk_is _ _ _ (hl2.bw _).rd h3)) | (go_at_call 51; exact Calls.bw (hunkEnd_any _ _ _ hpl hpa)))))
              refine wpQuiet_nil ?_
              rintro w1 ⟨⟨_, hbw⟩, rfl⟩
              go_wp2
              go_ret
              exact ⟨ret_bool HN.out.symm, hbb.trans (hbw.mono hbb.size)⟩
            have h4d : ((hh.less.length : Int) + (hh.more.length : Int) == 0) = false := by simp only [beq_eq_false_iff_ne, ne_eq]; omega
            have hwi := within_iff.1 h1
            by_cases h5 : 0 < k
            · have h5d : decide (0 < k) = true := decide_eq_true h5
              obtain ⟨gp, op, p1, r1, p2, r2, hgp, u0, u1, u2, _, _, _⟩ := hsr.hunk (i := k - 1) (by omega)
              obtain ⟨rfl, rfl⟩ : g = gp ∧ off = op := by simpa using hgp
              have hgg := HG.out h5
              obtain ⟨pp, hpe⟩ : ∃ pp, pp = d[k - 1] := ⟨_, rfl⟩
              rw [← hpe] at u0 u1 u2 hgg
              have HP := Lib.hid hpe
              clear hpe hgp
              obtain ⟨hpa, hpl⟩ := hgg
              have e0 : IntKind.i64.wrap ((k : Int) - 1) = (k : Int) - 1 := IntWalk.i64_in _ (by omega)
              have e1 : ((k : Int) - 1).toNat = k - 1 := by omega
              have e2 : (0 : Int) ≤ (k : Int) - 1 := by omega
              have u0 := BW.cell (keepc u0 hB0)
              have u1 := BW.cell (keepc u1 hB0)
              have u2 := BW.cell (keepc u2 hB0)
              by_cases h6 : hh.at_ ≤ pp.at_ + (pp.less.length : Int)
              · have h6d := dec_le_t h6
                have HN := Lib.hid (hunks_f2 hlt h5 (by rw [← HE.out, ← HP.out]; exact h6))
                go_wp2
                rw [← HW.out]
                refine wp_region_bw (by kernel_rfl) (by kernel_rfl) ?_
                repeat (go_big_quiet_step ((first | (go_at_call 69; exact Calls.bw_same (within_is _ _ _ _ h1)) | (go_at_call 46; first | with_reducible exact Calls.bw_same (textOk_is _ _ _ (hl1.bw _).rd h2) | exact Calls.bw_same (textOk_is _ _ _ (hl2.bw _).rd h3)) | (go_at_call 51; exact Calls.bw (hunkEnd_any _ _ _ hpl hpa)))))
                refine wpQuiet_nil ?_
                rintro w1 ⟨⟨_, hbw⟩, rfl⟩
                go_wp2
                go_ret
                exact ⟨ret_bool HN.out.symm, hbb.trans (hbw.mono hbb.size)⟩
              · have h6d := dec_le_f h6
                have HN := Lib.hid (show hunkB (d.getD k noHunk) = true ∧ gapB d k = true from ⟨by rw [getD_hunk hlt, ← HE.out]; exact hunk_good h1 h2 h3 h4, by rw [gapB_pos h5 hlt, ← HE.out, ← HP.out]; exact decide_eq_true (by omega)⟩)
                go_wp2
                rw [← HW.out]
                refine wp_region_bw (by kernel_rfl) (by kernel_rfl) ?_
                repeat (go_big_quiet_step ((first | (go_at_call 69; exact Calls.bw_same (within_is _ _ _ _ h1)) | (go_at_call 46; first | with_reducible exact Calls.bw_same (textOk_is _ _ _ (hl1.bw _).rd h2) | exact Calls.bw_same (textOk_is _ _ _ (hl2.bw _).rd h3)) | (go_at_call 51; exact Calls.bw (hunkEnd_any _ _ _ hpl hpa)))))
                refine wpQuiet_nil ?_
                rintro w1 ⟨⟨_, hbw⟩, rfl⟩
                go_wp2
                go_roundw
                case rel => exact ⟨⟨k + 1, by omega, by go_num, by show ∀ _, _; intro j hj; by_cases e : j < k; exact HA.out j e; exact (show j = k by omega) ▸ HN.out⟩, hbb.trans (hbw.mono hbb.size)⟩
                case measure => simp [intOf]; omega
            · have h5d : decide (0 < k) = false := decide_eq_false h5
              have hpa : -1000000 ≤ hh.at_ ∧ hh.at_ ≤ 1000000 := by omega
              have hpl : hh.less.length ≤ 1000000 := by omega
              have HN := Lib.hid (show hunkB (d.getD k noHunk) = true ∧ gapB d k = true from ⟨by rw [getD_hunk hlt, ← HE.out]; exact hunk_good h1 h2 h3 h4, gap_zero h5⟩)
              go_wp2
              rw [← HW.out]
              refine wp_region_bw (by kernel_rfl) (by kernel_rfl) ?_
              repeat (go_big_quiet_step ((first | (go_at_call 69; exact Calls.bw_same (within_is _ _ _ _ h1)) | (go_at_call 46; first | with_reducible exact Calls.bw_same (textOk_is _ _ _ (hl1.bw _).rd h2) | exact Calls.bw_same (textOk_is _ _ _ (hl2.bw _).rd h3)) | (go_at_call 51; exact Calls.bw (hunkEnd_any _ _ _ hpl hpa)))))
              refine wpQuiet_nil ?_
              rintro w1 ⟨⟨_, hbw⟩, rfl⟩
              go_wp2
              go_roundw
              case rel => exact ⟨⟨k + 1, by omega, by go_num, by show ∀ _, _; intro j hj; by_cases e : j < k; exact HA.out j e; exact (show j = k by omega) ▸ HN.out⟩, hbb.trans (hbw.mono hbb.size)⟩
              case measure => simp [intOf]; omega
    · go_wp2
      go_ret
      exact ⟨ret_bool (by rw [patchB, hunksB_t (fun i hi => HA.out i (by omega))]; simp; try omega), hb⟩

set_option maxHeartbeats 8000000 in
set_option maxRecDepth 100000 in
theorem l2Ok_any {S : Nat → Prop} (v : Value) (d : List Hunk) (w : World) (hv : rd S w [v] d) :
    Calls Tryz.prog 74 #[v] w fun e w' => e = .returned (.bool (patchB d)) ∧ Below w.heap.size w w' := by
  obtain ⟨a, cap, rfl, hs⟩ := rd_slice_elim (Rep.lt hv)
  have hle := hs.le
  go_enter Tryz.func74, Tryz.ntmps74
  go_wp2
  go_loopw [3] (fun i wr => (∃ k : Nat, k ≤ d.length ∧ i = .int .i64 k ∧ Hid (∀ j, j < k → hunkB (d.getD j noHunk) = true ∧ gapB d j = true)) ∧ Below w.heap.size w wr) (fun i _ => d.length - (intOf i).toNat)
  case atStart => exact ⟨⟨0, by omega, rfl, by show ∀ _, _; intro j hj; omega⟩, Below.refl _ _⟩
  case round =>
    obtain ⟨⟨k, hk, rfl, HA⟩, hb⟩ := hrel
    have hsize := hb.size
    by_cases hlt : k < d.length
    · have hsr := hs.keep hb
      obtain ⟨g, off, a1, c1, a2, c2, rfl, q0, q1, q2, hi0, hl1, hl2⟩ := hsr.hunk hlt
      have HG : Hid (0 < k → (-1000000 ≤ (d[k - 1]'(by omega)).at_ ∧ (d[k - 1]'(by omega)).at_ ≤ 1000000) ∧ (d[k - 1]'(by omega)).less.length ≤ 1000000) := by
        show _ → _
        intro h0
        have := (HA.out (k - 1) (by omega)).1
        rw [getD_hunk (by omega), hunkB_iff] at this
        have h2 := text_len10 this.2.1
        omega
      obtain ⟨hh, hhe⟩ : ∃ hh, hh = d[k] := ⟨_, rfl⟩
      rw [← hhe] at q0 q1 q2 hi0 hl1 hl2
      have HE := Lib.hid hhe
      clear hhe
      have q0 := BW.cell q0
      have q1 := BW.cell q1
      have q2 := BW.cell q2
      have hbb := hb
      cases h2 : textB hh.less with
      | false =>
        have HN := Lib.hid (hunks_f1 hlt (by rw [← HE.out]; exact hunk_bad (.inr (.inl h2))))
        go_wp2
        refine wp_region_bw (by kernel_rfl) (by kernel_rfl) ?_
        repeat (go_big_quiet_step ((first | (go_at_call 64; first | with_reducible exact Calls.bw_same (l1Ok_is _ _ _ (hl1.bw _).rd h2)))))
        refine wpQuiet_nil ?_
        rintro w1 ⟨⟨_, hbw⟩, rfl⟩
        go_wp2
        go_ret
        exact ⟨ret_bool HN.out.symm, hbb.trans (hbw.mono hbb.size)⟩
      | true =>
        have h2l := text_len10 h2
        have h2s : (hh.less.length : Nat) ≤ 10 := h2l
        cases h3 : textB hh.more with
        | false =>
          have HN := Lib.hid (hunks_f1 hlt (by rw [← HE.out]; exact hunk_bad (.inr (.inr (.inl h3)))))
          go_wp2
          refine wp_region_bw (by kernel_rfl) (by kernel_rfl) ?_
          repeat (go_big_quiet_step ((first | (go_at_call 64; first | with_reducible exact Calls.bw_same (l1Ok_is _ _ _ (hl1.bw _).rd h2) | exact Calls.bw_same (l1Ok_is _ _ _ (hl2.bw _).rd h3)))))
          refine wpQuiet_nil ?_
          rintro w1 ⟨⟨_, hbw⟩, rfl⟩
          go_wp2
          go_ret
          exact ⟨ret_bool HN.out.symm, hbb.trans (hbw.mono hbb.size)⟩
        | true =>
          have h3l := text_len10 h3
          have h3s : (hh.more.length : Nat) ≤ 10 := h3l
          have es : IntKind.i64.wrap ((hh.less.length : Int) + (hh.more.length : Int)) = (hh.less.length : Int) + (hh.more.length : Int) := IntWalk.i64_in _ (by omega)
          by_cases h4 : hh.less.length + hh.more.length = 0
          · have h4d : ((hh.less.length : Int) + (hh.more.length : Int) == 0) = true := by simp; omega
            have HN := Lib.hid (hunks_f1 hlt (by rw [← HE.out]; exact hunk_bad (.inr (.inr (.inr h4)))))
            go_wp2
            refine wp_region_bw (by kernel_rfl) (by kernel_rfl) ?_
            repeat (go_big_quiet_step ((first | (go_at_call 64; first | with_reducible exact Calls.bw_same (l1Ok_is _ _ _ (hl1.bw _).rd h2) | exact Calls.bw_same (l1Ok_is _ _ _ (hl2.bw _).rd h3)))))
            refine wpQuiet_nil ?_
            rintro w1 ⟨⟨_, hbw⟩, rfl⟩
            go_wp2
            go_ret
            exact ⟨ret_bool HN.out.symm, hbb.trans (hbw.mono hbb.size)⟩
          have h4d : ((hh.less.length : Int) + (hh.more.length : Int) == 0) = false := by simp only [beq_eq_false_iff_ne, ne_eq]; omega
          cases h1 : withinB hh.at_ 0 10 with
          | false =>
            have HN := Lib.hid (hunks_f1 hlt (by rw [← HE.out]; exact hunk_bad (.inl h1)))
            go_wp2
            refine wp_region_bw (by kernel_rfl) (by kernel_rfl) ?_
            repeat (go_big_quiet_step ((first | (go_at_call 96; exact Calls.bw_same (l1In_is _ _ _ _ h1)) | (go_at_call 64; first | with_reducible exact Calls.bw_same (l1Ok_is _ _ _ (hl1.bw _).rd h2) | exact Calls.bw_same (l1Ok_is _ _ _ (hl2.bw _).rd h3)))))
            refine wpQuiet_nil ?_
            rintro w1 ⟨⟨_, hbw⟩, rfl⟩
            go_wp2
            go_ret
            exact ⟨ret_bool HN.out.symm, hbb.trans (hbw.mono hbb.size)⟩
          | true =>
            have hwi := within_iff.1 h1
            by_cases h5 : 0 < k
            · have h5d : decide (0 < k) = true := decide_eq_true h5
              obtain ⟨gp, op, p1, r1, p2, r2, hgp, u0, u1, u2, _, _, _⟩ := hsr.hunk (i := k - 1) (by omega)
              obtain ⟨rfl, rfl⟩ : g = gp ∧ off = op := by simpa using hgp
              have hgg := HG.out h5
              obtain ⟨pp, hpe⟩ : ∃ pp, pp = d[k - 1] := ⟨_, rfl⟩
              rw [← hpe] at u0 u1 u2 hgg
              have HP := Lib.hid hpe
              clear hpe hgp
              obtain ⟨hpa, hpl⟩ := hgg
              have e0 : IntKind.i64.wrap ((k : Int) - 1) = (k : Int) - 1 := IntWalk.i64_in _ (by omega)
              have e1 : ((k : Int) - 1).toNat = k - 1 := by omega
              have e2 : (0 : Int) ≤ (k : Int) - 1 := by omega
              have e3 : IntKind.i64.wrap (pp.at_ + (pp.less.length : Int)) = pp.at_ + (pp.less.length : Int) := IntWalk.i64_in _ (by omega)
              have u0 := BW.cell u0
              have u1 := BW.cell u1
              have u2 := BW.cell u2
              by_cases h6 : hh.at_ ≤ pp.at_ + (pp.less.length : Int)
              · have h6d := dec_le_t h6
                have HN := Lib.hid (hunks_f2 hlt h5 (by rw [← HE.out, ← HP.out]; exact h6))
                go_wp2
                refine wp_region_bw (by kernel_rfl) (by kernel_rfl) ?_
                repeat (go_big_quiet_step ((first | (go_at_call 96; exact Calls.bw_same (l1In_is _ _ _ _ h1)) | (go_at_call 64; first | with_reducible exact Calls.bw_same (l1Ok_is _ _ _ (hl1.bw _).rd h2) | exact Calls.bw_same (l1Ok_is _ _ _ (hl2.bw _).rd h3)))))
                refine wpQuiet_nil ?_
                rintro w1 ⟨⟨_, hbw⟩, rfl⟩
                go_wp2
                go_ret
                exact ⟨ret_bool HN.out.symm, hbb.trans (hbw.mono hbb.size)⟩
              · have h6d := dec_le_f h6
                have HN := Lib.hid (show hunkB (d.getD k noHunk) = true ∧ gapB d k = true from ⟨by rw [getD_hunk hlt, ← HE.out]; exact hunk_good h1 h2 h3 h4, by rw [gapB_pos h5 hlt, ← HE.out, ← HP.out]; exact decide_eq_true (by omega)⟩)
                go_wp2
                refine wp_region_bw (by kernel_rfl) (by kernel_rfl) ?_
                repeat (go_big_quiet_step ((first | (go_at_call 96; exact Calls.bw_same (l1In_is _ _ _ _ h1)) | (go_at_call 64; first | with_reducible exact Calls.bw_same (l1Ok_is _ _ _ (hl1.bw _).rd h2) | exact Calls.bw_same (l1Ok_is _ _ _ (hl2.bw _).rd h3)))))
                refine wpQuiet_nil ?_
                rintro w1 ⟨⟨_, hbw⟩, rfl⟩
                go_wp2
                go_roundw
                case rel => exact ⟨⟨k + 1, by omega, by go_num, by show ∀ _, _; intro j hj; by_cases e : j < k; exact HA.out j e; exact (show j = k by omega) ▸ HN.out⟩, hbb.trans (hbw.mono hbb.size)⟩
                case measure => simp [intOf]; omega
            · have h5d : decide (0 < k) = false := decide_eq_false h5
              have hpa : -1000000 ≤ hh.at_ ∧ hh.at_ ≤ 1000000 := by omega
              have hpl : hh.less.length ≤ 1000000 := by omega
              have HN := Lib.hid (show hunkB (d.getD k noHunk) = true ∧ gapB d k = true from ⟨by rw [getD_hunk hlt, ← HE.out]; exact hunk_good h1 h2 h3 h4, gap_zero h5⟩)
              go_wp2
              refine wp_region_bw (by kernel_rfl) (by kernel_rfl) ?_
              repeat (go_big_quiet_step ((first | (go_at_call 96; exact Calls.bw_same (l1In_is _ _ _ _ h1)) | (go_at_call 64; first | with_reducible exact Calls.bw_same (l1Ok_is _ _ _ (hl1.bw _).rd h2) | exact Calls.bw_same (l1Ok_is _ _ _ (hl2.bw _).rd h3)))))
              refine wpQuiet_nil ?_
              rintro w1 ⟨⟨_, hbw⟩, rfl⟩
              go_wp2
              go_roundw
              case rel => exact ⟨⟨k + 1, by omega, by go_num, by show ∀ _, _; intro j hj; by_cases e : j < k; exact HA.out j e; exact (show j = k by omega) ▸ HN.out⟩, hbb.trans (hbw.mono hbb.size)⟩
              case measure => simp [intOf]; omega
    · go_wp2
      go_ret
      exact ⟨ret_bool (by rw [patchB, hunksB_t (fun i hi => HA.out i (by omega))]; simp; try omega), hb⟩

theorem patchOk_is {S : Nat → Prop} (v : Value) (d : List Hunk) (w : World) (hv : rd S w [v] d) {b : Bool} (h : patchB d = b) :
    Calls Tryz.prog 50 #[v] w fun e w' => e = .returned (.bool b) ∧ Below w.heap.size w w' := by rw [← h]; exact patchOk_any v d w hv
theorem l2Ok_is {S : Nat → Prop} (v : Value) (d : List Hunk) (w : World) (hv : rd S w [v] d) {b : Bool} (h : patchB d = b) :
    Calls Tryz.prog 74 #[v] w fun e w' => e = .returned (.bool b) ∧ Below w.heap.size w w' := by rw [← h]; exact l2Ok_any v d w hv
end Go.Proofs.YthddcfbjgcbioaaGreatDoor
namespace Go.Vc
open Go.RowKit Go.Proofs
open Rep (rd)
open Own (own)
theorem changeB_12 {c : Change} (hk : c.kind = 1 ∨ c.kind = 2) : changeB c = (pathB c.path && (textB c.text && (decide (c.dst = ⟨#[]⟩) && decide (c.patch.length = 0)))) := by unfold changeB; rw [if_pos hk]
theorem changeB_3 {c : Change} (hk : c.kind = 3) : changeB c = (pathB c.path && (decide (c.text.length = 0) && (decide (c.dst = ⟨#[]⟩) && (decide (0 < c.patch.length) && patchB c.patch)))) := by unfold changeB; rw [if_neg (by omega), if_pos hk]
theorem changeB_4 {c : Change} (hk : c.kind = 4) : changeB c = (pathB c.path && (decide (c.text.length = 0) && (decide (c.patch.length = 0) && (pathB c.dst && decide (¬ c.dst = c.path))))) := by unfold changeB; rw [if_neg (by omega), if_neg (by omega), if_pos hk]
theorem changeB_0 {c : Change} (h1 : ¬ c.kind = 1) (h2 : ¬ c.kind = 2) (h3 : ¬ c.kind = 3) (h4 : ¬ c.kind = 4) : changeB c = false := by unfold changeB; rw [if_neg (fun h => h.elim h1 h2), if_neg h3, if_neg h4]
theorem changeB_np {c : Change} (h : pathB c.path = false) : changeB c = false := by
  cases hb : changeB c with
  | false => rfl
  | true => rw [changeB_path hb] at h; cases h
theorem beq_t {a b : Int} (h : a = b) : (a == b) = true := by rw [h]; simp
theorem beq_f {a b : Int} (h : ¬ a = b) : (a == b) = false := by simp [h]
theorem str_ne_t {a b : ByteArray} (h : ¬ a = b) : (a.toList != b.toList) = true := by
  have : (a.toList == b.toList) = false := by rw [toList_beq]; exact decide_eq_false h
  simp [bne, this]
theorem pathsC_next {M ol : List ByteArray} {list : List Change} {k : Nat} (H : M = ol ++ pathsC (list.drop k)) (h : k < list.length) : M = (ol ++ ppC list[k]) ++ pathsC (list.drop (k + 1)) := by
  rw [H, drop_cons list k h, pathsC, List.append_assoc]
theorem pathsC_end {M ol : List ByteArray} {list : List Change} {k : Nat} (H : M = ol ++ pathsC (list.drop k)) (h : ¬ k < list.length) : M = ol := by rw [H, drop_nil list k h]; simp [pathsC]
theorem grew_cell {α : Type} [Own α] [Tid α] {B m : Nat} {w w' : World} {v' : Value} {xs : List α} (h : Grew B m w w' v' xs) {p : Addr} {u : Value} (hc : w.cell? p = some u) (hp : p.block < B ∨ m ≤ p.block) : w'.cell? p = some u := by
  rw [World.cell?_of_block (w := w) (h.rest p.block (World.block_lt_of_cell? w p hc) hp)]; exact hc
theorem pp_len (c : Change) : (ppC c).length ≤ 2 := by unfold ppC; split <;> simp
theorem pathsC_len : ∀ (list : List Change), (pathsC list).length ≤ 2 * list.length
  | [] => by simp [pathsC]
  | c :: l => by
    have h1 := pathsC_len l
    have h2 := pp_len c
    rw [pathsC, List.length_append, List.length_cons]
    omega
/-- the paths, as the program hands them back -/
def changesPathsI (list : List Change) : List ByteArray := if changesB list = true then sortS (pathsC list) else []
theorem chk_next {list : List Change} {k : Nat} {M P : Bool} (H : M = ((list.drop k).all changeB && P)) (h : k < list.length) (hc : changeB list[k] = true) : M = ((list.drop (k + 1)).all changeB && P) := by
  rw [H, drop_cons list k h, List.all_cons, hc, Bool.true_and]
theorem chk_stop {list : List Change} {k : Nat} {M P : Bool} (H : M = ((list.drop k).all changeB && P)) (h : k < list.length) (hc : changeB list[k] = false) : M = false := by
  rw [H, drop_cons list k h, List.all_cons, hc]; rfl
theorem chk_end {list : List Change} {k : Nat} {M P : Bool} (H : M = ((list.drop k).all changeB && P)) (h : ¬ k < list.length) : M = P := by rw [H, drop_nil list k h]; rfl
theorem changesB_long {list : List Change} (h : ¬ list.length ≤ 16) : changesB list = false := by unfold changesB; rw [decide_eq_false h]; rfl
theorem changesB_few {list : List Change} (h : list.length ≤ 16) : changesB list = (list.all changeB && decide (pathsC list).Nodup) := by unfold changesB; rw [decide_eq_true h]; rfl
theorem nodup_comp (xs : List ByteArray) : (((compS (sortS xs)).length : Int) == ((sortS xs).length : Int)) = decide xs.Nodup := by
  rw [sortS_len]
  by_cases h : xs.Nodup
  · rw [decide_eq_true h, (comp_nodup xs).2 h]; simp
  · rw [decide_eq_false h, beq_eq_false_iff_ne]
    intro e
    exact h ((comp_nodup xs).1 (by omega))
theorem ownsRow_low {w : World} {b : Nat} {e : TypeId} {sz : Nat} {v : Value} {n : Nat} {xs : List Value} (h : w.ownsRow b e sz v n xs) : w.ownsRow 0 e sz v n xs := ⟨h.1, by
  rcases h.2 with h | ⟨g, cap, cur, h1, _, h3⟩
  · exact .inl h
  · exact .inr ⟨g, cap, cur, h1, Nat.zero_le _, h3⟩⟩
end Go.Vc
namespace Go.Proofs.YthddcfbjgcbioaaGreatDoor
open Go.RowKit Go.Vc
open Go.Vc.Rep (rd)
open Go.Vc.Own (own)
set_option maxHeartbeats 4000000 in
theorem clone_any {S : Nat → Prop} (v : Value) (xs : List ByteArray) (w : World) (hv : rd S w [v] xs) (hl : xs.length ≤ 1000) :
    Calls Tryz.prog 32 #[v] w fun e w' => ∃ v', e = .returned v' ∧ Fresh w.heap.size w'.heap.size w' [v'] xs ∧ Below w.heap.size w w' := by
  obtain ⟨a, cap, rfl, hs⟩ := rd_slice_elim hv
  have hz : ∀ x, x ∈ xs → x.size ≤ maxLen := fun x hx => by
    obtain ⟨i, hi, rfl⟩ := List.getElem_of_mem hx
    obtain ⟨_, _, _, _, h⟩ := hs.str hi
    exact h
  have key : ∀ (w' : World) (v' : Value), w'.ownsRow w.heap.size (Tid.tid ByteArray) 1 v' xs.length (xs.map Value.string) → v' ≠ .slice none 0 0 → Fresh w.heap.size w'.heap.size w' [v'] xs := fun w' v' ho hn => by
    rcases ho.2 with ⟨h, _⟩ | ⟨g, c, cur, h1, h2, h3, _⟩
    · exact absurd h hn
    · subst h1
      refine ⟨[g], own_strs rfl (ownsRow_low ho) hz, by simp, fun b hb => ?_⟩
      rw [List.mem_singleton] at hb
      subst hb
      exact ⟨h2, (Array.getElem?_eq_some_iff.1 h3).1⟩
  cases a with
  | none =>
    have h0 : xs = [] := by
      cases xs with
      | nil => rfl
      | cons x r => obtain ⟨_, _, h, _⟩ := hs.str (i := 0) (by simp); cases h
    subst h0
    refine (Tryz.slices_Clone_string_nil 0 cap w).mono fun e w' h => ?_
    obtain ⟨rfl, rfl⟩ := h
    exact ⟨_, rfl, Fresh.nil (β := ByteArray) _ _ _ Nat.one_pos, Below.refl _ _⟩
  | some ad =>
    by_cases h0 : xs = []
    · subst h0
      refine (Tryz.slices_Clone_string_zero ad cap w).mono fun e w' h => ?_
      obtain ⟨v', rfl, ho, hn, hb⟩ := h
      exact ⟨v', rfl, key w' v' ho hn, hb⟩
    · have hpos := List.length_pos_iff.2 h0
      obtain ⟨g, off, hag, _, _⟩ := hs.str (i := 0) hpos
      cases hag
      refine (Tryz.slices_Clone_string g off xs.length cap xs w (Nat.le_refl _) (by omega) (fun j hj => ?_)).mono fun e w' h => ?_
      · obtain ⟨g', off', hag, hc, _⟩ := hs.str hj
        cases hag
        rw [hc]
        simp [List.getD, hj]
      · obtain ⟨v', rfl, ho, hn, hb⟩ := h
        rw [List.take_length] at ho
        exact ⟨v', rfl, key w' v' ho hn, hb⟩
set_option maxHeartbeats 8000000 in
set_option maxRecDepth 100000 in
theorem changeOk_is {S T : Nat → Prop} (c : Change) {a3 a4 : Option Addr} {c3 c4 : Nat} (w : World) (h3 : IsSlice S w a3 c3 c.text) (h4 : IsSlice T w a4 c4 c.patch) (hz : c.path.size ≤ maxLen) (hS : ShortS c.path) (hS2 : ShortS c.dst) (hM : ML w) {b : Bool} (hb : changeB c = b) :
    Calls Tryz.prog 30 #[.agg #[.int .i64 c.kind, .string c.path, .string c.dst, .slice a3 c.text.length c3, .slice a4 c.patch.length c4]] w fun e w' => e = .returned (.bool b) ∧ Below w.heap.size w w' := by
  have h3 := h3.lt
  have h4 := h4.lt
  obtain ⟨wb, hwb⟩ : ∃ wb, wb = w.alloc (.cells #[.int .i64 c.kind, .string c.path, .string c.dst, .slice a3 c.text.length c3, .slice a4 c.patch.length c4] 49) := ⟨_, rfl⟩
  obtain ⟨hB0, hsb, hq⟩ := boxed (vs := [.int .i64 c.kind, .string c.path, .string c.dst, .slice a3 c.text.length c3, .slice a4 c.patch.length c4]) hwb
  have q0 := hq 0 _ rfl
  have q1 := hq 1 _ rfl
  have q2 := hq 2 _ rfl
  have q3 := hq 3 _ rfl
  have q4 := hq 4 _ rfl
  have HB := Lib.hid hb
  have H12 := Lib.hid (changeB_12 (c := c))
  have H3 := Lib.hid (changeB_3 (c := c))
  have H4 := Lib.hid (changeB_4 (c := c))
  have H0 := Lib.hid (changeB_0 (c := c))
  have HNP := Lib.hid (changeB_np (c := c))
  have hMb := hM.keep hB0
  have hsb2 : w.heap.size < wb.heap.size := by omega
  obtain ⟨cb, hcb⟩ : ∃ cb, cb = changeB c := ⟨_, rfl⟩
  rw [← hcb] at HB H12 H3 H4 H0 HNP
  obtain ⟨kd, hkd⟩ : ∃ kd, kd = c.kind := ⟨_, rfl⟩
  obtain ⟨p, hp⟩ : ∃ p, p = c.path := ⟨_, rfl⟩
  obtain ⟨d, hd⟩ : ∃ d, d = c.dst := ⟨_, rfl⟩
  obtain ⟨tx, htx⟩ : ∃ tx, tx = c.text := ⟨_, rfl⟩
  obtain ⟨pt, hpt⟩ : ∃ pt, pt = c.patch := ⟨_, rfl⟩
  rw [← hkd] at hwb H12 H3 H4 H0 ⊢
  rw [← hp] at hwb H12 H3 H4 ⊢
  rw [← hd] at hwb H12 H3 H4 ⊢
  rw [← htx] at hwb H12 H3 H4 ⊢
  rw [← hpt] at hwb H12 H3 H4 ⊢
  rw [← hp] at HNP hz hS q1
  rw [← hd] at hS2 q2
  rw [← hkd] at q0
  rw [← htx] at q3 h3
  rw [← hpt] at q4 h4
  have HW := Lib.hid hwb
  clear hwb hq hb hcb hkd hp hd htx hpt hsb
  cases hpb : pathB p with
  | false =>
    have HR : Hid (b = false) := by show _ = _; rw [← HB.out]; exact HNP.out hpb
    clear H12 H3 H4 H0 HNP HB
    go_enter Tryz.func30, Tryz.ntmps30
    go_wp2_with fail
    rw [← HW.out]
    refine (pathOk_is p _ hS hMb hpb).mono ?_
    rintro e w1 ⟨rfl, hb1⟩
    go_wp2
    go_ret
    exact ⟨by rw [HR.out]; rfl, hB0.trans (hb1.mono hB0.size)⟩
  | true =>
    go_enter Tryz.func30, Tryz.ntmps30
    go_wp2_with fail
    rw [← HW.out]
    refine (pathOk_is p _ hS hMb hpb).mono ?_
    rintro e w1 ⟨rfl, hb1⟩
    have hs1 := hb1.size
    have q0 := keepc q0 hb1
    have q1 := keepc q1 hb1
    have q2 := keepc q2 hb1
    have q3 := keepc q3 hb1
    have q4 := keepc q4 hb1
    have HBW := hB0.trans (hb1.mono hB0.size)
    have hM1 := hM.keep HBW
    have h3 := h3.keep HBW
    have h4 := h4.keep HBW
    clear hb1 HW HNP
    by_cases k1 : kd = 1
    · have HK := Lib.hid (H12.out (.inl k1))
      have j1 := beq_t k1
      clear k1 H12 H3 H4 H0
      cases ht : textB tx with
      | false =>
        have HR : Hid (b = false) := by show _ = _; rw [← HB.out, HK.out, ht]; simp
        clear HK HB
        go_wp2_with fail
        refine (textOk_is _ tx _ h3.rd ht).mono ?_
        rintro e w2 ⟨rfl, rfl⟩
        go_wp2
        go_ret
        exact ⟨by rw [HR.out]; rfl, HBW⟩
      | true =>
        go_wp2_with fail
        refine (textOk_is _ tx _ h3.rd ht).mono ?_
        rintro e w2 ⟨rfl, rfl⟩
        by_cases hde : d = ⟨#[]⟩
        · have he := empty_t hde
          by_cases hpl : pt.length = 0
          · have HR : Hid (b = true) := by show _ = _; rw [← HB.out, HK.out, hpb, ht, decide_eq_true hde, decide_eq_true hpl]; rfl
            have hpl2 := beq_t (show (pt.length : Int) = 0 from by omega)
            clear HK HB hde hpl
            go_wp2
            go_ret
            exact ⟨by rw [HR.out]; rfl, HBW⟩
          · have HR : Hid (b = false) := by show _ = _; rw [← HB.out, HK.out, decide_eq_false hpl]; simp
            have hpl2 := beq_f (show ¬ (pt.length : Int) = 0 from by omega)
            clear HK HB hde hpl
            go_wp2
            go_ret
            exact ⟨by rw [HR.out]; rfl, HBW⟩
        · have he := empty_f hde
          have HR : Hid (b = false) := by show _ = _; rw [← HB.out, HK.out, decide_eq_false hde]; simp
          clear HK HB hde
          go_wp2
          go_ret
          exact ⟨by rw [HR.out]; rfl, HBW⟩
    · have j1 := beq_f k1
      by_cases k2 : kd = 2
      · have HK := Lib.hid (H12.out (.inr k2))
        have j2 := beq_t k2
        clear k1 k2 H12 H3 H4 H0
        cases ht : textB tx with
        | false =>
          have HR : Hid (b = false) := by show _ = _; rw [← HB.out, HK.out, ht]; simp
          clear HK HB
          go_wp2_with fail
          refine (textOk_is _ tx _ h3.rd ht).mono ?_
          rintro e w2 ⟨rfl, rfl⟩
          go_wp2
          go_ret
          exact ⟨by rw [HR.out]; rfl, HBW⟩
        | true =>
          go_wp2_with fail
          refine (textOk_is _ tx _ h3.rd ht).mono ?_
          rintro e w2 ⟨rfl, rfl⟩
          by_cases hde : d = ⟨#[]⟩
          · have he := empty_t hde
            by_cases hpl : pt.length = 0
            · have HR : Hid (b = true) := by show _ = _; rw [← HB.out, HK.out, hpb, ht, decide_eq_true hde, decide_eq_true hpl]; rfl
              have hpl2 := beq_t (show (pt.length : Int) = 0 from by omega)
              clear HK HB hde hpl
              go_wp2
              go_ret
              exact ⟨by rw [HR.out]; rfl, HBW⟩
            · have HR : Hid (b = false) := by show _ = _; rw [← HB.out, HK.out, decide_eq_false hpl]; simp
              have hpl2 := beq_f (show ¬ (pt.length : Int) = 0 from by omega)
              clear HK HB hde hpl
              go_wp2
              go_ret
              exact ⟨by rw [HR.out]; rfl, HBW⟩
          · have he := empty_f hde
            have HR : Hid (b = false) := by show _ = _; rw [← HB.out, HK.out, decide_eq_false hde]; simp
            clear HK HB hde
            go_wp2
            go_ret
            exact ⟨by rw [HR.out]; rfl, HBW⟩
      · have j2 := beq_f k2
        by_cases k3 : kd = 3
        · have HK := Lib.hid (H3.out k3)
          have j3 := beq_t k3
          clear k1 k2 k3 H12 H3 H4 H0
          by_cases htl : tx.length = 0
          · have htl2 := beq_t (show (tx.length : Int) = 0 from by omega)
            by_cases hde : d = ⟨#[]⟩
            · have he := empty_t hde
              by_cases hpl : 0 < pt.length
              · cases hpo : patchB pt with
                | false =>
                  have HR : Hid (b = false) := by show _ = _; rw [← HB.out, HK.out, hpo]; simp
                  clear HK HB hde htl
                  go_wp2_with fail
                  refine (patchOk_is _ pt _ h4.rd hpo).mono ?_
                  rintro e w2 ⟨rfl, hb2⟩
                  have HBW := HBW.trans (hb2.mono HBW.size)
                  go_wp2
                  go_ret
                  exact ⟨by rw [HR.out]; rfl, HBW⟩
                | true =>
                  have HR : Hid (b = true) := by show _ = _; rw [← HB.out, HK.out, hpb, decide_eq_true htl, decide_eq_true hde, decide_eq_true hpl, hpo]; rfl
                  clear HK HB hde htl
                  go_wp2_with fail
                  refine (patchOk_is _ pt _ h4.rd hpo).mono ?_
                  rintro e w2 ⟨rfl, hb2⟩
                  have HBW := HBW.trans (hb2.mono HBW.size)
                  go_wp2
                  go_ret
                  exact ⟨by rw [HR.out]; rfl, HBW⟩
              · have HR : Hid (b = false) := by show _ = _; rw [← HB.out, HK.out, decide_eq_false hpl]; simp
                clear HK HB hde htl
                go_wp2
                go_ret
                exact ⟨by rw [HR.out]; rfl, HBW⟩
            · have he := empty_f hde
              have HR : Hid (b = false) := by show _ = _; rw [← HB.out, HK.out, decide_eq_false hde]; simp
              clear HK HB hde htl
              go_wp2
              go_ret
              exact ⟨by rw [HR.out]; rfl, HBW⟩
          · have htl2 := beq_f (show ¬ (tx.length : Int) = 0 from by omega)
            have HR : Hid (b = false) := by show _ = _; rw [← HB.out, HK.out, decide_eq_false htl]; simp
            clear HK HB htl
            go_wp2
            go_ret
            exact ⟨by rw [HR.out]; rfl, HBW⟩
        · have j3 := beq_f k3
          by_cases k4 : kd = 4
          · have HK := Lib.hid (H4.out k4)
            have j4 := beq_t k4
            clear k1 k2 k3 k4 H12 H3 H4 H0
            by_cases htl : tx.length = 0
            · have htl2 := beq_t (show (tx.length : Int) = 0 from by omega)
              by_cases hpl : pt.length = 0
              · have hpl2 := beq_t (show (pt.length : Int) = 0 from by omega)
                cases hdo : pathB d with
                | false =>
                  have HR : Hid (b = false) := by show _ = _; rw [← HB.out, HK.out, hdo]; simp
                  clear HK HB htl hpl
                  go_wp2_with fail
                  refine (pathOk_is d _ hS2 hM1 hdo).mono ?_
                  rintro e w2 ⟨rfl, hb2⟩
                  have HBW := HBW.trans (hb2.mono HBW.size)
                  go_wp2
                  go_ret
                  exact ⟨by rw [HR.out]; rfl, HBW⟩
                | true =>
                  by_cases hdp : d = p
                  · have hdp2 : decide (d = p) = true := decide_eq_true hdp
                    have HR : Hid (b = false) := by show _ = _; rw [← HB.out, HK.out, decide_eq_false (fun h : ¬ d = p => h hdp)]; simp
                    clear HK HB htl hpl hdp
                    go_wp2_with fail
                    refine (pathOk_is d _ hS2 hM1 hdo).mono ?_
                    rintro e w2 ⟨rfl, hb2⟩
                    have HBW := HBW.trans (hb2.mono HBW.size)
                    have q1 := keepc q1 hb2
                    have q2 := keepc q2 hb2
                    go_wp2
                    go_ret
                    exact ⟨by rw [HR.out]; rfl, HBW⟩
                  · have hdp2 : decide (d = p) = false := decide_eq_false hdp
                    have HR : Hid (b = true) := by show _ = _; rw [← HB.out, HK.out, hpb, decide_eq_true htl, decide_eq_true hpl, hdo, decide_eq_true hdp]; rfl
                    clear HK HB htl hpl hdp
                    go_wp2_with fail
                    refine (pathOk_is d _ hS2 hM1 hdo).mono ?_
                    rintro e w2 ⟨rfl, hb2⟩
                    have HBW := HBW.trans (hb2.mono HBW.size)
                    have q1 := keepc q1 hb2
                    have q2 := keepc q2 hb2
                    go_wp2
                    go_ret
                    exact ⟨by rw [HR.out]; rfl, HBW⟩
              · have hpl2 := beq_f (show ¬ (pt.length : Int) = 0 from by omega)
                have HR : Hid (b = false) := by show _ = _; rw [← HB.out, HK.out, decide_eq_false hpl]; simp
                clear HK HB htl hpl
                go_wp2
                go_ret
                exact ⟨by rw [HR.out]; rfl, HBW⟩
            · have htl2 := beq_f (show ¬ (tx.length : Int) = 0 from by omega)
              have HR : Hid (b = false) := by show _ = _; rw [← HB.out, HK.out, decide_eq_false htl]; simp
              clear HK HB htl
              go_wp2
              go_ret
              exact ⟨by rw [HR.out]; rfl, HBW⟩
          · have j4 := beq_f k4
            have HR : Hid (b = false) := by show _ = _; rw [← HB.out]; exact H0.out k1 k2 k3 k4
            clear k1 k2 k3 k4 H12 H3 H4 H0 HB
            go_wp2
            go_ret
            exact ⟨by rw [HR.out]; rfl, HBW⟩
set_option maxHeartbeats 8000000 in
set_option maxRecDepth 100000 in
theorem pathsOf_any {S : Nat → Prop} (v : Value) (list : List Change) (w : World) (hv : rd S w [v] list) (hl : list.length ≤ 100) :
    Calls Tryz.prog 27 #[v] w fun e w' => ∃ v', e = .returned v' ∧ Fresh w.heap.size w'.heap.size w' [v'] (sortS (pathsC list)) ∧ Below w.heap.size w w' := by
  obtain ⟨a, cap, rfl, hs⟩ := rd_slice_elim (Rep.lt hv)
  have hle := hs.le
  go_enter Tryz.func27, Tryz.ntmps27
  go_wp2
  go_loopw [3, 8] (fun out i wr => (∃ (k : Nat) (ol : List ByteArray), k ≤ list.length ∧ i = .int .i64 k ∧ ol.length ≤ 2 * k ∧ Fresh w.heap.size wr.heap.size wr [out] ol ∧ Hid (pathsC list = ol ++ pathsC (list.drop k))) ∧ Below w.heap.size w wr) (fun _ i _ => list.length - (intOf i).toNat)
  case atStart => exact ⟨⟨0, [], by omega, rfl, by simp, Fresh.nil _ _ _ (by decide), rfl⟩, Below.refl _ _⟩
  case round =>
    obtain ⟨⟨k, ol, hk, rfl, hol, hF, HA⟩, hb⟩ := hrel
    obtain ⟨a2, c2, rfl, _⟩ := hF.shape
    have hsz := hb.size
    by_cases hlt : k < list.length
    · have HN := Lib.hid (pathsC_next HA.out hlt)
      obtain ⟨g, off, a3, c3, a4, c4, rfl, e0, e1, e2, e3, e4, hi0, hz1, hz2, _, _⟩ := hs.change hlt
      have e0 := keepc e0 hb
      have e1 := keepc e1 hb
      have e2 := keepc e2 hb
      have e3 := keepc e3 hb
      have e4 := keepc e4 hb
      obtain ⟨c, hc⟩ : ∃ c, c = list[k] := ⟨_, rfl⟩
      rw [← hc] at e0 e1 e2 e3 e4 hi0 hz1 hz2
      have HN : Hid (pathsC list = (ol ++ ppC c) ++ pathsC (list.drop (k + 1))) := by rw [hc]; exact HN
      obtain ⟨wc, hwc⟩ : ∃ wc, wc = wr.alloc (.cells #[.int .i64 c.kind, .string c.path, .string c.dst, .slice a3 c.text.length c3, .slice a4 c.patch.length c4] 49) := ⟨_, rfl⟩
      obtain ⟨hB1, hsc, hq1⟩ := boxed (vs := [.int .i64 c.kind, .string c.path, .string c.dst, .slice a3 c.text.length c3, .slice a4 c.patch.length c4]) hwc
      have p0 := hq1 0 _ rfl
      have p1 := hq1 1 _ rfl
      have p2 := hq1 2 _ rfl
      have p3 := hq1 3 _ rfl
      have p4 := hq1 4 _ rfl
      have hF := (hF.below (Nat.le_refl _) hB1)
      have hb3 := hb.trans (hB1.mono hsz)
      have hsr2 := hb3.size
      have q0 := p0
      have q2 := p2
      have HSC := Lib.hid hsc
      obtain ⟨kd, hkd⟩ : ∃ kd, kd = c.kind := ⟨_, rfl⟩
      have HK := Lib.hid hkd
      rw [← hkd] at q0
      have HWC := Lib.hid hwc
      rw [hwc, ← hkd] at p0 p1 p2 p3 p4
      rw [← hkd] at e0 hi0
      have HWC2 : Hid (wc = wr.alloc (.cells #[.int .i64 kd, .string c.path, .string c.dst, .slice a3 c.text.length c3, .slice a4 c.patch.length c4] 49)) := by show _ = _; rw [HK.out]; exact HWC.out
      clear hq1 hwc hsc hc hkd HWC
      by_cases k4 : kd = 4
      · have j4 := beq_t k4
        have HP : Hid (ppC c = [c.path, c.dst]) := by show _ = _; unfold ppC; rw [if_pos (by rw [← HK.out]; exact k4)]
        clear k4 HK
        go_wp2_with (first
          | (at_builtin; rw [← HWC2.out]; (refine wpList_app_one slz_string.slt rfl (.tmp 12) (.tmp 15) rfl rfl (hF.alloc _) (le_alloc hsr2 _) rfl (heap_new_at HSC.out.symm) (Fresh.leaf (α := ByteArray) (m := wr.heap.size) (own_strp hz1 _)) hsz (by omega) (by unfold maxLen; omega) ?_); intro a5 c5 w5 hG5; have p0 := grew_cell hG5 (keepc q0 ((Below.refl _ _).alloc (Nat.le_refl _) (.cells #[.string c.path] (Tid.tid ByteArray)))) (.inr (Nat.le_refl _)); have p2 := grew_cell hG5 (keepc q2 ((Below.refl _ _).alloc (Nat.le_refl _) (.cells #[.string c.path] (Tid.tid ByteArray)))) (.inr (Nat.le_refl _)); have hb5 := (hb3.alloc hsr2 _).trans hG5.below; have hs5 := hb5.size; have hF5 := hG5.fresh; clear hG5)
          | (at_builtin; go_must (refine wpList_app_one slz_string.slt rfl (.tmp 20) (.tmp 23) rfl rfl (hF5.alloc _) (le_alloc hs5 _) rfl (heap_alloc_new _ _) (Fresh.leaf (α := ByteArray) (m := w5.heap.size) (own_strp hz2 _)) hs5 (by simp; omega) (by unfold maxLen; simp; omega) ?_); intro a6 c6 w6 hG6))
        go_roundw
        case rel => exact ⟨⟨k + 1, ol ++ ppC c, by omega, by go_num, by rw [HP.out]; simp; omega, by have := hG6.fresh; rw [HP.out]; simpa using this, HN.out⟩, (hb5.alloc hs5 _).trans hG6.below⟩
        case measure => simp [intOf] <;> omega
      · have j4 := beq_f k4
        have HP : Hid (ppC c = [c.path]) := by show _ = _; unfold ppC; rw [if_neg (by rw [← HK.out]; exact k4)]
        clear k4 HK
        go_wp2_with (at_builtin; rw [← HWC2.out]; (refine wpList_app_one slz_string.slt rfl (.tmp 12) (.tmp 15) rfl rfl (hF.alloc _) (le_alloc hsr2 _) rfl (heap_new_at HSC.out.symm) (Fresh.leaf (α := ByteArray) (m := wr.heap.size) (own_strp hz1 _)) hsz (by omega) (by unfold maxLen; omega) ?_); intro a5 c5 w5 hG5; have p0 := grew_cell hG5 (keepc q0 ((Below.refl _ _).alloc (Nat.le_refl _) (.cells #[.string c.path] (Tid.tid ByteArray)))) (.inr (Nat.le_refl _)); have p2 := grew_cell hG5 (keepc q2 ((Below.refl _ _).alloc (Nat.le_refl _) (.cells #[.string c.path] (Tid.tid ByteArray)))) (.inr (Nat.le_refl _)); have hb5 := (hb3.alloc hsr2 _).trans hG5.below; have hs5 := hb5.size; have hF5 := hG5.fresh; clear hG5)
        go_roundw
        case rel => exact ⟨⟨k + 1, ol ++ ppC c, by omega, by go_num, by rw [HP.out]; simp; omega, by have := hF5; rw [HP.out]; simpa using this, HN.out⟩, hb5⟩
        case measure => simp [intOf] <;> omega
    · have HN := Lib.hid (pathsC_end HA.out hlt)
      have hl9 : ol.length ≤ 1000 := by omega
      go_wp2_with fail
      refine (sort_any _ ol _ hF (by omega) hl9).mono ?_
      rintro e w3 ⟨rfl, hF3, hb3⟩
      go_wp2
      go_ret
      exact ⟨_, rfl, by rw [HN.out]; exact hF3, hb.trans hb3⟩
set_option maxHeartbeats 8000000 in
set_option maxRecDepth 100000 in
theorem changesOk_is {S : Nat → Prop} (v : Value) (list : List Change) (w : World) (hv : rd S w [v] list) (hS : ∀ c, c ∈ list → ShortS c.path ∧ ShortS c.dst) (hM : ML w) {b : Bool} (hb : changesB list = b) :
    Calls Tryz.prog 9 #[v] w fun e w' => e = .returned (.bool b) ∧ Below w.heap.size w w' := by
  obtain ⟨a, cap, rfl, hs⟩ := rd_slice_elim (Rep.lt hv)
  have hle := hs.le
  by_cases h16 : list.length ≤ 16
  case neg =>
    have HR : Hid (b = false) := by show _ = _; rw [← hb]; exact changesB_long h16
    clear hb
    go_enter Tryz.func9, Tryz.ntmps9
    go_wp2
    go_ret
    exact ⟨by rw [HR.out]; rfl, Below.refl _ _⟩
  case pos =>
    have HB : Hid (b = (list.all changeB && decide (pathsC list).Nodup)) := by show _ = _; rw [← hb]; exact changesB_few h16
    clear hb
    go_enter Tryz.func9, Tryz.ntmps9
    go_wp2
    go_loopw [11] (fun i wr => (∃ (k : Nat), k ≤ list.length ∧ i = .int .i64 k ∧ Hid (b = ((list.drop k).all changeB && decide (pathsC list).Nodup))) ∧ Below w.heap.size w wr) (fun i _ => list.length - (intOf i).toNat)
    case atStart => exact ⟨⟨0, by omega, rfl, HB⟩, Below.refl _ _⟩
    case round =>
      obtain ⟨⟨k, hk, rfl, HA⟩, hbw⟩ := hrel
      clear HB
      have hsz := hbw.size
      by_cases hlt : k < list.length
      · obtain ⟨g, off, a3, c3, a4, c4, rfl, e0, e1, e2, e3, e4, hi0, hz1, hz2, h3, h4⟩ := hs.change hlt
        have e0 := keepc e0 hbw
        have e1 := keepc e1 hbw
        have e2 := keepc e2 hbw
        have e3 := keepc e3 hbw
        have e4 := keepc e4 hbw
        have hSc := hS list[k] (List.getElem_mem hlt)
        have HT := Lib.hid (fun h => chk_next (P := decide (pathsC list).Nodup) HA.out hlt h)
        have HF := Lib.hid (fun h => chk_stop (P := decide (pathsC list).Nodup) HA.out hlt h)
        obtain ⟨c, hc⟩ : ∃ c, c = list[k] := ⟨_, rfl⟩
        rw [← hc] at e0 e1 e2 e3 e4 hi0 hz1 hz2 h3 h4 hSc HT HF
        obtain ⟨wc, hwc⟩ : ∃ wc, wc = wr.alloc (.cells #[.int .i64 c.kind, .string c.path, .string c.dst, .slice a3 c.text.length c3, .slice a4 c.patch.length c4] 49) := ⟨_, rfl⟩
        obtain ⟨hB1, hsc, hq1⟩ := boxed (vs := [.int .i64 c.kind, .string c.path, .string c.dst, .slice a3 c.text.length c3, .slice a4 c.patch.length c4]) hwc
        have p0 := hq1 0 _ rfl
        have p1 := hq1 1 _ rfl
        have p2 := hq1 2 _ rfl
        have p3 := hq1 3 _ rfl
        have p4 := hq1 4 _ rfl
        have hb3 := hbw.trans (hB1.mono hsz)
        have h3 := h3.keep hb3
        have h4 := h4.keep hb3
        have hMc := hM.keep hb3
        have HWC := Lib.hid hwc
        rw [hwc] at p0 p1 p2 p3 p4
        clear hq1 hwc hsc hc
        cases hcb : changeB c with
        | false =>
          have HR : Hid (b = false) := HF.out hcb
          go_wp2_with fail
          rw [← HWC.out]
          refine (changeOk_is c _ h3 h4 hz1 hSc.1 hSc.2 hMc hcb).mono ?_
          rintro e w5 ⟨rfl, hb5⟩
          go_wp2
          go_ret
          exact ⟨by rw [HR.out]; rfl, hb3.trans (hb5.mono hb3.size)⟩
        | true =>
          have HN := Lib.hid (HT.out hcb)
          go_wp2_with fail
          rw [← HWC.out]
          refine (changeOk_is c _ h3 h4 hz1 hSc.1 hSc.2 hMc hcb).mono ?_
          rintro e w5 ⟨rfl, hb5⟩
          go_wp2
          go_roundw
          case rel => exact ⟨⟨k + 1, by omega, by go_num, HN.out⟩, hb3.trans (hb5.mono hb3.size)⟩
          case measure => simp [intOf] <;> omega
      · have HN := Lib.hid (chk_end HA.out hlt)
        have hs2 := hs.keep hbw
        have hl2 := pathsC_len list
        go_wp2_with fail
        refine (pathsOf_any _ list _ hs2.rd (by omega)).mono ?_
        rintro e w2 ⟨v2, rfl, hF2, hb2⟩
        have hb2 := hbw.trans (hb2.mono hsz)
        obtain ⟨pl, hpl⟩ : ∃ pl, pl = sortS (pathsC list) := ⟨_, rfl⟩
        have hl3 : pl.length ≤ 1000 := by rw [hpl, sortS_len]; omega
        have HL : Hid ((((compS pl).length : Int) == (pl.length : Int)) = decide (pathsC list).Nodup) := by show _ = _; rw [hpl]; exact nodup_comp _
        rw [← hpl] at hF2
        clear hpl
        go_wp2_with fail
        refine (clone_any _ pl _ hF2.rd hl3).mono ?_
        rintro e w3 ⟨v3, rfl, hF3, hb3⟩
        obtain ⟨ap, cp, rfl, _⟩ := hF2.shape
        have hb3' := hb2.trans (hb3.mono hb2.size)
        go_wp2_with fail
        refine (compact_any _ pl _ hF3 hb3.size hl3).mono ?_
        rintro e w4 ⟨v4, rfl, hF4, hb4⟩
        have hb4' := hb3'.trans (hb4.mono (by have := hb2.size; omega))
        obtain ⟨aq, cq, rfl, _⟩ := hF4.shape
        go_wp2
        go_ret
        exact ⟨by rw [HN.out, ← HL.out]; rfl, hb4'⟩
set_option maxHeartbeats 4000000 in
set_option maxRecDepth 100000 in
theorem changesPaths_any {S : Nat → Prop} (v : Value) (list : List Change) (w : World) (hv : rd S w [v] list) (hS : ∀ c, c ∈ list → ShortS c.path ∧ ShortS c.dst) (hM : ML w) :
    Calls Tryz.prog 6 #[v] w fun e w' => ∃ v', e = .returned v' ∧ Fresh w.heap.size w'.heap.size w' [v'] (changesPathsI list) ∧ Below w.heap.size w w' := by
  cases hcb : changesB list with
  | false =>
    have HR : Hid (changesPathsI list = []) := by show _ = _; unfold changesPathsI; rw [hcb]; rfl
    go_enter Tryz.func6, Tryz.ntmps6
    go_wp2_with fail
    refine (changesOk_is v list _ hv hS hM hcb).mono ?_
    rintro e w1 ⟨rfl, hb1⟩
    go_wp2
    go_ret
    exact ⟨_, rfl, by rw [HR.out]; exact Fresh.nil (β := ByteArray) _ _ _ Nat.one_pos, hb1⟩
  | true =>
    have HR : Hid (changesPathsI list = sortS (pathsC list)) := by show _ = _; unfold changesPathsI; rw [hcb, if_pos rfl]
    have h16 := ((changesB_iff list).1 hcb).1
    go_enter Tryz.func6, Tryz.ntmps6
    go_wp2_with fail
    refine (changesOk_is v list _ hv hS hM hcb).mono ?_
    rintro e w1 ⟨rfl, hb1⟩
    have hv1 := Rep.keep (Rep.lt hv) hb1
    go_wp2_with fail
    refine (pathsOf_any v list _ hv1 (by omega)).mono ?_
    rintro e w2 ⟨v2, rfl, hF2, hb2⟩
    go_wp2
    go_ret
    exact ⟨_, rfl, by rw [HR.out]; exact hF2.mono hb1.size (Nat.le_refl _), hb1.trans (hb2.mono hb1.size)⟩
end Go.Proofs.YthddcfbjgcbioaaGreatDoor
