/-
  Walks: a text turned.
-/
import Derived.Test.YtlpfoekbccbhlaaVDR
import Derived.Test.YtlpfoekbccbhlaaVB
namespace Go.Proofs.Ytlpfoekbccbhlaa
open Go.RowKit Go.Vc
open Go.Vc.Rep (rd)
open Go.Vc.Own (own)

set_option maxHeartbeats 4000000 in
set_option maxRecDepth 100000 in
theorem l30Turn_any {S : Nat → Prop} (rb N : Nat) (v : Value) (xs : List ByteArray) (w : World) (h : RdOk w rb N) (hN : N ≤ 990000) (hv : rd S w [v] xs) (hx : xs.length ≤ 18) :
    Calls Try.prog 35 #[.pointer (some ⟨rb, 0, none⟩), v] w fun e w' => ∃ (v : Value) (xs : List ByteArray), e = .returned v ∧ xs.length ≤ 18 ∧ Fresh w.heap.size w'.heap.size w' [v] xs ∧ Drew rb w w' ∧ RdOk w' rb (N + 30) := by
  have hlt := h.lt
  obtain ⟨a, cap, rfl, hs⟩ := rd_slice_elim hv
  go_enter Try.func35, Try.ntmps35
  go_wp2_with (at_builtin; go_must (refine wpList_app_leaf slz_string.slt rfl (.tmp 9) (.tmp 10) rfl rfl (Fresh.empty (by decide) w.heap.size w (Nat.le_refl _)) (le_alloc (Nat.le_refl _) _) rfl rfl (hs.alloc _) (by simp <;> omega) (by unfold maxLen; simp <;> omega) ?_); intro a1 c1 w1 hG1)
  have hb1 := ((Below.refl _ w).alloc (Nat.le_refl _) _).trans hG1.below
  refine (pick_any rb N _ _ (h.below hlt hb1) (by omega) (by omega)).mono ?_
  rintro e w2 ⟨k, rfl, hk, hd2, hr2⟩
  have hk3 : k ≤ 3 := by omega
  have hd3 := (Drew.of (rb := rb) hb1).tr hd2
  have hF2 := (hd2.fresh hG1.fresh (.inl hlt)).now
  have hxl : ([] ++ xs).length ≤ 18 := by simpa using hx
  clear hk hG1 hb1 hs
  go_wp2
  go_loopw [5, 6] (fun out n wr => (∃ (ys : List ByteArray) (k : Nat), n = .int .i64 k ∧ k ≤ 3 ∧ ys.length ≤ 18 ∧ Fresh w.heap.size wr.heap.size wr [out] ys ∧ RdOk wr rb (N + 1 + 3 * (3 - k))) ∧ Drew rb w wr) (fun _ n _ => (intOf n).toNat)
  case atStart => exact ⟨⟨[] ++ xs, k, rfl, hk3, hxl, by simpa using hF2, hr2.mono (by omega)⟩, hd3⟩
  case round =>
    clear hd2 hr2 hd3 hF2 hxl hk3
    obtain ⟨⟨ys, k, rfl, hk, hyl, hF, hr⟩, hd⟩ := hrel
    obtain ⟨a2, c2, rfl, _⟩ := hF.shape
    have hsz := hd.size
    by_cases hk0 : 0 < k
    · go_wp2_with fail
      refine (pick_any rb _ _ _ hr (by omega) (by omega)).mono ?_
      rintro e w3 ⟨p, rfl, hp, hd3, hr3⟩
      have hp' : p ≤ ys.length := by omega
      go_wp2_with fail
      refine (pick_any rb _ _ _ hr3 (by omega) (by omega)).mono ?_
      rintro e w4 ⟨q, rfl, hq, hd4, hr4⟩
      have hF4 := (hd4.fresh (hd3.fresh hF (.inl hlt)).now (.inl hlt)).now
      have hd5 := (hd.tr hd3).tr hd4
      have hsz5 := hd5.size
      have hs4 := (rd_slice_of hF4.rd2).2
      clear hp hq hF hr hr3 hd3 hd4
      obtain ⟨wo, rfl⟩ : ∃ wo : World, wo = w4 := ⟨_, rfl⟩
      by_cases hq0 : q = 0
      · subst hq0
        by_cases h10 : ys.length < 10
        · have hct := run_cut0 slz_string.slt a2 ys.length c2 p (by have := hs4.1; omega)
          have hct2 := run_cut slz_string.slt a2 ys.length c2 p hp'
          have hpl : (ys.take p).length = p := by simp; omega
          go_wp2_with (at_builtin; go_must (refine wpList_app_leaf slz_string.slt rfl (.tmp 39) (.tmp 42) rfl rfl (Fresh.empty (by decide) wo.heap.size wo (Nat.le_refl _)) (le_alloc (Nat.le_refl _) _) rfl hpl.symm ((hs4.take p).alloc _) (by simp <;> omega) (by unfold maxLen; simp <;> omega) ?_); intro a5 c5 w5 hG5)
          have hF5 : Fresh wo.heap.size w5.heap.size w5 [.slice a5 p c5] (ys.take p) := by
            have := hG5.fresh
            simpa only [List.length_nil, Nat.zero_add, hpl, List.nil_append] using this
          have hb5 := ((Below.refl _ wo).alloc (Nat.le_refl _) _).trans hG5.below
          have hr5 := hr4.below (by omega) hb5
          have hs5 := hs4.frame (S' := fun b => w.heap.size ≤ b ∧ b < wo.heap.size) (w' := w5) (fun b hb _ => ⟨hb5.block b hb.2, hb⟩)
          have hd6 := hd5.belowB hb5 hsz5
          have hsz6 := hb5.size
          clear hG5 hs4 hF4 hr4
          refine (l30Line_any rb _ _ hr5 (by omega)).mono ?_
          rintro e w6 ⟨s, rfl, hss, hd7, hr7⟩
          have hF7 := (hd7.fresh hF5 (.inl (by omega))).now
          have hs7 := hd7.slice hs5 (by intro b hb; omega)
          have hd8 := hd6.tr hd7
          have hsz7 := hd7.size
          have hsrc : IsSlice (fun b => b = w6.heap.size) (w6.alloc (.cells #[.string s] (Tid.tid ByteArray))) (some ⟨w6.heap.size, 0, none⟩) 1 [s] := lit_strs [s] (heap_alloc_new _ _) (by simpa using hss) (by unfold maxLen; simp)
          have hdl : (ys.drop p).length = ys.length - p := by simp
          go_wp2_with (first
            | (at_builtin; (with_reducible refine wpList_app_leaf slz_string.slt rfl (.tmp 44) (.tmp 47) rfl rfl (hF7.alloc _) (le_alloc (by omega) _) rfl rfl hsrc (by simp <;> omega) (by unfold maxLen; simp <;> omega) ?_); intro a8 c8 w8 hG8; have hs8 := (hs7.alloc _).frame (S' := fun b => w.heap.size ≤ b ∧ b < wo.heap.size) (w' := w8) (fun b hb _ => ⟨hG8.below.block b hb.2, hb⟩); have hF8 := (show Fresh wo.heap.size w8.heap.size w8 [.slice a8 (p + 1) c8] (ys.take p ++ [s]) from (by have := hG8.fresh; rw [hpl] at this; exact this)); have hb8 := hG8.below; have hsz8 := hG8.below.size)
            | (at_builtin; go_must (refine wpList_app_leaf slz_string.slt rfl (.tmp 49) (.tmp 52) rfl rfl hF8 (by simp at hsz8; omega) rfl hdl.symm (hs8.cut hp') (by simp <;> omega) (by unfold maxLen; simp <;> omega) ?_); intro a9 c9 w9 hG9))
          have hF9 : Fresh wo.heap.size w9.heap.size w9 [.slice a9 (p + 1 + (ys.length - p)) c9] (ys.take p ++ [s] ++ ys.drop p) := by
            have := hG9.fresh
            simpa only [List.length_append, hpl, hdl, List.length_singleton] using this
          have hb9 := (((Below.refl _ w6).alloc (B := wo.heap.size) (by omega) _).trans hb8).trans hG9.below
          go_roundw
          case rel => exact ⟨⟨_, k - 1, by go_num, by omega, by simp; omega, hF9.mono hsz5 (Nat.le_refl _), (hr7.below (B := wo.heap.size) (by omega) hb9).mono (by omega)⟩, hd8.belowB hb9 hsz5⟩
          case measure => simp [intOf]; omega
        · go_wp2
          go_roundw
          case rel => exact ⟨⟨ys, k - 1, by go_num, by omega, hyl, hF4, hr4.mono (by omega)⟩, hd5⟩
          case measure => simp [intOf]; omega
      · have hq0' := nat_eq_f hq0
        by_cases hq1 : q = 1
        · subst hq1
          by_cases hpl : p < ys.length
          · have hct := run_cut0 slz_string.slt a2 ys.length c2 p (by have := hs4.1; omega)
            have hct2 : ∀ w, (Instr.slice 23 (.slice a2 ys.length c2) (some (.int .i64 ((p : Int) + 1))) none none).run Try.prog w = .ok (.slice (cutA a2 c2 (p + 1) (Rep.sz ByteArray)) (ys.length - (p + 1)) (c2 - (p + 1))) w := fun w => run_cut slz_string.slt a2 ys.length c2 (p + 1) hpl w
            have htl : (ys.take p).length = p := by simp; omega
            have hdl : (ys.drop (p + 1)).length = ys.length - (p + 1) := by simp
            have e1 : IntKind.i64.wrap ((p : Int) + 1) = ((p + 1 : Nat) : Int) := IntWalk.i64_in _ (by omega)
            go_wp2_with fail
            go_region_law (first
              | (refine step_app_leaf slz_string.slt rfl (.tmp 60) (.tmp 63) rfl rfl (by exact (Fresh.empty (by decide) wo.heap.size wo (Nat.le_refl _)).drew) (by simp <;> omega) rfl htl.symm (by exact ((hs4.take p).alloc _).drew) (by simp <;> omega) (by unfold maxLen; simp <;> omega) ?_; intro a5 c5 w5 hG5; have hF5 := (show Fresh wo.heap.size w5.heap.size w5 [.slice a5 p c5] (ys.take p) from (by have := hG5.fresh; simpa only [List.length_nil, Nat.zero_add, htl, List.nil_append] using this)); have hb5 := ((Below.refl _ wo).alloc (Nat.le_refl _) (.cells #[] (Tid.tid ByteArray))).drew.trans hG5.below; have hs5 := hs4.frame (S' := fun b => w.heap.size ≤ b ∧ b < wo.heap.size) (w' := w5) (fun b hb _ => ⟨hb5.block b hb.2, hb⟩); have hsz6 := hb5.size)
              | (refine step_app_leaf slz_string.slt rfl (.tmp 64) (.tmp 68) rfl rfl hF5 hsz6 rfl hdl.symm (by exact hs5.cut (k := p + 1) (by omega)) (by simp <;> omega) (by unfold maxLen; simp <;> omega) ?_; intro a9 c9 w9 hG9))
            all_goals
              go_wp2
              have hF9 : Fresh wo.heap.size w9.heap.size w9 [.slice a9 (p + (ys.length - (p + 1))) c9] (ys.take p ++ ys.drop (p + 1)) := by
                have := hG9.fresh
                simpa only [List.length_append, htl, hdl] using this
              have hb9 := hb5.trans hG9.below
              go_roundw
              case rel => exact ⟨⟨_, k - 1, by go_num, by omega, by simp; omega, hF9.mono hsz5 (Nat.le_refl _), (hr4.below (B := wo.heap.size) (by omega) hb9).mono (by omega)⟩, hd5.belowB hb9 hsz5⟩
              case measure => simp [intOf]; omega
          · go_wp2
            go_roundw
            case rel => exact ⟨⟨ys, k - 1, by go_num, by omega, hyl, hF4, hr4.mono (by omega)⟩, hd5⟩
            case measure => simp [intOf]; omega
        · have hq1' := nat_eq_f hq1
          by_cases hpl : p < ys.length
          · go_wp2_with fail
            refine (l30Line_any rb _ _ hr4 (by omega)).mono ?_
            rintro e w6 ⟨s, rfl, hss, hd7, hr7⟩
            have hF7 := (hd7.fresh hF4 (.inl hlt)).now
            have hd8 := hd5.tr hd7
            have hsz7 := hd7.size
            obtain ⟨g2, rfl, hg2, hg3⟩ := hF7.addr (by omega)
            obtain ⟨⟨u, hu⟩, hfz, _, _⟩ := hF7.there1 rfl (i := p) hpl
            go_wp2
            go_roundw
            case rel => exact ⟨⟨ys.set p s, k - 1, by go_num, by omega, by simpa using hyl, by simpa using hF7.set1 rfl hpl (Fresh.leaf (m := w6.heap.size) ⟨rfl, rfl, hss⟩) (by omega), (hr7.below (B := w.heap.size) hlt ((Below.refl _ _).setCell hg2 _)).mono (by omega)⟩, hd8.belowB ((Below.refl _ _).setCell hg2 _) (Nat.le_refl _)⟩
            case measure => simp [intOf]; omega
          · go_wp2
            go_roundw
            case rel => exact ⟨⟨ys, k - 1, by go_num, by omega, hyl, hF4, hr4.mono (by omega)⟩, hd5⟩
            case measure => simp [intOf]; omega
    · go_wp2
      go_ret
      exact ⟨_, ys, rfl, hyl, hF, hd, hr.mono (by omega)⟩
end Go.Proofs.Ytlpfoekbccbhlaa
