/-
  Walks: whether there is a review, as the reference asks it.
-/
import Derived.Test.YtlokkbllplhlbaaWR2
set_option linter.unusedVariables false
namespace Go.Proofs.Ytlokkbllplhlbaa
open Go.RowKit Go.Vc
open Go.Vc.Rep (rd)
open Go.Vc.Own (own)

theorem leq_form (a b : ByteArray) {c : Bool} (h : lessB b a = c) : (Op.bytesLess a.toList b.toList || decide (a = b)) = !c := by
  have := lessB_not b a
  rw [h] at this
  exact this.symm

set_option maxHeartbeats 4000000 in
set_option maxRecDepth 100000 in
theorem l17Ok_any {S : Nat → Prop} (x : Review) (v3 : Value) (w : World) (h0 : x.branch.size ≤ maxLen) (h1 : x.into.size ≤ maxLen) (h2 : x.by_.size ≤ maxLen) (hv : rd S w [v3] x.yes) :
    Calls Try.prog 40 #[.agg #[.string x.branch, .string x.into, .string x.by_, v3]] w fun e w' => e = .returned (.bool (reviewB x)) ∧ Below w.heap.size w w' := by
  obtain ⟨a, cap, rfl, hs⟩ := rd_slice_elim (Rep.lt hv)
  have hle := hs.le
  obtain ⟨wb, hwb⟩ : ∃ wb, wb = w.alloc (.cells #[.string x.branch, .string x.into, .string x.by_, .slice a x.yes.length cap] 27) := ⟨_, rfl⟩
  have hB0 : Below w.heap.size w wb := by rw [hwb]; exact ((Below.refl _ _).alloc (by simp <;> omega) _)
  have q0 : wb.cell? ⟨w.heap.size, 0, none⟩ = some (.string x.branch) := by rw [hwb, cell_of_row _ _ 0 _ _ (0, 0) (heap_alloc_new _ _)]; rfl
  have q1 : wb.cell? ⟨w.heap.size, 1, none⟩ = some (.string x.into) := by rw [hwb, cell_of_row _ _ 1 _ _ (0, 0) (heap_alloc_new _ _)]; rfl
  have q2 : wb.cell? ⟨w.heap.size, 2, none⟩ = some (.string x.by_) := by rw [hwb, cell_of_row _ _ 2 _ _ (0, 0) (heap_alloc_new _ _)]; rfl
  have q3 : wb.cell? ⟨w.heap.size, 3, none⟩ = some (.slice a x.yes.length cap) := by rw [hwb, cell_of_row _ _ 3 _ _ (0, 0) (heap_alloc_new _ _)]; rfl
  have hs1 : IsSlice (fun b => b < w.heap.size) wb a cap x.yes := by rw [hwb]; exact hs.alloc _
  have HW := Lib.hid hwb
  clear hwb
  go_enter Try.func40, Try.ntmps40
  go_wp2
  rw [← HW.out]
  go_loopw [3] (fun i wr => (∃ k : Nat, k ≤ x.yes.length ∧ i = .int .i64 k ∧ Hid (∀ j, j < k → nameB (x.yes.getD j ⟨#[]⟩) = true ∧ stepUp x.yes j = true)) ∧ Below wb.heap.size wb wr) (fun i _ => x.yes.length - (intOf i).toNat)
  case atStart => exact ⟨⟨0, by omega, rfl, by show ∀ _, _; intro j hj; omega⟩, Below.refl _ _⟩
  case round =>
    obtain ⟨⟨k, hk, rfl, HA⟩, hb⟩ := hrel
    have HBB := hB0.trans (hb.mono hB0.size)
    have q3 := keepc q3 hb
    by_cases hlt : k < x.yes.length
    · have hsr := hs1.below (Nat.le_refl _) hb
      obtain ⟨g, off, rfl, hc, hsz⟩ := hsr.str hlt
      have p3 := BW.cell q3
      have pc := BW.cell hc
      cases hn : nameB x.yes[k] with
      | false =>
        have HN := Lib.hid (reviewB_f (v := x) (.inr (.inr (.inr (.inr (.inr (namesB_f hlt fun h => by rw [getD_str hlt, hn] at h; cases h.1)))))))
        go_wp2
        refine wp_region_bw (by kernel_rfl) (by kernel_rfl) ?_
        repeat (go_big_quiet_step ((go_at_call 73; exact Calls.bw_same (l4Name_is _ _ hsz hn))))
        refine wpQuiet_nil ?_
        rintro w1 ⟨⟨_, hbw⟩, rfl⟩
        go_wp2
        go_ret
        exact ⟨ret_bool HN.out.symm, HBB.trans (hbw.mono HBB.size)⟩
      | true =>
        by_cases hk0 : 0 < k
        · have hk0' : decide (0 < k) = true := decide_eq_true hk0
          obtain ⟨g', off', hg, hc', hsz'⟩ := hsr.str (i := k - 1) (by omega)
          obtain ⟨rfl, rfl⟩ : g = g' ∧ off = off' := by simpa using hg
          have pc' := BW.cell hc'
          have hst := stepUp_pos hk0 hlt
          cases hl : lessB (x.yes[k - 1]'(by omega)) x.yes[k] with
          | false =>
            have hl' := leq_form x.yes[k] (x.yes[k - 1]'(by omega)) hl
            have HN := Lib.hid (reviewB_f (v := x) (.inr (.inr (.inr (.inr (.inr (namesB_f hlt fun h => by rw [hst, hl] at h; cases h.2)))))))
            clear hg hst hl
            have e0 : IntKind.i64.wrap ((k : Int) - 1) = (k : Int) - 1 := IntWalk.i64_in _ (by omega)
            have e1 : ((k : Int) - 1).toNat = k - 1 := by omega
            have e2 : (0 : Int) ≤ (k : Int) - 1 := by omega
            go_wp2
            refine wp_region_bw (by kernel_rfl) (by kernel_rfl) ?_
            repeat (go_big_quiet_step ((go_at_call 73; exact Calls.bw_same (l4Name_is _ _ hsz hn))))
            refine wpQuiet_nil ?_
            rintro w1 ⟨⟨_, hbw⟩, rfl⟩
            clear e0 e1
            go_wp2
            go_ret
            exact ⟨ret_bool HN.out.symm, HBB.trans (hbw.mono HBB.size)⟩
          | true =>
            have hl' := leq_form x.yes[k] (x.yes[k - 1]'(by omega)) hl
            have HS := Lib.hid (show nameB (x.yes.getD k ⟨#[]⟩) = true ∧ stepUp x.yes k = true from ⟨by rw [getD_str hlt]; exact hn, by rw [hst]; exact hl⟩)
            clear hg hst hl
            have e0 : IntKind.i64.wrap ((k : Int) - 1) = (k : Int) - 1 := IntWalk.i64_in _ (by omega)
            have e1 : ((k : Int) - 1).toNat = k - 1 := by omega
            have e2 : (0 : Int) ≤ (k : Int) - 1 := by omega
            go_wp2
            refine wp_region_bw (by kernel_rfl) (by kernel_rfl) ?_
            repeat (go_big_quiet_step ((go_at_call 73; exact Calls.bw_same (l4Name_is _ _ hsz hn))))
            refine wpQuiet_nil ?_
            rintro w1 ⟨⟨_, hbw⟩, rfl⟩
            clear e0 e1
            go_wp2
            go_roundw
            case rel => exact ⟨⟨k + 1, by omega, by go_num, by show ∀ _, _; intro j hj; by_cases e : j < k; exact HA.out j e; exact (show j = k by omega) ▸ HS.out⟩, hb.trans (hbw.mono hb.size)⟩
            case measure => simp [intOf]; omega
        · have hk0' : decide (0 < k) = false := decide_eq_false hk0
          have hkz : k = 0 := by omega
          have HS := Lib.hid (show nameB (x.yes.getD k ⟨#[]⟩) = true ∧ stepUp x.yes k = true from ⟨by rw [getD_str hlt]; exact hn, by rw [hkz]; rfl⟩)
          clear hkz
          go_wp2
          refine wp_region_bw (by kernel_rfl) (by kernel_rfl) ?_
          repeat (go_big_quiet_step ((go_at_call 73; exact Calls.bw_same (l4Name_is _ _ hsz hn))))
          refine wpQuiet_nil ?_
          rintro w1 ⟨⟨_, hbw⟩, rfl⟩
          go_wp2
          go_roundw
          case rel => exact ⟨⟨k + 1, by omega, by go_num, by show ∀ _, _; intro j hj; by_cases e : j < k; exact HA.out j e; exact (show j = k by omega) ▸ HS.out⟩, hb.trans (hbw.mono hb.size)⟩
          case measure => simp [intOf]; omega
    · have b5 := namesB_t (xs := x.yes) fun i hi => HA.out i (by omega)
      have B5 := Lib.hid b5
      have q0 := keepc q0 hb
      have q1 := keepc q1 hb
      have q2 := keepc q2 hb
      clear b5
      cases b0 : nameB x.branch with
      | false =>
        have HN := Lib.hid (reviewB_f (v := x) (.inl b0))
        go_wp2_with fail
        refine (l4Name_is _ _ h0 b0).mono ?_
        rintro e w1 ⟨rfl, rfl⟩
        go_wp2
        go_ret
        exact ⟨ret_bool HN.out.symm, HBB⟩
      | true =>
        cases b1 : nameB x.into with
        | false =>
          have HN := Lib.hid (reviewB_f (v := x) (.inr (.inl b1)))
          go_wp2_with fail
          refine (l4Name_is _ _ h0 b0).mono ?_
          rintro e w1 ⟨rfl, rfl⟩
          go_wp2_with fail
          refine (l4Name_is _ _ h1 b1).mono ?_
          rintro e w1 ⟨rfl, rfl⟩
          go_wp2
          go_ret
          exact ⟨ret_bool HN.out.symm, HBB⟩
        | true =>
          cases b2 : nameB x.by_ with
          | false =>
            have HN := Lib.hid (reviewB_f (v := x) (.inr (.inr (.inl b2))))
            go_wp2_with fail
            refine (l4Name_is _ _ h0 b0).mono ?_
            rintro e w1 ⟨rfl, rfl⟩
            go_wp2_with fail
            refine (l4Name_is _ _ h1 b1).mono ?_
            rintro e w1 ⟨rfl, rfl⟩
            go_wp2_with fail
            refine (l4Name_is _ _ h2 b2).mono ?_
            rintro e w1 ⟨rfl, rfl⟩
            go_wp2
            go_ret
            exact ⟨ret_bool HN.out.symm, HBB⟩
          | true =>
            have HN : Hid (reviewB x = (!decide (x.branch = x.into) && decide (x.yes.length ≤ 5))) := by
              show _ = _
              unfold reviewB
              rw [b0, b1, b2, B5.out]
              simp
            by_cases b3 : x.branch = x.into
            · have d3 : decide (x.branch = x.into) = true := decide_eq_true b3
              clear b3
              go_wp2_with fail
              refine (l4Name_is _ _ h0 b0).mono ?_
              rintro e w1 ⟨rfl, rfl⟩
              go_wp2_with fail
              refine (l4Name_is _ _ h1 b1).mono ?_
              rintro e w1 ⟨rfl, rfl⟩
              go_wp2_with fail
              refine (l4Name_is _ _ h2 b2).mono ?_
              rintro e w1 ⟨rfl, rfl⟩
              go_wp2
              go_ret
              exact ⟨ret_bool (by rw [HN.out, d3]; rfl), HBB⟩
            · have d3 : decide (x.branch = x.into) = false := decide_eq_false b3
              clear b3
              by_cases b4 : x.yes.length ≤ 5
              · have d4 : decide (x.yes.length ≤ 5) = true := decide_eq_true b4
                go_wp2_with fail
                refine (l4Name_is _ _ h0 b0).mono ?_
                rintro e w1 ⟨rfl, rfl⟩
                go_wp2_with fail
                refine (l4Name_is _ _ h1 b1).mono ?_
                rintro e w1 ⟨rfl, rfl⟩
                go_wp2_with fail
                refine (l4Name_is _ _ h2 b2).mono ?_
                rintro e w1 ⟨rfl, rfl⟩
                go_wp2
                go_ret
                exact ⟨ret_bool (by rw [HN.out, d3, d4]; simp; omega), HBB⟩
              · have d4 : decide (x.yes.length ≤ 5) = false := decide_eq_false b4
                go_wp2_with fail
                refine (l4Name_is _ _ h0 b0).mono ?_
                rintro e w1 ⟨rfl, rfl⟩
                go_wp2_with fail
                refine (l4Name_is _ _ h1 b1).mono ?_
                rintro e w1 ⟨rfl, rfl⟩
                go_wp2_with fail
                refine (l4Name_is _ _ h2 b2).mono ?_
                rintro e w1 ⟨rfl, rfl⟩
                go_wp2
                go_ret
                exact ⟨ret_bool (by rw [HN.out, d3, d4]; simp; omega), HBB⟩

theorem specReviewOk {S : Nat → Prop} (x : Review) (v3 : Value) (w : World) (h0 : x.branch.size ≤ maxLen) (h1 : x.into.size ≤ maxLen) (h2 : x.by_.size ≤ maxLen) (hv : rd S w [v3] x.yes) :
    Calls Try.prog 10 #[.agg #[.string x.branch, .string x.into, .string x.by_, v3]] w fun e w' => e = .returned (.bool (reviewB x)) ∧ Below w.heap.size w w' := by
  obtain ⟨a, cap, rfl, hs⟩ := rd_slice_elim (Rep.lt hv)
  have hs1 := hs.alloc (.cells #[.string x.branch, .string x.into, .string x.by_, .slice a x.yes.length cap] 27)
  go_enter Try.func10, Try.ntmps10
  go_wp2_with fail
  refine (l17Ok_any x _ _ h0 h1 h2 hs1.rd).mono ?_
  rintro e w1 ⟨rfl, hb⟩
  go_wp2
  go_ret
  exact ⟨rfl, ((Below.refl _ _).alloc (by simp <;> omega) _).trans (hb.mono (by simp))⟩
end Go.Proofs.Ytlokkbllplhlbaa
