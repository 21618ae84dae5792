/-
  Walks: whether there is a repository, as the reference has it.
-/
import Derived.Test.YthhmaclhggmneaaGreatDoorWTreeS
import Derived.Test.YthhmaclhggmneaaGreatDoorVJ
set_option linter.unusedVariables false
namespace Go.Proofs.YthhmaclhggmneaaGreatDoor
open Go.RowKit Go.Vc
open Go.Vc.Rep (rd)
open Go.Vc.Own (own)

set_option maxHeartbeats 16000000 in
set_option maxRecDepth 100000 in
theorem l7Ok_is {S T : Nat → Prop} (v0 v1 : Value) (r : Repo) (w : World) (h0 : rd S w [v0] r.commits) (h1 : rd T w [v1] r.heads) {b : Bool} (h : repoB r = b) :
    Calls Tryz.prog 29 #[.agg #[v0, v1]] w fun e w' => e = .returned (.bool b) ∧ Below w.heap.size w w' := by
  subst h
  obtain ⟨a, cap, rfl, hs⟩ := rd_slice_elim (Rep.lt h0)
  obtain ⟨a0, c0, rfl, hs0⟩ := rd_slice_elim (Rep.lt h1)
  have hle := hs.le
  have hle0 := hs0.le
  obtain ⟨xs, hxs⟩ : ∃ xs, xs = r.commits := ⟨_, rfl⟩
  obtain ⟨ys, hys⟩ : ∃ ys, ys = r.heads := ⟨_, rfl⟩
  have HX := Lib.hid hxs
  have HY := Lib.hid hys
  rw [← hxs] at hs hle ⊢
  rw [← hys] at hs0 hle0 ⊢
  clear hxs hys
  obtain ⟨wb, hwb⟩ : ∃ wb, wb = w.alloc (.cells #[.slice a xs.length cap, .slice a0 ys.length c0] 32) := ⟨_, rfl⟩
  obtain ⟨hB0, _, hq⟩ := boxed (vs := [.slice a xs.length cap, .slice a0 ys.length c0]) hwb
  have q0 := hq 0 _ rfl
  have q1 := hq 1 _ rfl
  have HW := Lib.hid hwb
  clear hwb hq
  have HCB := Lib.hid (show ∀ (i : Nat) (hi : i < xs.length), comB xs[i] i = false → repoB r = false from fun i hi h => repo_coms (by rw [← HX.out]; exact coms_f hi h))
  have HHB := Lib.hid (show ∀ (i : Nat) (hi : i < ys.length), headAt xs.length ys i = false → repoB r = false from fun i hi h => headAll_bad (by rw [← HX.out, ← HY.out]; exact heads_f hi h))
  have HFIN := Lib.hid (show comsB xs = true → headAll xs.length ys = true → repoB r = (decide (xs.length ≤ 16) && decide (ys.length ≤ 5)) from fun h1 h2 => by rw [HX.out] at h1 h2 ⊢; rw [HY.out] at h2 ⊢; exact repo_fin h1 h2)
  go_enter Tryz.func29, Tryz.ntmps29
  go_wp2
  rw [← HW.out]
  go_loopw [3] (fun i wr => (∃ k : Nat, k ≤ xs.length ∧ i = .int .i64 k ∧ Hid (∀ j, (hj : j < k) → (hj2 : j < xs.length) → comB xs[j] j = true)) ∧ Below wb.heap.size wb wr) (fun i _ => xs.length - (intOf i).toNat)
  case atStart => exact ⟨⟨0, by omega, rfl, by show ∀ _, _; intro j hj; omega⟩, Below.refl _ _⟩
  case round =>
    obtain ⟨⟨k, hk, rfl, HA⟩, hbr⟩ := hrel
    have hb := hB0.trans (hbr.mono hB0.size)
    have q0r := keepc q0 hbr
    have q1r := keepc q1 hbr
    by_cases hlt : k < xs.length
    · have hsr := hs.below (Nat.le_refl _) hb
      obtain ⟨g, off, ap, np, at_, nt, rfl, hc0, hc1, hc2, hpar0, hz1, htr0⟩ := hsr.commit hlt
      obtain ⟨c, hcx⟩ : ∃ c, c = xs[k] := ⟨_, rfl⟩
      rw [← hcx] at hc0 hc1 hc2 hpar0 hz1 htr0
      have HC0 := Lib.hid hcx
      clear hcx
      obtain ⟨wc, hwc⟩ : ∃ wc, wc = wr.alloc (.cells #[.slice ap c.parents.length np, .string c.who, .slice at_ c.tree.length nt] 45) := ⟨_, rfl⟩
      obtain ⟨hB1, _, hq⟩ := boxed (vs := [.slice ap c.parents.length np, .string c.who, .slice at_ c.tree.length nt]) hwc
      have s0 := hq 0 _ rfl
      have s1 := hq 1 _ rfl
      have s2 := hq 2 _ rfl
      have hbB := hb.trans (hB1.mono hb.size)
      have hbR := hbr.trans (hB1.mono hbr.size)
      have hpar := hpar0.lt.keep hB1
      have htr := htr0.lt.keep hB1
      have hlep := hpar.le
      have HC := Lib.hid hwc
      clear hwc hq
      have HBAD := Lib.hid (show ∀ (h : comB c k = false), repoB r = false from fun h => HCB.out k hlt (by rw [← HC0.out]; exact h))
      go_wp2
      rw [← HC.out]
      clear hc0 hc1 hc2 hpar0 htr0 HC q0r q1r hsr
      go_loopw [5] (fun j wq => (∃ m : Nat, m ≤ c.parents.length ∧ j = .int .i64 m ∧ Hid (∀ j', (hj : j' < m) → (hj2 : j' < c.parents.length) → withinB c.parents[j'] 0 ((k : Int) - 1) = true ∧ (0 < j' → ¬ c.parents[j'] = c.parents[0]'(by omega)))) ∧ Below wc.heap.size wc wq) (fun j _ => c.parents.length - (intOf j).toNat)
      case atStart => exact ⟨⟨0, by omega, rfl, by show ∀ _, _; intro j hj; omega⟩, Below.refl _ _⟩
      case round =>
        obtain ⟨⟨m, hm, rfl, HI⟩, hq⟩ := hrel
        have s0q := keepc s0 hq
        have hbq := hbB.trans (hq.mono hbB.size)
        have hbRq := hbR.trans (hq.mono hbR.size)
        by_cases hlm : m < c.parents.length
        · have hpq := hpar.below (Nat.le_refl _) hq
          obtain ⟨g2, off2, hgg, hd1, hj1⟩ := hpq.int (i := m) hlm
          subst hgg
          have r0 := BW.cell s0q
          have r1 := BW.cell hd1
          cases hin : withinB c.parents[m] 0 ((k : Int) - 1) with
          | false =>
            have HN := Lib.hid (HBAD.out (comB_par hlm hin))
            go_wp2
            refine wp_region_bw (by kernel_rfl) (by kernel_rfl) ?_
            repeat (go_big_quiet_step ((go_at_call 30; exact Calls.bw_same (l1In_is _ _ _ _ hin))))
            refine wpQuiet_nil ?_
            rintro w1 ⟨⟨_, hbw⟩, rfl⟩
            go_wp2
            go_ret
            exact ⟨ret_bool HN.out.symm, hbq.trans (hbw.mono hbq.size)⟩
          | true =>
            by_cases hm0 : 0 < m
            · have hm0' : decide (0 < m) = true := decide_eq_true hm0
              obtain ⟨g3, off3, hgg, hd2, hj2⟩ := hpq.int (i := 0) (by omega)
              obtain ⟨rfl, rfl⟩ : g2 = g3 ∧ off2 = off3 := by simpa using hgg
              rw [Nat.add_zero] at hd2
              have r2 := BW.cell hd2
              have hpl0 : (0 : Int) < c.parents.length := by omega
              obtain ⟨x, hx⟩ : ∃ x, c.parents[m]? = some x := ⟨_, List.getElem?_eq_getElem hlm⟩
              obtain ⟨y, hy⟩ : ∃ y, c.parents[0]? = some y := ⟨_, List.getElem?_eq_getElem (by omega)⟩
              rw [at_is hx] at r1 hin
              rw [at_is hy] at r2
              have X := Lib.hid hx
              have Y := Lib.hid hy
              have HIN := Lib.hid hin
              clear hx hy hgg hd1 hd2 hj1 hj2
              by_cases hxy : x = y
              · have dxy : (x == y) = true := by simp [hxy]
                have HN := Lib.hid (HBAD.out (comB_same hm0 hlm (by rw [at_is X.out hlm, at_is Y.out (by omega)]; exact hxy)))
                clear hxy
                go_wp2
                refine wp_region_bw (by kernel_rfl) (by kernel_rfl) ?_
                repeat (go_big_quiet_step ((go_at_call 30; exact Calls.bw_same (l1In_is _ _ _ _ HIN.out))))
                refine wpQuiet_nil ?_
                rintro w1 ⟨⟨_, hbw⟩, rfl⟩
                go_wp2
                go_ret
                exact ⟨ret_bool HN.out.symm, hbq.trans (hbw.mono hbq.size)⟩
              · have dxy : (x == y) = false := by simp [hxy]
                have HXY := Lib.hid hxy
                clear hxy
                have HN := Lib.hid (show withinB c.parents[m] 0 ((k : Int) - 1) = true ∧ (0 < m → ¬ c.parents[m] = c.parents[0]'(by omega)) from ⟨by rw [at_is X.out hlm]; exact HIN.out, fun _ => by rw [at_is X.out hlm, at_is Y.out (by omega)]; exact HXY.out⟩)
                go_wp2
                refine wp_region_bw (by kernel_rfl) (by kernel_rfl) ?_
                repeat (go_big_quiet_step ((go_at_call 30; exact Calls.bw_same (l1In_is _ _ _ _ HIN.out))))
                refine wpQuiet_nil ?_
                rintro w1 ⟨⟨_, hbw⟩, rfl⟩
                go_wp2
                go_roundw
                case rel => exact ⟨⟨m + 1, by omega, by go_num, by show ∀ _, _; intro j' hj hj2; by_cases e : j' < m; exact HI.out j' e hj2; have e2 : j' = m := (by omega); subst e2; exact HN.out⟩, hq.trans (hbw.mono hq.size)⟩
                case measure => simp [intOf]; omega
            · have hm0' : decide (0 < m) = false := decide_eq_false hm0
              have HN := Lib.hid (show withinB c.parents[m] 0 ((k : Int) - 1) = true ∧ (0 < m → ¬ c.parents[m] = c.parents[0]'(by omega)) from ⟨hin, fun h => absurd h hm0⟩)
              go_wp2
              refine wp_region_bw (by kernel_rfl) (by kernel_rfl) ?_
              repeat (go_big_quiet_step ((go_at_call 30; exact Calls.bw_same (l1In_is _ _ _ _ hin))))
              refine wpQuiet_nil ?_
              rintro w1 ⟨⟨_, hbw⟩, rfl⟩
              go_wp2
              go_roundw
              case rel => exact ⟨⟨m + 1, by omega, by go_num, by show ∀ _, _; intro j' hj hj2; by_cases e : j' < m; exact HI.out j' e hj2; have e2 : j' = m := (by omega); subst e2; exact HN.out⟩, hq.trans (hbw.mono hq.size)⟩
              case measure => simp [intOf]; omega
        · have s1q := keepc s1 hq
          have s2q := keepc s2 hq
          have htq := htr.below (Nat.le_refl _) hq
          by_cases hp2 : c.parents.length ≤ 2
          · have d2 : decide ((2 : Int) < c.parents.length) = false := decide_eq_false (by omega)
            cases hn : nameB c.who with
            | false =>
              have HN := Lib.hid (HBAD.out (comB_name hn))
              go_wp2_with fail
              refine (l4Name_is _ _ hz1 hn).mono ?_
              rintro e w9 ⟨rfl, rfl⟩
              go_wp2
              go_ret
              exact ⟨ret_bool HN.out.symm, hbq⟩
            | true =>
              cases ht : treeB c.tree with
              | false =>
                have HN := Lib.hid (HBAD.out (comB_tree ht))
                go_wp2_with fail
                refine (l4Name_is _ _ hz1 hn).mono ?_
                rintro e w9 ⟨rfl, rfl⟩
                go_wp2_with fail
                refine (l4Ok_is _ _ _ htq.rd ht).mono ?_
                rintro e w9 ⟨rfl, hb9⟩
                go_wp2
                go_ret
                exact ⟨ret_bool HN.out.symm, hbq.trans (hb9.mono hbq.size)⟩
              | true =>
                have HT := Lib.hid (comB_ok (c := c) (i := k) hp2 (fun j h0 hj => (HI.out j (by omega) hj).2 h0) hn ht (fun j hj => (HI.out j (by omega) hj).1))
                go_wp2_with fail
                refine (l4Name_is _ _ hz1 hn).mono ?_
                rintro e w9 ⟨rfl, rfl⟩
                go_wp2_with fail
                refine (l4Ok_is _ _ _ htq.rd ht).mono ?_
                rintro e w9 ⟨rfl, hb9⟩
                go_wp2
                go_roundw
                case rel => exact ⟨⟨k + 1, by omega, by go_num, by show ∀ _, _; intro j hj hj2; by_cases e : j < k; exact HA.out j e hj2; have e2 : j = k := (by omega); subst e2; rw [← HC0.out]; exact HT.out⟩, hbRq.trans (hb9.mono hbRq.size)⟩
                case measure => simp [intOf]; omega
          · have d2 : decide ((2 : Int) < c.parents.length) = true := decide_eq_true (by omega)
            have HN := Lib.hid (HBAD.out (comB_len hp2))
            go_wp2
            go_ret
            exact ⟨ret_bool HN.out.symm, hbq⟩
    · have HCM := Lib.hid (coms_t (cs := xs) fun i hi => HA.out i (by omega) hi)
      go_wp2
      go_loopw [6] (fun i wq => (∃ k : Nat, k ≤ ys.length ∧ i = .int .i64 k ∧ Hid (∀ j, j < k → headAt xs.length ys j = true)) ∧ Below wr.heap.size wr wq) (fun i _ => ys.length - (intOf i).toNat)
      case atStart => exact ⟨⟨0, by omega, rfl, by show ∀ _, _; intro j hj; omega⟩, Below.refl _ _⟩
      case round =>
        obtain ⟨⟨k, hk, rfl, HD⟩, hq⟩ := hrel
        have hbB := hb.trans (hq.mono hb.size)
        have q0q := keepc q0r hq
        have q1q := keepc q1r hq
        by_cases hlt : k < ys.length
        · have hsr := hs0.below (Nat.le_refl _) hbB
          obtain ⟨g, off, rfl, hc1, hc2, hz1, hz2⟩ := hsr.branch hlt
          have p0 := BW.cell q0q
          have p1 := BW.cell q1q
          have r0 := BW.cell hc1
          have r1 := BW.cell hc2
          have en : IntKind.i64.wrap ((xs.length : Int) - 1) = (xs.length : Int) - 1 := IntWalk.i64_in _ (by omega)
          cases hn : nameB ys[k].name with
          | false =>
            have HN := Lib.hid (HHB.out k hlt (headAt_name hlt hn))
            go_wp2
            refine wp_region_bw (by kernel_rfl) (by kernel_rfl) ?_
            repeat (go_big_quiet_step ((go_at_call 45; exact Calls.bw_same (l4Name_is _ _ hz1 hn))))
            refine wpQuiet_nil ?_
            rintro w1 ⟨⟨_, hbw⟩, rfl⟩
            clear en
            go_wp2
            go_ret
            exact ⟨ret_bool HN.out.symm, hbB.trans (hbw.mono hbB.size)⟩
          | true =>
            cases ha : withinB ys[k].at_ 0 ((xs.length : Int) - 1) with
            | false =>
              have HN := Lib.hid (HHB.out k hlt (headAt_at hlt ha))
              go_wp2
              refine wp_region_bw (by kernel_rfl) (by kernel_rfl) ?_
              repeat (go_big_quiet_step ((first | (go_at_call 45; exact Calls.bw_same (l4Name_is _ _ hz1 hn)) | (go_at_call 30; exact Calls.bw_same (l1In_is _ _ _ _ ha)))))
              refine wpQuiet_nil ?_
              rintro w1 ⟨⟨_, hbw⟩, rfl⟩
              clear en
              go_wp2
              go_ret
              exact ⟨ret_bool HN.out.symm, hbB.trans (hbw.mono hbB.size)⟩
            | true =>
              by_cases hk0 : 0 < k
              · have hk0' : decide (0 < k) = true := decide_eq_true hk0
                obtain ⟨g', off', hg, hc1', hc2', hz1', hz2'⟩ := hsr.branch (i := k - 1) (by omega)
                obtain ⟨rfl, rfl⟩ : g = g' ∧ off = off' := by simpa using hg
                have pc' := BW.cell hc1'
                cases hl : lessB (ys[k - 1]'(by omega)).name ys[k].name with
                | false =>
                  have hl' := leq_str ys[k].name (ys[k - 1]'(by omega)).name hl
                  have HN := Lib.hid (HHB.out k hlt (headAt_step hk0 hlt hl))
                  clear hg hl
                  have e0 : IntKind.i64.wrap ((k : Int) - 1) = (k : Int) - 1 := IntWalk.i64_in _ (by omega)
                  have e1 : ((k : Int) - 1).toNat = k - 1 := by omega
                  have e2 : (0 : Int) ≤ (k : Int) - 1 := by omega
                  go_wp2
                  refine wp_region_bw (by kernel_rfl) (by kernel_rfl) ?_
                  repeat (go_big_quiet_step ((first | (go_at_call 45; exact Calls.bw_same (l4Name_is _ _ hz1 hn)) | (go_at_call 30; exact Calls.bw_same (l1In_is _ _ _ _ ha)))))
                  refine wpQuiet_nil ?_
                  rintro w1 ⟨⟨_, hbw⟩, rfl⟩
                  clear e0 e1 en
                  go_wp2
                  go_ret
                  exact ⟨ret_bool HN.out.symm, hbB.trans (hbw.mono hbB.size)⟩
                | true =>
                  have hl' := leq_str ys[k].name (ys[k - 1]'(by omega)).name hl
                  have HS := Lib.hid (headAt_pos hk0 hlt hn ha hl)
                  clear hg hl
                  have e0 : IntKind.i64.wrap ((k : Int) - 1) = (k : Int) - 1 := IntWalk.i64_in _ (by omega)
                  have e1 : ((k : Int) - 1).toNat = k - 1 := by omega
                  have e2 : (0 : Int) ≤ (k : Int) - 1 := by omega
                  go_wp2
                  refine wp_region_bw (by kernel_rfl) (by kernel_rfl) ?_
                  repeat (go_big_quiet_step ((first | (go_at_call 45; exact Calls.bw_same (l4Name_is _ _ hz1 hn)) | (go_at_call 30; exact Calls.bw_same (l1In_is _ _ _ _ ha)))))
                  refine wpQuiet_nil ?_
                  rintro w1 ⟨⟨_, hbw⟩, rfl⟩
                  clear e0 e1 en
                  go_wp2
                  go_roundw
                  case rel => exact ⟨⟨k + 1, by omega, by go_num, by show ∀ _, _; intro j hj; by_cases e : j < k; exact HD.out j e; exact (show j = k by omega) ▸ HS.out⟩, hq.trans (hbw.mono hq.size)⟩
                  case measure => simp [intOf]; omega
              · have hk0' : decide (0 < k) = false := decide_eq_false hk0
                have HS := Lib.hid (headAt_first (by omega) hlt hn ha)
                go_wp2
                refine wp_region_bw (by kernel_rfl) (by kernel_rfl) ?_
                repeat (go_big_quiet_step ((first | (go_at_call 45; exact Calls.bw_same (l4Name_is _ _ hz1 hn)) | (go_at_call 30; exact Calls.bw_same (l1In_is _ _ _ _ ha)))))
                refine wpQuiet_nil ?_
                rintro w1 ⟨⟨_, hbw⟩, rfl⟩
                clear en
                go_wp2
                go_roundw
                case rel => exact ⟨⟨k + 1, by omega, by go_num, by show ∀ _, _; intro j hj; by_cases e : j < k; exact HD.out j e; exact (show j = k by omega) ▸ HS.out⟩, hq.trans (hbw.mono hq.size)⟩
                case measure => simp [intOf]; omega
        · have HN := Lib.hid (HFIN.out HCM.out (heads_t (n := xs.length) (t := ys) fun i hi => HD.out i (by omega)))
          by_cases h16 : xs.length ≤ 16
          · have d16 : decide (xs.length ≤ 16) = true := decide_eq_true h16
            by_cases h5 : ys.length ≤ 5
            · have d5 : decide (ys.length ≤ 5) = true := decide_eq_true h5
              rw [d16, d5] at HN
              go_wp2
              go_ret
              exact ⟨ret_bool (by rw [HN.out]; simp; omega), hbB⟩
            · have d5 : decide (ys.length ≤ 5) = false := decide_eq_false h5
              rw [d16, d5] at HN
              go_wp2
              go_ret
              exact ⟨ret_bool (by rw [HN.out]; simp; omega), hbB⟩
          · have d16 : decide (xs.length ≤ 16) = false := decide_eq_false h16
            rw [d16] at HN
            go_wp2
            go_ret
            exact ⟨ret_bool (by rw [HN.out]; simp), hbB⟩
end Go.Proofs.YthhmaclhggmneaaGreatDoor
