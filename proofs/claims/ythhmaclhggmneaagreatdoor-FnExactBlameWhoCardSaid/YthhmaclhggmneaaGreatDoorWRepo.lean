/-
  Walks: whether there is a repository, as the program has it.
-/
import Derived.Test.YthhmaclhggmneaaGreatDoorVK
import Derived.Test.YthhmaclhggmneaaGreatDoorWTree
set_option linter.unusedVariables false
namespace Go.Proofs.YthhmaclhggmneaaGreatDoor
open Go.RowKit Go.Vc
open Go.Vc.Rep (rd)
open Go.Vc.Own (own)

set_option maxHeartbeats 16000000 in
set_option maxRecDepth 100000 in
theorem repoOk_is {S T : Nat → Prop} (v0 v1 : Value) (r : Repo) (w : World) (h0 : rd S w [v0] r.commits) (h1 : rd T w [v1] r.heads) (hS : shortR r) (hM : ML w) {b : Bool} (h : repoB r = b) :
    Calls Tryz.prog 51 #[.agg #[v0, v1]] w fun e w' => e = .returned (.bool b) ∧ Below w.heap.size w w' := by
  subst h
  obtain ⟨a, cap, rfl, hs⟩ := rd_slice_elim (Rep.lt h0)
  obtain ⟨a0, c0, rfl, hs0⟩ := rd_slice_elim (Rep.lt h1)
  have hle := hs.le
  obtain ⟨wb, hwb⟩ : ∃ wb, wb = w.alloc (.cells #[.slice a r.commits.length cap, .slice a0 r.heads.length c0] 32) := ⟨_, rfl⟩
  obtain ⟨hB0, _, hq⟩ := boxed (vs := [.slice a r.commits.length cap, .slice a0 r.heads.length c0]) hwb
  have q0 := hq 0 _ rfl
  have q1 := hq 1 _ rfl
  have HW := Lib.hid hwb
  clear hwb hq
  by_cases h5 : r.commits.length ≤ 16
  · have d5 : decide ((16 : Int) < r.commits.length) = false := decide_eq_false (by omega)
    have H5 := Lib.hid h5
    clear h5
    obtain ⟨xs, hxs⟩ : ∃ xs, xs = r.commits := ⟨_, rfl⟩
    have HX := Lib.hid hxs
    have hSx : ∀ c, c ∈ xs → shortT c.tree := by rw [hxs]; exact hS
    rw [← hxs] at hs hle d5 q0 HW
    rw [← hxs]
    clear hxs
    go_enter Tryz.func51, Tryz.ntmps51
    go_wp2
    rw [← HW.out]
    go_loopw [14] (fun i wr => (∃ k : Nat, k ≤ xs.length ∧ i = .int .i64 k ∧ Hid (∀ j, (hj : j < k) → (hj2 : j < xs.length) → comB xs[j] j = true)) ∧ Below wb.heap.size wb wr) (fun i _ => xs.length - (intOf i).toNat)
    case atStart => exact ⟨⟨0, by omega, rfl, by show ∀ _, _; intro j hj; omega⟩, Below.refl _ _⟩
    case round =>
      obtain ⟨⟨k, hk, rfl, HA⟩, hbr⟩ := hrel
      have hb := hB0.trans (hbr.mono hB0.size)
      by_cases hlt : k < xs.length
      · have hsr := hs.below (Nat.le_refl _) hb
        have hM1 := hM.keep hb
        obtain ⟨g, off, ap, np, at_, nt, rfl, hc0, hc1, hc2, hpar0, hz1, htr0⟩ := hsr.commit hlt
        have hsx := hSx xs[k] (List.getElem_mem hlt)
        obtain ⟨c, hcx⟩ : ∃ c, c = xs[k] := ⟨_, rfl⟩
        rw [← hcx] at hc0 hc1 hc2 hpar0 hz1 htr0 hsx
        have HC0 := Lib.hid hcx
        clear hcx
        obtain ⟨wc, hwc⟩ : ∃ wc, wc = wr.alloc (.cells #[.slice ap c.parents.length np, .string c.who, .slice at_ c.tree.length nt] 45) := ⟨_, rfl⟩
        obtain ⟨hB1, _, hq⟩ := boxed (vs := [.slice ap c.parents.length np, .string c.who, .slice at_ c.tree.length nt]) hwc
        have s0 := hq 0 _ rfl
        have r0 := BW.cell (hq 0 _ rfl)
        have r1 := BW.cell (hq 1 _ rfl)
        have r2 := BW.cell (hq 2 _ rfl)
        have hbB := hb.trans (hB1.mono hb.size)
        have hbR := hbr.trans (hB1.mono hbr.size)
        have hM2 := hM1.keep hB1
        have hpar := hpar0.lt.keep hB1
        have htr := htr0.lt.keep hB1
        have hlep := hpar.le
        have HC := Lib.hid hwc
        clear hwc hq
        have BADX : ∀ {P : Prop}, (P → comB c k = false) → P → repoB r = false := fun f p => repo_coms (by rw [← HX.out]; exact coms_f hlt (by rw [← HC0.out]; exact f p))
        have HBAD := Lib.hid (show ∀ (h : comB c k = false), repoB r = false from fun h => BADX (fun h => h) h)
        clear BADX
        by_cases hp2 : c.parents.length ≤ 2
        rotate_left
        · have d2 : decide ((2 : Int) < c.parents.length) = true := decide_eq_true (by omega)
          have HN := Lib.hid (HBAD.out (comB_len hp2))
          go_wp2
          rw [← HC.out]
          refine wp_region_bw (by kernel_rfl) (by kernel_rfl) ?_
          repeat (go_big_quiet_step (fail))
          refine wpQuiet_nil ?_
          rintro w1 ⟨⟨_, hbw⟩, rfl⟩
          go_wp2
          go_ret
          exact ⟨ret_bool HN.out.symm, hbB.trans (hbw.mono hbB.size)⟩
        have d2 : decide ((2 : Int) < c.parents.length) = false := decide_eq_false (by omega)
        by_cases hpe : c.parents.length = 2
        · have de : ((c.parents.length : Int) == 2) = true := by rw [hpe]; rfl
          obtain ⟨g1, off1, hg1, hi0, hj0⟩ := hpar.int (i := 0) (by omega)
          obtain ⟨g2, off2, hg2, hi1, hj1⟩ := hpar.int (i := 1) (by omega)
          rw [hg1] at hg2
          obtain ⟨rfl, rfl⟩ : g1 = g2 ∧ off1 = off2 := by simpa using hg2
          subst hg1
          have hpl : (1 : Int) < c.parents.length := by omega
          have hpl0 : (0 : Int) < c.parents.length := by omega
          obtain ⟨x0, hx0⟩ : ∃ x, c.parents[0]? = some x := ⟨_, List.getElem?_eq_getElem (by omega)⟩
          obtain ⟨x1, hx1⟩ : ∃ x, c.parents[1]? = some x := ⟨_, List.getElem?_eq_getElem (by omega)⟩
          rw [at_is hx0] at hi0
          rw [at_is hx1] at hi1
          have X0 := Lib.hid hx0
          have X1 := Lib.hid hx1
          have HPE := Lib.hid hpe
          clear hj0 hj1
          clear hx0 hx1 hpe
          have pi0 := BW.cell hi0
          have pi1 := BW.cell hi1
          rw [Nat.add_zero] at pi0
          by_cases hsame : x0 = x1
          · have ds : (x0 == x1) = true := by simp [hsame]
            have HSM := Lib.hid hsame
            have HN := Lib.hid (HBAD.out (comB_pair HPE.out X0.out X1.out HSM.out))
            clear hsame hg2
            go_wp2
            rw [← HC.out]
            refine wp_region_bw (by kernel_rfl) (by kernel_rfl) ?_
            repeat (go_big_quiet_step (fail))
            refine wpQuiet_nil ?_
            rintro w1 ⟨⟨_, hbw⟩, rfl⟩
            go_wp2
            go_ret
            exact ⟨ret_bool HN.out.symm, hbB.trans (hbw.mono hbB.size)⟩
          · have ds : (x0 == x1) = false := by simp [hsame]
            have HSM := Lib.hid hsame
            clear hsame hg2
            have HNE := Lib.hid (two_ne' HPE.out X0.out X1.out HSM.out)
            cases hn : nameB c.who with
            | false =>
              have HN := Lib.hid (HBAD.out (comB_name hn))
              go_wp2
              rw [← HC.out]
              refine wp_region_bw (by kernel_rfl) (by kernel_rfl) ?_
              repeat (go_big_quiet_step ((go_at_call 69; exact Calls.bw_same (nameOk_is _ _ hz1 hn))))
              refine wpQuiet_nil ?_
              rintro w1 ⟨⟨_, hbw⟩, rfl⟩
              go_wp2
              go_ret
              exact ⟨ret_bool HN.out.symm, hbB.trans (hbw.mono hbB.size)⟩
            | true =>
              cases ht : treeB c.tree with
              | false =>
                have HN := Lib.hid (HBAD.out (comB_tree ht))
                go_wp2
                rw [← HC.out]
                refine wp_region_bw (by kernel_rfl) (by kernel_rfl) ?_
                repeat (go_big_quiet_step ((first | (go_at_call 69; exact Calls.bw_same (nameOk_is _ _ hz1 hn)) | (go_at_call 70; exact Calls.bw (treeOk_is _ _ _ (htr.bw _).rd hsx (hM2.bw _) ht)))))
                refine wpQuiet_nil ?_
                rintro w1 ⟨⟨_, hbw⟩, rfl⟩
                go_wp2
                go_ret
                exact ⟨ret_bool HN.out.symm, hbB.trans (hbw.mono hbB.size)⟩
              | true =>
                go_wp2
                rw [← HC.out]
                refine wp_region_bw (by kernel_rfl) (by kernel_rfl) ?_
                repeat (go_big_quiet_step ((first | (go_at_call 69; exact Calls.bw_same (nameOk_is _ _ hz1 hn)) | (go_at_call 70; exact Calls.bw (treeOk_is _ _ _ (htr.bw _).rd hsx (hM2.bw _) ht)))))
                refine wpQuiet_nil ?_
                rintro w1 ⟨⟨_, hbw⟩, rfl⟩
                have HNM := Lib.hid hn
                have HTR := Lib.hid ht
                have s1 := keepc s0 hbw
                have hpar1 := hpar.below (Nat.le_refl _) hbw
                have hb1 := hbB.trans (hbw.mono hbB.size)
                have hbr1 := hbR.trans (hbw.mono hbR.size)
                clear hn ht htr htr0 hpar0 hpar r0 r1 r2 s0 hM1 hM2 hB1 hc0 hc1 hc2 hsr HC
                go_wp2
                go_loopw [55] (fun j wq => (∃ m : Nat, m ≤ c.parents.length ∧ j = .int .i64 m ∧ Hid (∀ j', (hj : j' < m) → (hj2 : j' < c.parents.length) → withinB c.parents[j'] 0 ((k : Int) - 1) = true)) ∧ w1 = wq) (fun j _ => c.parents.length - (intOf j).toNat)
                case atStart => exact ⟨⟨0, by omega, rfl, by show ∀ _, _; intro j hj; omega⟩, rfl⟩
                case round =>
                  obtain ⟨⟨m, hm, rfl, HI⟩, rfl⟩ := hrel
                  by_cases hlm : m < c.parents.length
                  · obtain ⟨g2, off2, hgg, hd1, _⟩ := hpar1.int (i := m) hlm
                    obtain ⟨rfl, rfl⟩ : g1 = g2 ∧ off1 = off2 := by simpa using hgg
                    cases hin : withinB c.parents[m] 0 ((k : Int) - 1) with
                    | false =>
                      have HN := Lib.hid (HBAD.out (comB_par hlm hin))
                      go_wp2_with fail
                      refine (within_is _ _ _ _ hin).mono ?_
                      rintro e w9 ⟨rfl, rfl⟩
                      go_wp2
                      go_ret
                      exact ⟨ret_bool HN.out.symm, hb1⟩
                    | true =>
                      have HN := Lib.hid hin
                      go_wp2_with fail
                      refine (within_is _ _ _ _ hin).mono ?_
                      rintro e w9 ⟨rfl, rfl⟩
                      go_wp2
                      go_roundw
                      case rel => exact ⟨⟨m + 1, by omega, by go_num, by show ∀ _, _; intro j' hj hj2; by_cases e : j' < m; exact HI.out j' e hj2; exact (show j' = m by omega) ▸ HN.out⟩, by first | exact rfl | trivial⟩
                      case measure => simp [intOf]; omega
                  · have HT := Lib.hid (comB_ok (c := c) (i := k) hp2 HNE.out HNM.out HTR.out (fun j hj => HI.out j (by omega) hj))
                    go_wp2
                    go_roundw
                    case rel => exact ⟨⟨k + 1, by omega, by go_num, by show ∀ _, _; intro j hj hj2; by_cases e : j < k; exact HA.out j e hj2; have e2 : j = k := (by omega); subst e2; rw [← HC0.out]; exact HT.out⟩, hbr1⟩
                    case measure => simp [intOf]; omega
        · have de : ((c.parents.length : Int) == 2) = false := by rw [beq_eq_false_iff_ne]; omega
          have HNE := Lib.hid (lone_ne hpe hp2)
          cases hn : nameB c.who with
          | false =>
            have HN := Lib.hid (HBAD.out (comB_name hn))
            go_wp2
            rw [← HC.out]
            refine wp_region_bw (by kernel_rfl) (by kernel_rfl) ?_
            repeat (go_big_quiet_step ((go_at_call 69; exact Calls.bw_same (nameOk_is _ _ hz1 hn))))
            refine wpQuiet_nil ?_
            rintro w1 ⟨⟨_, hbw⟩, rfl⟩
            go_wp2
            go_ret
            exact ⟨ret_bool HN.out.symm, hbB.trans (hbw.mono hbB.size)⟩
          | true =>
            cases ht : treeB c.tree with
            | false =>
              have HN := Lib.hid (HBAD.out (comB_tree ht))
              go_wp2
              rw [← HC.out]
              refine wp_region_bw (by kernel_rfl) (by kernel_rfl) ?_
              repeat (go_big_quiet_step ((first | (go_at_call 69; exact Calls.bw_same (nameOk_is _ _ hz1 hn)) | (go_at_call 70; exact Calls.bw (treeOk_is _ _ _ (htr.bw _).rd hsx (hM2.bw _) ht)))))
              refine wpQuiet_nil ?_
              rintro w1 ⟨⟨_, hbw⟩, rfl⟩
              go_wp2
              go_ret
              exact ⟨ret_bool HN.out.symm, hbB.trans (hbw.mono hbB.size)⟩
            | true =>
              go_wp2
              rw [← HC.out]
              refine wp_region_bw (by kernel_rfl) (by kernel_rfl) ?_
              repeat (go_big_quiet_step ((first | (go_at_call 69; exact Calls.bw_same (nameOk_is _ _ hz1 hn)) | (go_at_call 70; exact Calls.bw (treeOk_is _ _ _ (htr.bw _).rd hsx (hM2.bw _) ht)))))
              refine wpQuiet_nil ?_
              rintro w1 ⟨⟨_, hbw⟩, rfl⟩
              have HNM := Lib.hid hn
              have HTR := Lib.hid ht
              have s1 := keepc s0 hbw
              have hpar1 := hpar.below (Nat.le_refl _) hbw
              have hb1 := hbB.trans (hbw.mono hbB.size)
              have hbr1 := hbR.trans (hbw.mono hbR.size)
              clear hn ht htr htr0 hpar0 hpar r0 r1 r2 s0 hM1 hM2 hB1 hc0 hc1 hc2 hsr HC
              go_wp2
              go_loopw [55] (fun j wq => (∃ m : Nat, m ≤ c.parents.length ∧ j = .int .i64 m ∧ Hid (∀ j', (hj : j' < m) → (hj2 : j' < c.parents.length) → withinB c.parents[j'] 0 ((k : Int) - 1) = true)) ∧ w1 = wq) (fun j _ => c.parents.length - (intOf j).toNat)
              case atStart => exact ⟨⟨0, by omega, rfl, by show ∀ _, _; intro j hj; omega⟩, rfl⟩
              case round =>
                obtain ⟨⟨m, hm, rfl, HI⟩, rfl⟩ := hrel
                by_cases hlm : m < c.parents.length
                · obtain ⟨g2, off2, hgg, hd1, _⟩ := hpar1.int (i := m) hlm
                  subst hgg
                  cases hin : withinB c.parents[m] 0 ((k : Int) - 1) with
                  | false =>
                    have HN := Lib.hid (HBAD.out (comB_par hlm hin))
                    go_wp2_with fail
                    refine (within_is _ _ _ _ hin).mono ?_
                    rintro e w9 ⟨rfl, rfl⟩
                    go_wp2
                    go_ret
                    exact ⟨ret_bool HN.out.symm, hb1⟩
                  | true =>
                    have HN := Lib.hid hin
                    go_wp2_with fail
                    refine (within_is _ _ _ _ hin).mono ?_
                    rintro e w9 ⟨rfl, rfl⟩
                    go_wp2
                    go_roundw
                    case rel => exact ⟨⟨m + 1, by omega, by go_num, by show ∀ _, _; intro j' hj hj2; by_cases e : j' < m; exact HI.out j' e hj2; exact (show j' = m by omega) ▸ HN.out⟩, by first | exact rfl | trivial⟩
                    case measure => simp [intOf]; omega
                · have HT := Lib.hid (comB_ok (c := c) (i := k) hp2 HNE.out HNM.out HTR.out (fun j hj => HI.out j (by omega) hj))
                  go_wp2
                  go_roundw
                  case rel => exact ⟨⟨k + 1, by omega, by go_num, by show ∀ _, _; intro j hj hj2; by_cases e : j < k; exact HA.out j e hj2; have e2 : j = k := (by omega); subst e2; rw [← HC0.out]; exact HT.out⟩, hbr1⟩
                  case measure => simp [intOf]; omega
      · have HN := Lib.hid (repo_of (r := r) H5.out (by rw [← HX.out]; exact coms_t fun i hi => HA.out i (by omega) hi))
        have hcs := hs.below (Nat.le_refl _) hb
        have hhs := hs0.below (Nat.le_refl _) hb
        have q0 := keepc q0 hbr
        have q1 := keepc q1 hbr
        have HL := Lib.hid (congrArg List.length HX.out)
        go_wp2_with fail
        refine (headsOk_is _ _ _ xs r.heads _ hcs.rd hhs.rd rfl).mono ?_
        rintro e w9 ⟨rfl, hb9⟩
        go_wp2
        go_ret
        exact ⟨ret_bool (by rw [HN.out, ← HL.out]), hb.trans (hb9.mono hb.size)⟩
  · have d5 : decide ((16 : Int) < r.commits.length) = true := decide_eq_true (by omega)
    have HN := Lib.hid (repo_many (r := r) h5)
    clear h5
    go_enter Tryz.func51, Tryz.ntmps51
    go_wp2
    go_ret
    exact ⟨ret_bool HN.out.symm, by rw [← HW.out]; exact hB0⟩
end Go.Proofs.YthhmaclhggmneaaGreatDoor
