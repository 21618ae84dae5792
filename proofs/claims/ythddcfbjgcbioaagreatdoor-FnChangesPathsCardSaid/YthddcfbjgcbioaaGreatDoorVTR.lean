/-
  Walks: whether there is a tree, as the program has it. / Walks: whether there is a repository, as the program has it. / Walks: lists of commits, as the program has them.
-/
import Derived.Test.YthddcfbjgcbioaaGreatDoorVL
import Derived.Test.YthddcfbjgcbioaaGreatDoorVI
import Derived.Test.YthddcfbjgcbioaaGreatDoorVH
import Derived.Test.YthddcfbjgcbioaaGreatDoorVK
set_option linter.unusedVariables false
namespace Go.Proofs.YthddcfbjgcbioaaGreatDoor
open Go.RowKit Go.Vc
open Go.Vc.Rep (rd)
open Go.Vc.Own (own)

set_option maxHeartbeats 8000000 in
set_option maxRecDepth 100000 in
theorem treeOk_any {S : Nat → Prop} (v : Value) (xs : List File) (w : World) (hv : rd S w [v] xs) (hS : ∀ f, f ∈ xs → ShortS f.path) (hM : ML w) :
    Calls Tryz.prog 19 #[v] w fun e w' => e = .returned (.bool (treeB xs)) ∧ Below w.heap.size w w' := by
  obtain ⟨a, cap, rfl, hs⟩ := rd_slice_elim (Rep.lt hv)
  have hle := hs.le
  have hcap := hs.1
  by_cases h5 : xs.length ≤ 8
  · have d5 : decide ((8 : Int) < xs.length) = false := decide_eq_false (by omega)
    have HP := Lib.hid (tree_few h5)
    clear h5
    go_enter Tryz.func19, Tryz.ntmps19
    go_wp2
    go_loopw [12] (fun i wr => (∃ k : Nat, k ≤ xs.length ∧ i = .int .i64 k ∧ Hid (∀ j, j < k → treeAt xs j = true)) ∧ Below w.heap.size w wr) (fun i _ => xs.length - (intOf i).toNat)
    case atStart => exact ⟨⟨0, by omega, rfl, by show ∀ _, _; intro j hj; omega⟩, Below.refl _ _⟩
    case round =>
      obtain ⟨⟨k, hk, rfl, HA⟩, hb⟩ := hrel
      by_cases hlt : k < xs.length
      · have hsr := hs.below (Nat.le_refl _) hb
        have hM1 := hM.keep hb
        obtain ⟨g, off, a1, c1, rfl, hc1, hc2, hz1, hft0⟩ := hsr.file hlt
        obtain ⟨wb, hwb⟩ : ∃ wb, wb = wr.alloc (.cells #[.string xs[k].path, .slice a1 xs[k].text.length c1] 36) := ⟨_, rfl⟩
        have hB0 : Below wr.heap.size wr wb := by rw [hwb]; exact ((Below.refl _ _).alloc (by simp <;> omega) _)
        have q0 : wb.cell? ⟨wr.heap.size, 0, none⟩ = some (.string xs[k].path) := by rw [hwb, cell_of_row _ _ 0 _ _ (0, 0) (heap_alloc_new _ _)]; rfl
        have q1 : wb.cell? ⟨wr.heap.size, 1, none⟩ = some (.slice a1 xs[k].text.length c1) := by rw [hwb, cell_of_row _ _ 1 _ _ (0, 0) (heap_alloc_new _ _)]; rfl
        have hM2 := hM1.keep hB0
        have hft := hft0.lt.keep hB0
        have hbB := hb.trans (hB0.mono hb.size)
        have p0 := BW.cell q0
        have p1 := BW.cell q1
        have HW := Lib.hid hwb
        clear hwb
        cases ht : textB xs[k].text with
        | false =>
          have HN := Lib.hid (trees_f hlt (treeAt_file (fileAt_text hlt ht)))
          go_wp2
          rw [← HW.out]
          refine wp_region_bw (by kernel_rfl) (by kernel_rfl) ?_
          repeat (go_big_quiet_step ((go_at_call 46; exact Calls.bw_same (textOk_is _ _ _ (hft.bw _).rd ht))))
          refine wpQuiet_nil ?_
          rintro w1 ⟨⟨_, hbw⟩, rfl⟩
          go_wp2
          go_ret
          exact ⟨ret_bool (by rw [HP.out, HN.out]), hbB.trans (hbw.mono hbB.size)⟩
        | true =>
          cases hp : pathB xs[k].path with
          | false =>
            have HN := Lib.hid (trees_f hlt (treeAt_file (fileAt_path hlt hp)))
            go_wp2
            rw [← HW.out]
            refine wp_region_bw (by kernel_rfl) (by kernel_rfl) ?_
            repeat (go_big_quiet_step ((first | (go_at_call 46; exact Calls.bw_same (textOk_is _ _ _ (hft.bw _).rd ht)) | (go_at_call 47; exact Calls.bw (pathOk_is _ _ (hS xs[k] (List.getElem_mem hlt)) (hM2.bw _) hp)))))
            refine wpQuiet_nil ?_
            rintro w1 ⟨⟨_, hbw⟩, rfl⟩
            go_wp2
            go_ret
            exact ⟨ret_bool (by rw [HP.out, HN.out]), hbB.trans (hbw.mono hbB.size)⟩
          | true =>
            by_cases hk0 : 0 < k
            · have hk0' : decide (0 < k) = true := decide_eq_true hk0
              obtain ⟨g', off', a1', c1', hg, hc1', hc2', hz1', hft'⟩ := hsr.file (i := k - 1) (by omega)
              obtain ⟨rfl, rfl⟩ : g = g' ∧ off = off' := by simpa using hg
              have hc1b := keepc (w' := wb) (hb := hB0) hc1'
              have pc' := BW.cell hc1b
              cases hl : lessB (xs[k - 1]'(by omega)).path xs[k].path with
              | false =>
                have hl' : Op.bytesLess (xs[k - 1]'(by omega)).path.toList xs[k].path.toList = false := hl
                have HN := Lib.hid (trees_f hlt (treeAt_file (fileAt_step hk0 hlt hl)))
                clear hg hl
                have e0 : IntKind.i64.wrap ((k : Int) - 1) = (k : Int) - 1 := IntWalk.i64_in _ (by omega)
                have e1 : ((k : Int) - 1).toNat = k - 1 := by omega
                have e2 : (0 : Int) ≤ (k : Int) - 1 := by omega
                go_wp2
                rw [← HW.out]
                refine wp_region_bw (by kernel_rfl) (by kernel_rfl) ?_
                repeat (go_big_quiet_step ((first | (go_at_call 46; exact Calls.bw_same (textOk_is _ _ _ (hft.bw _).rd ht)) | (go_at_call 47; exact Calls.bw (pathOk_is _ _ (hS xs[k] (List.getElem_mem hlt)) (hM2.bw _) hp)))))
                refine wpQuiet_nil ?_
                rintro w1 ⟨⟨_, hbw⟩, rfl⟩
                clear e0 e1
                go_wp2
                go_ret
                exact ⟨ret_bool (by rw [HP.out, HN.out]), hbB.trans (hbw.mono hbB.size)⟩
              | true =>
                have hl' : Op.bytesLess (xs[k - 1]'(by omega)).path.toList xs[k].path.toList = true := hl
                have HS := Lib.hid (fileAt_pos hk0 hlt hp ht hl)
                clear hg hl
                have e0 : IntKind.i64.wrap ((k : Int) - 1) = (k : Int) - 1 := IntWalk.i64_in _ (by omega)
                have e1 : ((k : Int) - 1).toNat = k - 1 := by omega
                have e2 : (0 : Int) ≤ (k : Int) - 1 := by omega
                go_wp2
                rw [← HW.out]
                refine wp_region_bw (by kernel_rfl) (by kernel_rfl) ?_
                repeat (go_big_quiet_step ((first | (go_at_call 46; exact Calls.bw_same (textOk_is _ _ _ (hft.bw _).rd ht)) | (go_at_call 47; exact Calls.bw (pathOk_is _ _ (hS xs[k] (List.getElem_mem hlt)) (hM2.bw _) hp)))))
                refine wpQuiet_nil ?_
                rintro w1 ⟨⟨_, hbw⟩, rfl⟩
                clear e0 e1
                have q0 := keepc q0 hbw
                have hb1 := hbB.trans (hbw.mono hbB.size)
                have hs1 := hs.below (Nat.le_refl _) hb1
                have hM3 := hM2.keep hbw
                have hct := run_cut0 slz_file.slt (some ⟨g, off, none⟩) xs.length cap k (by omega)
                obtain ⟨fp, hfp⟩ : ∃ fp, fp = xs[k].path := ⟨_, rfl⟩
                have hsf := hS xs[k] (List.getElem_mem hlt)
                rw [← hfp] at q0 hsf hp
                have HF := Lib.hid hfp
                clear hfp hft p0 p1 q1 hM1 hM2 hB0 hsr hc1 hc2 HW ht hft0 pc' hc1b hc1' hc2' hz1' hft' hl'
                go_wp2
                go_loopw [46] (fun j wq => (∃ m : Nat, m ≤ k ∧ j = .int .i64 m ∧ Hid (∀ j', (hj : j' < m) → (hj2 : j' < k) → inB (xs[j']'(by omega)).path fp = false)) ∧ Below w1.heap.size w1 wq) (fun j _ => k - (intOf j).toNat)
                case atStart => exact ⟨⟨0, by omega, rfl, by show ∀ _, _; intro j hj; omega⟩, Below.refl _ _⟩
                case round =>
                  obtain ⟨⟨m, hm, rfl, HI⟩, hq⟩ := hrel
                  by_cases hlm : m < k
                  · have hsq := hs.below (Nat.le_refl _) (hb1.trans (hq.mono hb1.size))
                    obtain ⟨g2, off2, a2, c2, hg2, hd1, hd2, hz3, hft2⟩ := hsq.file (i := m) (by omega)
                    obtain ⟨rfl, rfl⟩ : g = g2 ∧ off = off2 := by simpa using hg2
                    have q2 := keepc q0 hq
                    have hbq := World.block_lt_of_cell? wr _ q2
                    have hM4 := hM3.keep hq
                    have hpm := (treeAt_path (by omega) (HA.out m hlm)).1
                    have HPI := Lib.hid (pathIn_ok hpm hp)
                    have hsm := hS (xs[m]'(by omega)) (List.getElem_mem _)
                    have hMa := hM4.keep ((Below.refl wr.heap.size wr).alloc (Nat.le_refl _) (.cells #[.string (xs[m]'(by omega)).path, .slice a2 (xs[m]'(by omega)).text.length c2] 36))
                    have hba := (hb1.trans (hq.mono hb1.size)).alloc (by have := hb1.size; have := hq.size; omega) (.cells #[.string (xs[m]'(by omega)).path, .slice a2 (xs[m]'(by omega)).text.length c2] 36)
                    have hqa := hq.alloc hq.size (.cells #[.string (xs[m]'(by omega)).path, .slice a2 (xs[m]'(by omega)).text.length c2] 36)
                    clear hg2 hpm
                    cases hin : inB (xs[m]'(by omega)).path fp with
                    | true =>
                      have HN := Lib.hid (trees_f hlt (treeAt_in hlt hlm (by rw [← HF.out]; exact hin)))
                      go_wp2_with fail
                      refine (pathIn_is _ _ _ hsm hsf hMa (HPI.out.trans hin)).mono ?_
                      rintro e w9 ⟨rfl, hb9⟩
                      go_wp2
                      go_ret
                      exact ⟨ret_bool (by rw [HP.out, HN.out]), hba.trans (hb9.mono hba.size)⟩
                    | false =>
                      have HN := Lib.hid hin
                      go_wp2_with fail
                      refine (pathIn_is _ _ _ hsm hsf hMa (HPI.out.trans hin)).mono ?_
                      rintro e w9 ⟨rfl, hb9⟩
                      go_wp2
                      go_roundw
                      case rel => exact ⟨⟨m + 1, by omega, by go_num, by show ∀ _, _; intro j' hj hj2; by_cases e : j' < m; exact HI.out j' e hj2; exact (show j' = m by omega) ▸ HN.out⟩, hqa.trans (hb9.mono hqa.size)⟩
                      case measure => simp [intOf]; omega
                  · have HT := Lib.hid (treeAt_ok hlt HS.out (fun j hj => by rw [← HF.out]; exact HI.out j (by omega) hj))
                    go_wp2
                    go_roundw
                    case rel => exact ⟨⟨k + 1, by omega, by go_num, by show ∀ _, _; intro j hj; by_cases e : j < k; exact HA.out j e; exact (show j = k by omega) ▸ HT.out⟩, hb1.trans (hq.mono hb1.size)⟩
                    case measure => simp [intOf]; omega
            · have hk0' : decide (0 < k) = false := decide_eq_false hk0
              have HS := Lib.hid (fileAt_first (by omega) hlt hp ht)
              go_wp2
              rw [← HW.out]
              refine wp_region_bw (by kernel_rfl) (by kernel_rfl) ?_
              repeat (go_big_quiet_step ((first | (go_at_call 46; exact Calls.bw_same (textOk_is _ _ _ (hft.bw _).rd ht)) | (go_at_call 47; exact Calls.bw (pathOk_is _ _ (hS xs[k] (List.getElem_mem hlt)) (hM2.bw _) hp)))))
              refine wpQuiet_nil ?_
              rintro w1 ⟨⟨_, hbw⟩, rfl⟩
              have q0 := keepc q0 hbw
              have hb1 := hbB.trans (hbw.mono hbB.size)
              have hs1 := hs.below (Nat.le_refl _) hb1
              have hM3 := hM2.keep hbw
              have hct := run_cut0 slz_file.slt (some ⟨g, off, none⟩) xs.length cap k (by omega)
              obtain ⟨fp, hfp⟩ : ∃ fp, fp = xs[k].path := ⟨_, rfl⟩
              have hsf := hS xs[k] (List.getElem_mem hlt)
              rw [← hfp] at q0 hsf hp
              have HF := Lib.hid hfp
              clear hfp hft p0 p1 q1 hM1 hM2 hB0 hsr hc1 hc2 HW ht hft0
              go_wp2
              go_loopw [46] (fun j wq => (∃ m : Nat, m ≤ k ∧ j = .int .i64 m ∧ Hid (∀ j', (hj : j' < m) → (hj2 : j' < k) → inB (xs[j']'(by omega)).path fp = false)) ∧ Below w1.heap.size w1 wq) (fun j _ => k - (intOf j).toNat)
              case atStart => exact ⟨⟨0, by omega, rfl, by show ∀ _, _; intro j hj; omega⟩, Below.refl _ _⟩
              case round =>
                obtain ⟨⟨m, hm, rfl, HI⟩, hq⟩ := hrel
                by_cases hlm : m < k
                · exact absurd (by omega : 0 < k) hk0
                · have HT := Lib.hid (treeAt_ok hlt HS.out (fun j hj => by rw [← HF.out]; exact HI.out j (by omega) hj))
                  go_wp2
                  go_roundw
                  case rel => exact ⟨⟨k + 1, by omega, by go_num, by show ∀ _, _; intro j hj; by_cases e : j < k; exact HA.out j e; exact (show j = k by omega) ▸ HT.out⟩, hb1.trans (hq.mono hb1.size)⟩
                  case measure => simp [intOf]; omega
      · have HN := Lib.hid (trees_t (t := xs) fun i hi => HA.out i (by omega))
        go_wp2
        go_ret
        exact ⟨ret_bool (by rw [HP.out, HN.out]), hb⟩
  · have d5 : decide ((8 : Int) < xs.length) = true := decide_eq_true (by omega)
    have HP := Lib.hid (tree_long h5)
    clear h5
    go_enter Tryz.func19, Tryz.ntmps19
    go_wp2
    go_ret
    exact ⟨ret_bool HP.out.symm, Below.refl _ _⟩
theorem treeOk_is {S : Nat → Prop} (v : Value) (xs : List File) (w : World) (hv : rd S w [v] xs) (hS : ∀ f, f ∈ xs → ShortS f.path) (hM : ML w) {b : Bool} (h : treeB xs = b) :
    Calls Tryz.prog 19 #[v] w fun e w' => e = .returned (.bool b) ∧ Below w.heap.size w w' := by rw [← h]; exact treeOk_any v xs w hv hS hM
end Go.Proofs.YthddcfbjgcbioaaGreatDoor
namespace Go.Proofs.YthddcfbjgcbioaaGreatDoor
open Go.RowKit Go.Vc
open Go.Vc.Rep (rd)
open Go.Vc.Own (own)

end Go.Proofs.YthddcfbjgcbioaaGreatDoor
namespace Go.Proofs.YthddcfbjgcbioaaGreatDoor
open Go.RowKit Go.Vc
open Go.Vc.Rep (rd)
open Go.Vc.Own (own)




end Go.Proofs.YthddcfbjgcbioaaGreatDoor
