/-
  Walks: whether owners are ok.
-/
import Derived.Test.YtfpneepnnoldeaaDoorVL
import Derived.Test.YtfpneepnnoldeaaDoorVI
import Derived.Test.YtfpneepnnoldeaaDoorPlOw
set_option linter.unusedVariables false
namespace Go.Proofs.YtfpneepnnoldeaaDoor
open Go.RowKit Go.Vc
open Go.Vc.Rep (rd)
open Go.Vc.Own (own)

set_option maxHeartbeats 4000000 in
set_option maxRecDepth 100000 in
theorem implOwnersOk {S : Nat → Prop} (v : Value) (xs : List Owner) (w : World) (hv : rd S w [v] xs) (hS : ∀ x, x ∈ xs → ShortS x.path) (hM : ML w) :
    Calls Tryd.prog 15 #[v] w fun e w' => e = .returned (.bool (ownersB xs)) ∧ Below w.heap.size w w' := by
  obtain ⟨a, cap, rfl, hs⟩ := rd_slice_elim (Rep.lt hv)
  have hle := hs.le
  by_cases h5 : xs.length ≤ 5
  · have d5 : decide ((5 : Int) < xs.length) = false := decide_eq_false (by omega)
    have HP := Lib.hid (own_few h5)
    clear h5
    go_enter Tryd.func15, Tryd.ntmps15
    go_wp2
    go_loopw [10] (fun i wr => (∃ k : Nat, k ≤ xs.length ∧ i = .int .i64 k ∧ Hid (∀ j, j < k → ownAt xs j = true)) ∧ Below w.heap.size w wr) (fun i _ => xs.length - (intOf i).toNat)
    case atStart => exact ⟨⟨0, by omega, rfl, by show ∀ _, _; intro j hj; omega⟩, Below.refl _ _⟩
    case round =>
      obtain ⟨⟨k, hk, rfl, HA⟩, hb⟩ := hrel
      by_cases hlt : k < xs.length
      · have hsr := hs.below (Nat.le_refl _) hb
        have hM1 := hM.keep hb
        obtain ⟨g, off, rfl, hc1, hc2, hz1, hz2⟩ := hsr.owner hlt
        obtain ⟨wb, hwb⟩ : ∃ wb, wb = wr.alloc (.cells #[.string xs[k].path, .string xs[k].who] 30) := ⟨_, rfl⟩
        have hB0 : Below wr.heap.size wr wb := by rw [hwb]; exact ((Below.refl _ _).alloc (by simp <;> omega) _)
        have q0 : wb.cell? ⟨wr.heap.size, 0, none⟩ = some (.string xs[k].path) := by rw [hwb, cell_of_row _ _ 0 _ _ (0, 0) (heap_alloc_new _ _)]; rfl
        have q1 : wb.cell? ⟨wr.heap.size, 1, none⟩ = some (.string xs[k].who) := by rw [hwb, cell_of_row _ _ 1 _ _ (0, 0) (heap_alloc_new _ _)]; rfl
        have hM2 := hM1.keep hB0
        have hbB := hb.trans (hB0.mono hb.size)
        have p0 := BW.cell q0
        have p1 := BW.cell q1
        have HW := Lib.hid hwb
        clear hwb
        cases hp : pathB xs[k].path with
        | false =>
          have HN := Lib.hid (own_f hlt (ownAt_path hlt hp))
          go_wp2
          rw [← HW.out]
          refine wp_region_bw (by kernel_rfl) (by kernel_rfl) ?_
          repeat (go_big_quiet_step ((go_at_call 17; exact Calls.bw (pathOk_is _ _ (hS xs[k] (List.getElem_mem hlt)) (hM2.bw _) hp))))
          refine wpQuiet_nil ?_
          rintro w1 ⟨⟨_, hbw⟩, rfl⟩
          go_wp2
          go_ret
          exact ⟨ret_bool (by rw [HP.out, HN.out]), hbB.trans (hbw.mono hbB.size)⟩
        | true =>
          cases hn : nameB xs[k].who with
          | false =>
            have HN := Lib.hid (own_f hlt (ownAt_who hlt hn))
            go_wp2
            rw [← HW.out]
            refine wp_region_bw (by kernel_rfl) (by kernel_rfl) ?_
            repeat (go_big_quiet_step ((first | (go_at_call 17; exact Calls.bw (pathOk_is _ _ (hS xs[k] (List.getElem_mem hlt)) (hM2.bw _) hp)) | (go_at_call 60; exact Calls.bw_same (nameOk_is _ _ hz2 hn)))))
            refine wpQuiet_nil ?_
            rintro w1 ⟨⟨_, hbw⟩, rfl⟩
            go_wp2
            go_ret
            exact ⟨ret_bool (by rw [HP.out, HN.out]), hbB.trans (hbw.mono hbB.size)⟩
          | true =>
            by_cases hk0 : 0 < k
            · have hk0' : decide (0 < k) = true := decide_eq_true hk0
              obtain ⟨g', off', hg, hc1', hc2', hz1', hz2'⟩ := hsr.owner (i := k - 1) (by omega)
              obtain ⟨rfl, rfl⟩ : g = g' ∧ off = off' := by simpa using hg
              have hc1b := keepc (w' := wb) (hb := hB0) hc1'
              have pc' := BW.cell hc1b
              cases hl : lessB (xs[k - 1]'(by omega)).path xs[k].path with
              | false =>
                have hl' : Op.bytesLess (xs[k - 1]'(by omega)).path.toList xs[k].path.toList = false := hl
                have HN := Lib.hid (own_f hlt (ownAt_step hk0 hlt hl))
                clear hg hl
                have e0 : IntKind.i64.wrap ((k : Int) - 1) = (k : Int) - 1 := IntWalk.i64_in _ (by omega)
                have e1 : ((k : Int) - 1).toNat = k - 1 := by omega
                have e2 : (0 : Int) ≤ (k : Int) - 1 := by omega
                go_wp2
                rw [← HW.out]
                refine wp_region_bw (by kernel_rfl) (by kernel_rfl) ?_
                repeat (go_big_quiet_step ((first | (go_at_call 17; exact Calls.bw (pathOk_is _ _ (hS xs[k] (List.getElem_mem hlt)) (hM2.bw _) hp)) | (go_at_call 60; exact Calls.bw_same (nameOk_is _ _ hz2 hn)))))
                refine wpQuiet_nil ?_
                rintro w1 ⟨⟨_, hbw⟩, rfl⟩
                clear e0 e1
                go_wp2
                go_ret
                exact ⟨ret_bool (by rw [HP.out, HN.out]), hbB.trans (hbw.mono hbB.size)⟩
              | true =>
                have hl' : Op.bytesLess (xs[k - 1]'(by omega)).path.toList xs[k].path.toList = true := hl
                have HS := Lib.hid (ownAt_pos hk0 hlt hp hn hl)
                clear hg hl
                have e0 : IntKind.i64.wrap ((k : Int) - 1) = (k : Int) - 1 := IntWalk.i64_in _ (by omega)
                have e1 : ((k : Int) - 1).toNat = k - 1 := by omega
                have e2 : (0 : Int) ≤ (k : Int) - 1 := by omega
                go_wp2
                rw [← HW.out]
                refine wp_region_bw (by kernel_rfl) (by kernel_rfl) ?_
                repeat (go_big_quiet_step ((first | (go_at_call 17; exact Calls.bw (pathOk_is _ _ (hS xs[k] (List.getElem_mem hlt)) (hM2.bw _) hp)) | (go_at_call 60; exact Calls.bw_same (nameOk_is _ _ hz2 hn)))))
                refine wpQuiet_nil ?_
                rintro w1 ⟨⟨_, hbw⟩, rfl⟩
                clear e0 e1
                go_wp2
                go_roundw
                case rel => exact ⟨⟨k + 1, by omega, by go_num, by show ∀ _, _; intro j hj; by_cases e : j < k; exact HA.out j e; exact (show j = k by omega) ▸ HS.out⟩, hbB.trans (hbw.mono hbB.size)⟩
                case measure => simp [intOf]; omega
            · have hk0' : decide (0 < k) = false := decide_eq_false hk0
              have HS := Lib.hid (ownAt_first (by omega) hlt hp hn)
              go_wp2
              rw [← HW.out]
              refine wp_region_bw (by kernel_rfl) (by kernel_rfl) ?_
              repeat (go_big_quiet_step ((first | (go_at_call 17; exact Calls.bw (pathOk_is _ _ (hS xs[k] (List.getElem_mem hlt)) (hM2.bw _) hp)) | (go_at_call 60; exact Calls.bw_same (nameOk_is _ _ hz2 hn)))))
              refine wpQuiet_nil ?_
              rintro w1 ⟨⟨_, hbw⟩, rfl⟩
              go_wp2
              go_roundw
              case rel => exact ⟨⟨k + 1, by omega, by go_num, by show ∀ _, _; intro j hj; by_cases e : j < k; exact HA.out j e; exact (show j = k by omega) ▸ HS.out⟩, hbB.trans (hbw.mono hbB.size)⟩
              case measure => simp [intOf]; omega
      · have HN := Lib.hid (own_t (xs := xs) fun i hi => HA.out i (by omega))
        go_wp2
        go_ret
        exact ⟨ret_bool (by rw [HP.out, HN.out]), hb⟩
  · have d5 : decide ((5 : Int) < xs.length) = true := decide_eq_true (by omega)
    have HP := Lib.hid (own_long h5)
    clear h5
    go_enter Tryd.func15, Tryd.ntmps15
    go_wp2
    go_ret
    exact ⟨ret_bool HP.out.symm, Below.refl _ _⟩
set_option maxHeartbeats 4000000 in
set_option maxRecDepth 100000 in
theorem l17Owners {S : Nat → Prop} (v : Value) (xs : List Owner) (w : World) (hv : rd S w [v] xs) :
    Calls Tryd.prog 57 #[v] w fun e w' => e = .returned (.bool (ownersB xs)) ∧ Below w.heap.size w w' := by
  obtain ⟨a, cap, rfl, hs⟩ := rd_slice_elim (Rep.lt hv)
  have hle := hs.le
  go_enter Tryd.func57, Tryd.ntmps57
  go_wp2
  go_loopw [3] (fun i wr => (∃ k : Nat, k ≤ xs.length ∧ i = .int .i64 k ∧ Hid (∀ j, j < k → ownAt xs j = true)) ∧ Below w.heap.size w wr) (fun i _ => xs.length - (intOf i).toNat)
  case atStart => exact ⟨⟨0, by omega, rfl, by show ∀ _, _; intro j hj; omega⟩, Below.refl _ _⟩
  case round =>
    obtain ⟨⟨k, hk, rfl, HA⟩, hbB⟩ := hrel
    by_cases hlt : k < xs.length
    · have hsr := hs.below (Nat.le_refl _) hbB
      obtain ⟨g, off, rfl, hc1, hc2, hz1, hz2⟩ := hsr.owner hlt
      have p1 := BW.cell hc1
      have p2 := BW.cell hc2
      cases hp : pathB xs[k].path with
      | false =>
        have HN := Lib.hid (own_f' hlt (ownAt_path hlt hp))
        go_wp2
        refine wp_region_bw (by kernel_rfl) (by kernel_rfl) ?_
        repeat (go_big_quiet_step ((go_at_call 58; exact Calls.bw (l4Path_is _ _ hz1 hp))))
        refine wpQuiet_nil ?_
        rintro w1 ⟨⟨_, hbw⟩, rfl⟩
        go_wp2
        go_ret
        exact ⟨ret_bool (by rw [HN.out]), hbB.trans (hbw.mono hbB.size)⟩
      | true =>
        cases hn : nameB xs[k].who with
        | false =>
          have HN := Lib.hid (own_f' hlt (ownAt_who hlt hn))
          go_wp2
          refine wp_region_bw (by kernel_rfl) (by kernel_rfl) ?_
          repeat (go_big_quiet_step ((first | (go_at_call 58; exact Calls.bw (l4Path_is _ _ hz1 hp)) | (go_at_call 97; exact Calls.bw_same (l4Name_is _ _ hz2 hn)))))
          refine wpQuiet_nil ?_
          rintro w1 ⟨⟨_, hbw⟩, rfl⟩
          go_wp2
          go_ret
          exact ⟨ret_bool (by rw [HN.out]), hbB.trans (hbw.mono hbB.size)⟩
        | true =>
          by_cases hk0 : 0 < k
          · have hk0' : decide (0 < k) = true := decide_eq_true hk0
            obtain ⟨g', off', hg, hc1', hc2', hz1', hz2'⟩ := hsr.owner (i := k - 1) (by omega)
            obtain ⟨rfl, rfl⟩ : g = g' ∧ off = off' := by simpa using hg
            have hc1b := hc1'
            have pc' := BW.cell hc1b
            cases hl : lessB (xs[k - 1]'(by omega)).path xs[k].path with
            | false =>
              have hl' := leq_str xs[k].path (xs[k - 1]'(by omega)).path hl
              have HN := Lib.hid (own_f' hlt (ownAt_step hk0 hlt hl))
              clear hg hl
              have e0 : IntKind.i64.wrap ((k : Int) - 1) = (k : Int) - 1 := IntWalk.i64_in _ (by omega)
              have e1 : ((k : Int) - 1).toNat = k - 1 := by omega
              have e2 : (0 : Int) ≤ (k : Int) - 1 := by omega
              go_wp2
              refine wp_region_bw (by kernel_rfl) (by kernel_rfl) ?_
              repeat (go_big_quiet_step ((first | (go_at_call 58; exact Calls.bw (l4Path_is _ _ hz1 hp)) | (go_at_call 97; exact Calls.bw_same (l4Name_is _ _ hz2 hn)))))
              refine wpQuiet_nil ?_
              rintro w1 ⟨⟨_, hbw⟩, rfl⟩
              clear e0 e1
              go_wp2
              go_ret
              exact ⟨ret_bool (by rw [HN.out]), hbB.trans (hbw.mono hbB.size)⟩
            | true =>
              have hl' := leq_str xs[k].path (xs[k - 1]'(by omega)).path hl
              have HS := Lib.hid (ownAt_pos hk0 hlt hp hn hl)
              clear hg hl
              have e0 : IntKind.i64.wrap ((k : Int) - 1) = (k : Int) - 1 := IntWalk.i64_in _ (by omega)
              have e1 : ((k : Int) - 1).toNat = k - 1 := by omega
              have e2 : (0 : Int) ≤ (k : Int) - 1 := by omega
              go_wp2
              refine wp_region_bw (by kernel_rfl) (by kernel_rfl) ?_
              repeat (go_big_quiet_step ((first | (go_at_call 58; exact Calls.bw (l4Path_is _ _ hz1 hp)) | (go_at_call 97; exact Calls.bw_same (l4Name_is _ _ hz2 hn)))))
              refine wpQuiet_nil ?_
              rintro w1 ⟨⟨_, hbw⟩, rfl⟩
              clear e0 e1
              go_wp2
              go_roundw
              case rel => exact ⟨⟨k + 1, by omega, by go_num, by show ∀ _, _; intro j hj; by_cases e : j < k; exact HA.out j e; exact (show j = k by omega) ▸ HS.out⟩, hbB.trans (hbw.mono hbB.size)⟩
              case measure => simp [intOf]; omega
          · have hk0' : decide (0 < k) = false := decide_eq_false hk0
            have HS := Lib.hid (ownAt_first (by omega) hlt hp hn)
            go_wp2
            refine wp_region_bw (by kernel_rfl) (by kernel_rfl) ?_
            repeat (go_big_quiet_step ((first | (go_at_call 58; exact Calls.bw (l4Path_is _ _ hz1 hp)) | (go_at_call 97; exact Calls.bw_same (l4Name_is _ _ hz2 hn)))))
            refine wpQuiet_nil ?_
            rintro w1 ⟨⟨_, hbw⟩, rfl⟩
            go_wp2
            go_roundw
            case rel => exact ⟨⟨k + 1, by omega, by go_num, by show ∀ _, _; intro j hj; by_cases e : j < k; exact HA.out j e; exact (show j = k by omega) ▸ HS.out⟩, hbB.trans (hbw.mono hbB.size)⟩
            case measure => simp [intOf]; omega
    · have HN := Lib.hid (own_t (xs := xs) fun i hi => HA.out i (by omega))
      go_wp2
      go_ret
      exact ⟨ret_bool (by rw [ownersB, HN.out, Bool.and_true]; rw [decide_eq_decide]; omega), hbB⟩
theorem specOwnersOk {S : Nat → Prop} (v : Value) (xs : List Owner) (w : World) (hv : rd S w [v] xs) :
    Calls Tryd.prog 16 #[v] w fun e w' => e = .returned (.bool (ownersB xs)) ∧ Below w.heap.size w w' := by
  go_enter Tryd.func16, Tryd.ntmps16
  go_wp2_with fail
  refine (l17Owners v xs w hv).mono ?_
  rintro e w1 ⟨rfl, hb⟩
  go_wp2
  go_ret
  exact ⟨rfl, hb⟩
end Go.Proofs.YtfpneepnnoldeaaDoor
