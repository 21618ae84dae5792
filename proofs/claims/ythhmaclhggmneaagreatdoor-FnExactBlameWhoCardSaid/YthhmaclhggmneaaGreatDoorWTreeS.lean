/-
  Walks: whether there is a tree, as the reference has it.
-/
import Derived.Test.YthhmaclhggmneaaGreatDoorVL
import Derived.Test.YthhmaclhggmneaaGreatDoorVI
import Derived.Test.YthhmaclhggmneaaGreatDoorVH
set_option linter.unusedVariables false
namespace Go.Proofs.YthhmaclhggmneaaGreatDoor
open Go.RowKit Go.Vc
open Go.Vc.Rep (rd)
open Go.Vc.Own (own)

set_option maxHeartbeats 8000000 in
set_option maxRecDepth 100000 in
theorem l4Ok_any {S : Nat → Prop} (v : Value) (xs : List File) (w : World) (hv : rd S w [v] xs) :
    Calls Tryz.prog 46 #[v] w fun e w' => e = .returned (.bool (treeB xs)) ∧ Below w.heap.size w w' := by
  obtain ⟨a, cap, rfl, hs⟩ := rd_slice_elim (Rep.lt hv)
  have hle := hs.le
  have HP : Hid (treeB xs = (decide (xs.length ≤ 8) && oversB xs)) := by show _ = _; rw [overs_trees]; rfl
  go_enter Tryz.func46, Tryz.ntmps46
  go_wp2
  go_loopw [3] (fun i wr => (∃ k : Nat, k ≤ xs.length ∧ i = .int .i64 k ∧ Hid (∀ j, j < k → fileAt xs j = true ∧ overAt xs j = true)) ∧ Below w.heap.size w wr) (fun i _ => xs.length - (intOf i).toNat)
  case atStart => exact ⟨⟨0, by omega, rfl, by show ∀ _, _; intro j hj; omega⟩, Below.refl _ _⟩
  case round =>
    obtain ⟨⟨k, hk, rfl, HA⟩, hbB⟩ := hrel
    by_cases hlt : k < xs.length
    · have hsr := hs.below (Nat.le_refl _) hbB
      obtain ⟨g, off, a1, c1, rfl, hc1, hc2, hz1, hft⟩ := hsr.file hlt
      have hft := hft.lt
      have p0 := BW.cell hc1
      have p1 := BW.cell hc2
      cases hp : pathB xs[k].path with
      | false =>
        have HN := Lib.hid (overs_f hlt (fileAt_path hlt hp))
        go_wp2
        refine wp_region_bw (by kernel_rfl) (by kernel_rfl) ?_
        repeat (go_big_quiet_step ((go_at_call 64; exact Calls.bw (l4Path_is _ _ hz1 hp))))
        refine wpQuiet_nil ?_
        rintro w1 ⟨⟨_, hbw⟩, rfl⟩
        go_wp2
        go_ret
        exact ⟨ret_bool (by rw [HP.out, HN.out, Bool.and_false]), hbB.trans (hbw.mono hbB.size)⟩
      | true =>
        cases ht : textB xs[k].text with
        | false =>
          have HN := Lib.hid (overs_f hlt (fileAt_text hlt ht))
          go_wp2
          refine wp_region_bw (by kernel_rfl) (by kernel_rfl) ?_
          repeat (go_big_quiet_step ((first | (go_at_call 64; exact Calls.bw (l4Path_is _ _ hz1 hp)) | (go_at_call 65; exact Calls.bw_same (l1Ok_is _ _ _ (hft.bw _).rd ht)))))
          refine wpQuiet_nil ?_
          rintro w1 ⟨⟨_, hbw⟩, rfl⟩
          go_wp2
          go_ret
          exact ⟨ret_bool (by rw [HP.out, HN.out, Bool.and_false]), hbB.trans (hbw.mono hbB.size)⟩
        | true =>
          by_cases hk0 : 0 < k
          · have hk0' : decide (0 < k) = true := decide_eq_true hk0
            obtain ⟨g', off', a1', c1', hg, hc1', hc2', hz1', hft'⟩ := hsr.file (i := k - 1) (by omega)
            obtain ⟨rfl, rfl⟩ : g = g' ∧ off = off' := by simpa using hg
            have hc1b := hc1'
            have pc' := BW.cell hc1b
            cases hl : lessB (xs[k - 1]'(by omega)).path xs[k].path with
            | false =>
              have hl' := leq_str xs[k].path (xs[k - 1]'(by omega)).path hl
              have HN := Lib.hid (overs_f hlt (fileAt_step hk0 hlt hl))
              clear hg hl
              have e0 : IntKind.i64.wrap ((k : Int) - 1) = (k : Int) - 1 := IntWalk.i64_in _ (by omega)
              have e1 : ((k : Int) - 1).toNat = k - 1 := by omega
              have e2 : (0 : Int) ≤ (k : Int) - 1 := by omega
              go_wp2
              refine wp_region_bw (by kernel_rfl) (by kernel_rfl) ?_
              repeat (go_big_quiet_step ((first | (go_at_call 64; exact Calls.bw (l4Path_is _ _ hz1 hp)) | (go_at_call 65; exact Calls.bw_same (l1Ok_is _ _ _ (hft.bw _).rd ht)))))
              refine wpQuiet_nil ?_
              rintro w1 ⟨⟨_, hbw⟩, rfl⟩
              clear e0 e1
              go_wp2
              go_ret
              exact ⟨ret_bool (by rw [HP.out, HN.out, Bool.and_false]), hbB.trans (hbw.mono hbB.size)⟩
            | true =>
              have hl' := leq_str xs[k].path (xs[k - 1]'(by omega)).path hl
              have HS := Lib.hid (fileAt_pos hk0 hlt hp ht hl)
              clear hg hl
              have e0 : IntKind.i64.wrap ((k : Int) - 1) = (k : Int) - 1 := IntWalk.i64_in _ (by omega)
              have e1 : ((k : Int) - 1).toNat = k - 1 := by omega
              have e2 : (0 : Int) ≤ (k : Int) - 1 := by omega
              go_wp2
              refine wp_region_bw (by kernel_rfl) (by kernel_rfl) ?_
              repeat (go_big_quiet_step ((first | (go_at_call 64; exact Calls.bw (l4Path_is _ _ hz1 hp)) | (go_at_call 65; exact Calls.bw_same (l1Ok_is _ _ _ (hft.bw _).rd ht)))))
              refine wpQuiet_nil ?_
              rintro w1 ⟨⟨_, hbw⟩, rfl⟩
              clear e0 e1
              have hb1 := hbB.trans (hbw.mono hbB.size)
              clear hft p0 p1 hsr hc1 hc2 ht hp pc' hc1b hc1' hc2' hz1' hft' hl'
              go_wp2
              go_loopw [4] (fun j wq => (∃ m : Nat, m ≤ xs.length ∧ j = .int .i64 m ∧ Hid (∀ j', (hj : j' < m) → (hj2 : j' < xs.length) → inB xs[k].path xs[j'].path = false)) ∧ Below w1.heap.size w1 wq) (fun j _ => xs.length - (intOf j).toNat)
              case atStart => exact ⟨⟨0, by omega, rfl, by show ∀ _, _; intro j hj; omega⟩, Below.refl _ _⟩
              case round =>
                obtain ⟨⟨m, hm, rfl, HI⟩, hq⟩ := hrel
                have hbq := hb1.trans (hq.mono hb1.size)
                by_cases hlm : m < xs.length
                · have hsq := hs.below (Nat.le_refl _) hbq
                  obtain ⟨g2, off2, a2, c2, hg2, hd1, hd2, hz3, hft2⟩ := hsq.file (i := m) hlm
                  obtain ⟨rfl, rfl⟩ : g = g2 ∧ off = off2 := by simpa using hg2
                  obtain ⟨g3, off3, a3, c3, hg3, hd3, hd4, hz4, hft3⟩ := hsq.file (i := k) hlt
                  obtain ⟨rfl, rfl⟩ : g = g3 ∧ off = off3 := by simpa using hg3
                  have p2 := BW.cell hd1
                  have p3 := BW.cell hd3
                  clear hg2 hg3
                  cases hin : inB xs[k].path xs[m].path with
                  | true =>
                    have HN := Lib.hid (overs_f2 hlt hlm hin)
                    go_wp2
                    refine wp_region_bw (by kernel_rfl) (by kernel_rfl) ?_
                    repeat (go_big_quiet_step ((go_at_call 66; exact Calls.bw_same (l4In_is _ _ _ hz4 hz3 hin))))
                    refine wpQuiet_nil ?_
                    rintro w1 ⟨⟨_, hbw⟩, rfl⟩
                    go_wp2
                    go_ret
                    exact ⟨ret_bool (by rw [HP.out, HN.out, Bool.and_false]), hbq.trans (hbw.mono hbq.size)⟩
                  | false =>
                    have HN := Lib.hid hin
                    go_wp2
                    refine wp_region_bw (by kernel_rfl) (by kernel_rfl) ?_
                    repeat (go_big_quiet_step ((go_at_call 66; exact Calls.bw_same (l4In_is _ _ _ hz4 hz3 hin))))
                    refine wpQuiet_nil ?_
                    rintro w1 ⟨⟨_, hbw⟩, rfl⟩
                    go_wp2
                    go_roundw
                    case rel => exact ⟨⟨m + 1, by omega, by go_num, by show ∀ _, _; intro j' hj hj2; by_cases e : j' < m; exact HI.out j' e hj2; exact (show j' = m by omega) ▸ HN.out⟩, hq.trans (hbw.mono hq.size)⟩
                    case measure => simp [intOf]; omega
                · have HT := Lib.hid (overAt_t hlt fun j hj => HI.out j (by omega) hj)
                  go_wp2
                  go_roundw
                  case rel => exact ⟨⟨k + 1, by omega, by go_num, by show ∀ _, _; intro j hj; by_cases e : j < k; exact HA.out j e; exact (show j = k by omega) ▸ ⟨HS.out, HT.out⟩⟩, hbq⟩
                  case measure => simp [intOf]; omega
          · have hk0' : decide (0 < k) = false := decide_eq_false hk0
            have HS := Lib.hid (fileAt_first (by omega) hlt hp ht)
            go_wp2
            refine wp_region_bw (by kernel_rfl) (by kernel_rfl) ?_
            repeat (go_big_quiet_step ((first | (go_at_call 64; exact Calls.bw (l4Path_is _ _ hz1 hp)) | (go_at_call 65; exact Calls.bw_same (l1Ok_is _ _ _ (hft.bw _).rd ht)))))
            refine wpQuiet_nil ?_
            rintro w1 ⟨⟨_, hbw⟩, rfl⟩
            have hb1 := hbB.trans (hbw.mono hbB.size)
            clear hft p0 p1 hsr hc1 hc2 ht hp
            go_wp2
            go_loopw [4] (fun j wq => (∃ m : Nat, m ≤ xs.length ∧ j = .int .i64 m ∧ Hid (∀ j', (hj : j' < m) → (hj2 : j' < xs.length) → inB xs[k].path xs[j'].path = false)) ∧ Below w1.heap.size w1 wq) (fun j _ => xs.length - (intOf j).toNat)
            case atStart => exact ⟨⟨0, by omega, rfl, by show ∀ _, _; intro j hj; omega⟩, Below.refl _ _⟩
            case round =>
              obtain ⟨⟨m, hm, rfl, HI⟩, hq⟩ := hrel
              have hbq := hb1.trans (hq.mono hb1.size)
              by_cases hlm : m < xs.length
              · have hsq := hs.below (Nat.le_refl _) hbq
                obtain ⟨g2, off2, a2, c2, hg2, hd1, hd2, hz3, hft2⟩ := hsq.file (i := m) hlm
                obtain ⟨rfl, rfl⟩ : g = g2 ∧ off = off2 := by simpa using hg2
                obtain ⟨g3, off3, a3, c3, hg3, hd3, hd4, hz4, hft3⟩ := hsq.file (i := k) hlt
                obtain ⟨rfl, rfl⟩ : g = g3 ∧ off = off3 := by simpa using hg3
                have p2 := BW.cell hd1
                have p3 := BW.cell hd3
                clear hg2 hg3
                cases hin : inB xs[k].path xs[m].path with
                | true =>
                  have HN := Lib.hid (overs_f2 hlt hlm hin)
                  go_wp2
                  refine wp_region_bw (by kernel_rfl) (by kernel_rfl) ?_
                  repeat (go_big_quiet_step ((go_at_call 66; exact Calls.bw_same (l4In_is _ _ _ hz4 hz3 hin))))
                  refine wpQuiet_nil ?_
                  rintro w1 ⟨⟨_, hbw⟩, rfl⟩
                  go_wp2
                  go_ret
                  exact ⟨ret_bool (by rw [HP.out, HN.out, Bool.and_false]), hbq.trans (hbw.mono hbq.size)⟩
                | false =>
                  have HN := Lib.hid hin
                  go_wp2
                  refine wp_region_bw (by kernel_rfl) (by kernel_rfl) ?_
                  repeat (go_big_quiet_step ((go_at_call 66; exact Calls.bw_same (l4In_is _ _ _ hz4 hz3 hin))))
                  refine wpQuiet_nil ?_
                  rintro w1 ⟨⟨_, hbw⟩, rfl⟩
                  go_wp2
                  go_roundw
                  case rel => exact ⟨⟨m + 1, by omega, by go_num, by show ∀ _, _; intro j' hj hj2; by_cases e : j' < m; exact HI.out j' e hj2; exact (show j' = m by omega) ▸ HN.out⟩, hq.trans (hbw.mono hq.size)⟩
                  case measure => simp [intOf]; omega
              · have HT := Lib.hid (overAt_t hlt fun j hj => HI.out j (by omega) hj)
                go_wp2
                go_roundw
                case rel => exact ⟨⟨k + 1, by omega, by go_num, by show ∀ _, _; intro j hj; by_cases e : j < k; exact HA.out j e; exact (show j = k by omega) ▸ ⟨HS.out, HT.out⟩⟩, hbq⟩
                case measure => simp [intOf]; omega
    · have HN := Lib.hid (overs_t (t := xs) fun i hi => HA.out i (by omega))
      go_wp2
      go_ret
      exact ⟨ret_bool (by rw [HP.out, HN.out, Bool.and_true]; rw [decide_eq_decide]; omega), hbB⟩
theorem l4Ok_is {S : Nat → Prop} (v : Value) (xs : List File) (w : World) (hv : rd S w [v] xs) {b : Bool} (h : treeB xs = b) :
    Calls Tryz.prog 46 #[v] w fun e w' => e = .returned (.bool b) ∧ Below w.heap.size w w' := by rw [← h]; exact l4Ok_any v xs w hv
end Go.Proofs.YthhmaclhggmneaaGreatDoor
