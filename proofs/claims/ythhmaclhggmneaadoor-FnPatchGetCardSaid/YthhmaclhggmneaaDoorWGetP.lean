/-
  Walks: a patch read, as the program does it.
-/
import Derived.Test.YthhmaclhggmneaaDoorVPG
import Derived.Test.YthhmaclhggmneaaDoorWNum
import Derived.Test.YthhmaclhggmneaaDoorWPut2
set_option linter.unusedVariables false
namespace Go.Proofs.YthhmaclhggmneaaDoor
open Go.RowKit Go.Vc
open Go.Vc.Rep (rd)
open Go.Vc.Own (own)
set_option maxHeartbeats 16000000 in
set_option maxRecDepth 100000 in
theorem implPatchGet (s : ByteArray) (w : World) (hs : s.size ≤ 1048576) (hM : ML w) (hV : NumV w) :
    Calls Tryd.prog 18 #[.string s] w fun e w' => ∃ v, e = .returned (.tuple #[v, .bool (getI s).isSome]) ∧ Fresh w.heap.size w'.heap.size w' [v] ((getI s).getD []) ∧ Below w.heap.size w w' := by
  have hpf := pieces_few s
  obtain ⟨G, hG0⟩ : ∃ G, G = getI s := ⟨_, rfl⟩
  have HPS := Lib.hid (show ∀ i (h : i < (pieces 10 s).length), (pieces 10 s)[i].size ≤ 1048576 from fun i h => Nat.le_trans (pieces_small h) hs)
  have HL := Lib.hid (linesOf_any s w (short_of hs) hM)
  have HGN := Lib.hid (fun h => getI_no (s := s) h)
  have HGY := Lib.hid (fun h => getI_yes (s := s) h)
  obtain ⟨P, hP⟩ : ∃ P, P = pieces 10 s := ⟨_, rfl⟩
  rw [← hP] at hpf HL HGN HGY HPS
  rw [← hG0] at HGN HGY ⊢
  clear hP hG0
  cases hq : decide (P.getLastD (bytesB []) = bytesB []) with
  | false =>
    have HN := Lib.hid (HGN.out (of_decide_eq_false hq))
    rw [hq] at HL
    go_enter Tryd.func18, Tryd.ntmps18
    go_wp2_with fail
    refine (HL.out).mono ?_
    rintro e w1 ⟨a, c, rfl, hS, hb1⟩
    clear HGN HGY HL hq
    go_wp2
    go_ret2
    exact ⟨.slice none 0 0, by rw [HN.out]; rfl, by rw [HN.out]; exact Fresh.nil _ _ _ (by decide), hb1⟩
  | true =>
    have HY := Lib.hid (HGY.out (of_decide_eq_true hq))
    rw [hq] at HL
    have hdl : P.dropLast.length ≤ 1048577 := by rw [List.length_dropLast]; omega
    have HPZ : Hid (∀ i (h : i < P.dropLast.length), P.dropLast[i].size ≤ 1048576) := fun i h => by rw [List.getElem_dropLast]; exact HPS.out i _
    obtain ⟨ls, hls⟩ : ∃ ls, ls = P.dropLast := ⟨_, rfl⟩
    rw [← hls] at HL HY hdl HPZ
    clear hls HGN HGY hq hpf
    obtain ⟨R, hR⟩ : ∃ R, R = readF numI [] ls := ⟨_, rfl⟩
    have HR : Hid (R = readF numI [] (ls.drop 0)) := by show R = _; rw [hR]; rfl
    rw [← hR] at HY
    clear hR
    go_enter Tryd.func18, Tryd.ntmps18
    go_wp2_with fail
    refine (HL.out).mono ?_
    rintro e w1 ⟨a, c, rfl, hS, hb1⟩
    have hle := hS.le
    have hs1 := hb1.size
    obtain ⟨m0, hm0⟩ : ∃ m0, m0 = w1.heap.size := ⟨_, rfl⟩
    rw [← hm0] at hS hs1
    have hm1 : m0 ≤ w1.heap.size := by omega
    have hd0 : Fresh m0 w1.heap.size w1 [.slice none 0 0] ([] : List Hunk) := Fresh.nil _ _ _ (by decide)
    clear HL hm0
    go_wp2
    go_loopw [6, 21] (fun dv i wr => (∃ (k : Nat) (d : List Hunk), k ≤ ls.length ∧ i = .int .i64 k ∧ d.length ≤ k ∧ IsSlice (fun b => w.heap.size ≤ b ∧ b < m0) wr a c ls ∧ Fresh m0 wr.heap.size wr [dv] d ∧ Hid (smallH k d) ∧ m0 ≤ wr.heap.size ∧ Hid (R = readF numI d (ls.drop k))) ∧ Below w.heap.size w wr) (fun _ i _ => ls.length - (intOf i).toNat)
    case atStart => exact ⟨⟨0, [], by omega, rfl, by simp, hS, hd0, smallH_nil 0, hm1, HR.out⟩, hb1⟩
    case round =>
      clear hS hd0 hm1 HR hb1
      obtain ⟨⟨k, d, hk, rfl, hdk, hS, hF, HSM, hm1, HR⟩, hb⟩ := hrel
      obtain ⟨ad, cd, hdv, _⟩ := hF.shape
      subst hdv
      have hsr := hb.size
      by_cases hlt : k < ls.length
      · obtain ⟨g, off, hag, hcl, hsz⟩ := hS.str hlt
        subst hag
        have HNX := Lib.hid (fun d' hr => readF_next (d' := d') HR.out hlt hr)
        have HBD := Lib.hid (fun hr => readF_bad HR.out hlt hr)
        have HLZ := Lib.hid (HPZ.out k hlt)
        obtain ⟨l, hl⟩ : ∃ l, l = ls[k] := ⟨_, rfl⟩
        rw [← hl] at hcl hsz HNX HBD HLZ
        clear hl HR
        by_cases hl0 : 0 < l.size
        · have he0 : l.toList.isEmpty = false := by rw [empty_dec]; exact decide_eq_false (fun e => by rw [e] at hl0; exact absurd hl0 (by decide))
          by_cases h64 : l[0].toNat = 64
          · have q64 : ((l[0].toNat : Int) == 64) = true := by rw [beq_iff_eq]; omega
            have q64n : ((l[0].toNat : Int) != 64) = false := by rw [bne_eq_false_iff_eq]; omega
            have hwd : IntKind.i64.wrap ((d.length : Int) - 1) = (d.length : Int) - 1 := IntWalk.i64_in _ (by omega)
            obtain ⟨t, ht⟩ : ∃ t, t = l.extract 1 l.size := ⟨_, rfl⟩
            have htz : t.size ≤ l.size := by rw [ht, ByteArray.size_extract]; omega
            have hcut1 : l.extract 1 l.size = t := ht.symm
            have HXX := Lib.hid (fun n (hn : numI t = some n) => HNX.out _ ((readL_at hl0).trans (by rw [← ht]; exact rc_head h64 hn)))
            have HXN := Lib.hid (fun (hn : numI t = none) => HBD.out ((readL_at hl0).trans (by rw [← ht]; exact rc_headN h64 hn)))
            clear ht HNX HBD
            have hVr := hV.keep hb
            have htz2 : t.size ≤ 1048576 := by have := HLZ.out; omega
            go_wp2_with fail
            refine (number_any t _ htz2 hVr).mono ?_
            rintro e w7 ⟨n, rfl, hnn, hni, hb7⟩
            cases hnq : numI t with
            | none =>
              have HN : Hid (G = none) := by show G = _; rw [HY.out, HXN.out hnq]; rfl
              clear HXX HXN hnn hnq
              have hb8 := hb.trans (hb7.mono hsr)
              go_wp2
              go_ret2
              exact ⟨.slice none 0 0, by rw [HN.out]; rfl, by rw [HN.out]; exact Fresh.nil _ _ _ (by decide), hb8⟩
            | some n' =>
              have hne : n' = n := by
                rcases hnn with h | h
                · rw [hnq] at h; exact Option.some.inj h
                · rw [hnq] at h; cases h
              subst hne
              have HX := Lib.hid (HXX.out n' hnq)
              clear HXX HXN hnn hnq
              have hFA := (hF.below (Nat.le_refl _) hb7).mono (Nat.le_refl _) hb7.size
              have hb8 := hb.trans (hb7.mono hsr)
              have hs7 := hb7.size
              have hS7 := hS.frame (w' := w7) (fun b hb' hl' => ⟨hb7.block b hl', hb'⟩)
              go_wp2_with (at_builtin; go_must (refine wpList_app_one slz_hunk.slt rfl (.tmp 52) (.tmp 55) rfl rfl (hFA.alloc _) (by simp; omega) rfl (heap_alloc_new _ _) (Fresh.hunk (p := (⟨n', [], []⟩ : Hunk)) hni (Fresh.nil w7.heap.size w7.heap.size _ (by decide)) (Fresh.nil w7.heap.size w7.heap.size _ (by decide)) (Nat.le_refl _) (Nat.le_refl _)) (by omega) (by omega) (by unfold maxLen; omega) ?_); intro a8 c8 w8 hG8)
              have hb9 : Below m0 w7 w8 := ((Below.refl _ _).alloc (by omega) _).trans hG8.below
              have hS8 := hS7.frame (w' := w8) (fun b hb' hl' => ⟨hb9.block b hb'.2, hb'⟩)
              have hs9 := hb9.size
              have hb10 := hb8.trans (hb9.mono hs1)
              have hFz := hG8.fresh
              clear hG8 hb9
              go_roundw
              case rel => exact ⟨⟨k + 1, d ++ [(⟨n', [], []⟩ : Hunk)], by omega, by go_num, by simp; omega, hS8, by simpa using hFz, smallH_add HSM.out, by omega, HX.out⟩, hb10⟩
              case measure => simp [intOf] <;> omega
          · have q64 : ((l[0].toNat : Int) == 64) = false := by rw [beq_eq_false_iff_ne]; omega
            have q64n : ((l[0].toNat : Int) != 64) = true := by rw [bne_iff_ne]; omega
            by_cases hd0 : 0 < d.length
            · have hdz : ((d.length : Int) == 0) = false := by rw [beq_eq_false_iff_ne]; omega
              by_cases h45 : l[0].toNat = 45
              · have q45 : ((l[0].toNat : Int) == 45) = true := by rw [beq_iff_eq]; omega
                have HX := Lib.hid (HNX.out _ ((readL_at hl0).trans (rc_less h45 hd0)))
                have hgt := HSM.out d[d.length - 1] (List.getElem_mem (by omega))
                obtain ⟨g2, hg2e, hg2, hg3⟩ := hF.addr hd0
                subst hg2e
                obtain ⟨gx, offx, b1, e1, b2, e2, hgx, hx0, hx1, hx2, hxi, hy1, hy2⟩ := (rd_slice_of hF.rd2).2.hunk (i := d.length - 1) (by omega)
                obtain ⟨rfl, rfl⟩ : g2 = gx ∧ 0 = offx := by simpa using hgx
                rw [Nat.zero_add] at hx0 hx1 hx2
                have hKl : d.length - 1 < d.length := by omega
                obtain ⟨K, hK⟩ : ∃ K, K = d.length - 1 := ⟨_, rfl⟩
                have hwr : IntKind.i64.wrap ((d.length : Int) - 1) = (K : Int) := by rw [IntWalk.i64_in _ (by omega)]; omega
                have hKl2 : K < d.length := by omega
                obtain ⟨dK, hdK⟩ : ∃ x, x = d[d.length - 1] := ⟨_, rfl⟩
                have hdK2 : d[K] = dK := by rw [hdK]; congr 1
                rw [← hdK] at hx0 hx1 hx2 HX hgt hy1 hy2
                rw [← hK] at hx0 hx1 hx2 HX
                have hg2l : g2 < wr.heap.size := World.block_lt_of_cell? wr _ hx0
                obtain ⟨t, ht⟩ : ∃ t, t = l.extract 1 l.size := ⟨_, rfl⟩
                have htz : t.size ≤ maxLen := by rw [ht, ByteArray.size_extract]; unfold maxLen at hsz ⊢; omega
                have hcut1 : l.extract 1 l.size = t := ht.symm
                have h1l : (1 : Int) ≤ (l.size : Int) := by omega
                rw [← ht] at HX
                have hsrc : IsSlice (fun b => b = wr.heap.size) (wr.alloc (.cells #[.string t] (Tid.tid ByteArray))) (some ⟨wr.heap.size, 0, none⟩) 1 [t] := lit_strs [t] (heap_alloc_new _ _) (by simpa using htz) (by unfold maxLen; simp)
                have hby : (dK.less.length + 1) * 16 ≤ 140737488355328 := by omega
                have hby2 : dK.less.length + 1 ≤ maxLen := by unfold maxLen; omega
                have hrel : (d.set K (⟨dK.at_, dK.less ++ [t], dK.more⟩ : Hunk)).length ≤ k + 1 := by rw [List.length_set]; omega
                have HS2 := Lib.hid (smallH_set (i := K) (y := (⟨dK.at_, dK.less ++ [t], dK.more⟩ : Hunk)) HSM.out (by simp <;> omega))
                have HK := Lib.hid hdK2
                have HKE := Lib.hid hK
                clear hdK hK ht hgx hKl hdK2 hgt hxi hy1 hy2 HNX HBD hx0
                go_wp2_with fail
                go_region_law (refine step_app_lens lens_hunk_less slz_string.slt rfl (.tmp 65) (.tmp 68) rfl (i := K) (ys := [t]) (by exact (hF.alloc _).drew) (by simp <;> omega) hKl2 rfl (by exact (World.cell?_alloc_lt wr _ _ hg2l).trans hx1) rfl rfl (by exact hsrc.drew) (by rw [HK.out]; exact hby) (by rw [HK.out]; exact hby2) ?_; intro a3 c3 w3 hcx hfx hbx hgx hFx; obtain ⟨u3, hcy⟩ := hcx; have hcz : w3.cell? ⟨g2, K * 3 + 1, none⟩ = some u3 := hcy; have hfz : w3.frozen? ⟨g2, K * 3 + 1, none⟩ = false := hfx; clear hcy hfx)
                all_goals
                  have hFy : Fresh m0 (w3.setCell ⟨g2, K * 3 + 1, none⟩ (.slice a3 (dK.less.length + 1) c3)).heap.size (w3.setCell ⟨g2, K * 3 + 1, none⟩ (.slice a3 (dK.less.length + 1) c3)) [.slice (some ⟨g2, 0, none⟩) d.length cd] (d.set K (⟨dK.at_, dK.less ++ [t], dK.more⟩ : Hunk)) := by rw [HK.out] at hFx; exact hFx
                  have hba : Below m0 wr (wr.alloc (.cells #[.string t] (Tid.tid ByteArray))) := (Below.refl _ _).alloc hm1 _
                  have hb3 : Below m0 wr (w3.setCell ⟨g2, K * 3 + 1, none⟩ (.slice a3 (dK.less.length + 1) c3)) := ((hba.drew).trans hbx).setCell hgx _
                  have hS3 := hS.frame (w' := w3.setCell ⟨g2, K * 3 + 1, none⟩ (.slice a3 (dK.less.length + 1) c3)) (fun b hb' _ => ⟨hb3.block b hb'.2, hb'⟩)
                  have hb4 := hb.trans (hb3.mono hs1)
                  have hs4 := hb3.size
                  clear hFx hba
                  go_wp2
                  go_roundw
                  case rel => exact ⟨⟨k + 1, _, by omega, by go_num, hrel, hS3, hFy, HS2.out, by omega, HX.out⟩, hb4⟩
                  case measure => simp [intOf] <;> omega
              · have q45 : ((l[0].toNat : Int) == 45) = false := by rw [beq_eq_false_iff_ne]; omega
                by_cases h43 : l[0].toNat = 43
                · have q43 : ((l[0].toNat : Int) == 43) = true := by rw [beq_iff_eq]; omega
                  have HX := Lib.hid (HNX.out _ ((readL_at hl0).trans (rc_more h43 hd0)))
                  have hgt := HSM.out d[d.length - 1] (List.getElem_mem (by omega))
                  obtain ⟨g2, hg2e, hg2, hg3⟩ := hF.addr hd0
                  subst hg2e
                  obtain ⟨gx, offx, b1, e1, b2, e2, hgx, hx0, hx1, hx2, hxi, hy1, hy2⟩ := (rd_slice_of hF.rd2).2.hunk (i := d.length - 1) (by omega)
                  obtain ⟨rfl, rfl⟩ : g2 = gx ∧ 0 = offx := by simpa using hgx
                  rw [Nat.zero_add] at hx0 hx1 hx2
                  have hKl : d.length - 1 < d.length := by omega
                  obtain ⟨K, hK⟩ : ∃ K, K = d.length - 1 := ⟨_, rfl⟩
                  have hwr : IntKind.i64.wrap ((d.length : Int) - 1) = (K : Int) := by rw [IntWalk.i64_in _ (by omega)]; omega
                  have hKl2 : K < d.length := by omega
                  obtain ⟨dK, hdK⟩ : ∃ x, x = d[d.length - 1] := ⟨_, rfl⟩
                  have hdK2 : d[K] = dK := by rw [hdK]; congr 1
                  rw [← hdK] at hx0 hx1 hx2 HX hgt hy1 hy2
                  rw [← hK] at hx0 hx1 hx2 HX
                  have hg2l : g2 < wr.heap.size := World.block_lt_of_cell? wr _ hx0
                  obtain ⟨t, ht⟩ : ∃ t, t = l.extract 1 l.size := ⟨_, rfl⟩
                  have htz : t.size ≤ maxLen := by rw [ht, ByteArray.size_extract]; unfold maxLen at hsz ⊢; omega
                  have hcut1 : l.extract 1 l.size = t := ht.symm
                  have h1l : (1 : Int) ≤ (l.size : Int) := by omega
                  rw [← ht] at HX
                  have hsrc : IsSlice (fun b => b = wr.heap.size) (wr.alloc (.cells #[.string t] (Tid.tid ByteArray))) (some ⟨wr.heap.size, 0, none⟩) 1 [t] := lit_strs [t] (heap_alloc_new _ _) (by simpa using htz) (by unfold maxLen; simp)
                  have hby : (dK.more.length + 1) * 16 ≤ 140737488355328 := by omega
                  have hby2 : dK.more.length + 1 ≤ maxLen := by unfold maxLen; omega
                  have hrel : (d.set K (⟨dK.at_, dK.less, dK.more ++ [t]⟩ : Hunk)).length ≤ k + 1 := by rw [List.length_set]; omega
                  have HS2 := Lib.hid (smallH_set (i := K) (y := (⟨dK.at_, dK.less, dK.more ++ [t]⟩ : Hunk)) HSM.out (by simp <;> omega))
                  have HK := Lib.hid hdK2
                  have HKE := Lib.hid hK
                  clear hdK hK ht hgx hKl hdK2 hgt hxi hy1 hy2 HNX HBD hx0
                  go_wp2_with fail
                  go_region_law (refine step_app_lens lens_hunk_more slz_string.slt rfl (.tmp 80) (.tmp 83) rfl (i := K) (ys := [t]) (by exact (hF.alloc _).drew) (by simp <;> omega) hKl2 rfl (by exact (World.cell?_alloc_lt wr _ _ hg2l).trans hx2) rfl rfl (by exact hsrc.drew) (by rw [HK.out]; exact hby) (by rw [HK.out]; exact hby2) ?_; intro a3 c3 w3 hcx hfx hbx hgx hFx; obtain ⟨u3, hcy⟩ := hcx; have hcz : w3.cell? ⟨g2, K * 3 + 2, none⟩ = some u3 := hcy; have hfz : w3.frozen? ⟨g2, K * 3 + 2, none⟩ = false := hfx; clear hcy hfx)
                  all_goals
                    have hFy : Fresh m0 (w3.setCell ⟨g2, K * 3 + 2, none⟩ (.slice a3 (dK.more.length + 1) c3)).heap.size (w3.setCell ⟨g2, K * 3 + 2, none⟩ (.slice a3 (dK.more.length + 1) c3)) [.slice (some ⟨g2, 0, none⟩) d.length cd] (d.set K (⟨dK.at_, dK.less, dK.more ++ [t]⟩ : Hunk)) := by rw [HK.out] at hFx; exact hFx
                    have hba : Below m0 wr (wr.alloc (.cells #[.string t] (Tid.tid ByteArray))) := (Below.refl _ _).alloc hm1 _
                    have hb3 : Below m0 wr (w3.setCell ⟨g2, K * 3 + 2, none⟩ (.slice a3 (dK.more.length + 1) c3)) := ((hba.drew).trans hbx).setCell hgx _
                    have hS3 := hS.frame (w' := w3.setCell ⟨g2, K * 3 + 2, none⟩ (.slice a3 (dK.more.length + 1) c3)) (fun b hb' _ => ⟨hb3.block b hb'.2, hb'⟩)
                    have hb4 := hb.trans (hb3.mono hs1)
                    have hs4 := hb3.size
                    clear hFx hba
                    go_wp2
                    go_roundw
                    case rel => exact ⟨⟨k + 1, _, by omega, by go_num, hrel, hS3, hFy, HS2.out, by omega, HX.out⟩, hb4⟩
                    case measure => simp [intOf] <;> omega
                · have q43 : ((l[0].toNat : Int) == 43) = false := by rw [beq_eq_false_iff_ne]; omega
                  have hwd : IntKind.i64.wrap ((d.length : Int) - 1) = (d.length : Int) - 1 := IntWalk.i64_in _ (by omega)
                  have HN : Hid (G = none) := by show G = _; rw [HY.out, HBD.out ((readL_at hl0).trans (rc_bad h64 h45 h43))]; rfl
                  clear HNX HBD
                  go_wp2
                  go_ret2
                  exact ⟨.slice none 0 0, by rw [HN.out]; rfl, by rw [HN.out]; exact Fresh.nil _ _ _ (by decide), hb⟩
            · have hdn : d.length = 0 := by omega
              have hde : d = [] := List.eq_nil_of_length_eq_zero hdn
              subst hde
              have HN : Hid (G = none) := by show G = _; rw [HY.out, HBD.out ((readL_at hl0).trans (rc_none h64 rfl))]; rfl
              clear HNX HBD
              go_wp2
              go_ret2
              exact ⟨.slice none 0 0, by rw [HN.out]; rfl, by rw [HN.out]; exact Fresh.nil _ _ _ (by decide), hb⟩
        · have hlz : l.size = 0 := by omega
          have he0 : l.toList.isEmpty = true := by
            rw [empty_dec]
            have hln : l.data.toList = [] := List.eq_nil_of_length_eq_zero (by simpa using hlz)
            exact decide_eq_true ((bytesB_data l).symm.trans (by rw [hln]; rfl))
          have HN : Hid (G = none) := by show G = _; rw [HY.out, HBD.out (readL_no hlz)]; rfl
          clear HNX HBD
          go_wp2
          go_ret2
          exact ⟨.slice none 0 0, by rw [HN.out]; rfl, by rw [HN.out]; exact Fresh.nil _ _ _ (by decide), hb⟩
      · have HE := Lib.hid (readF_end HR.out hlt)
        have HY2 : Hid (G = chk s (some d)) := by show G = _; rw [HY.out, HE.out]
        clear HE HY HR
        have hrd := hF.rd
        cases hpb : patchB d with
        | false =>
          have HN : Hid (G = none) := by show G = _; rw [HY2.out, chk_bad hpb]
          clear HY2
          go_wp2_with fail
          refine (patchOk_is _ d _ hrd hpb).mono ?_
          rintro e w5 ⟨rfl, hb5⟩
          have hb6 := hb.trans (hb5.mono hsr)
          clear hpb
          go_wp2
          go_ret2
          exact ⟨.slice none 0 0, by rw [HN.out]; rfl, by rw [HN.out]; exact Fresh.nil _ _ _ (by decide), hb6⟩
        | true =>
          go_wp2_with fail
          refine (patchOk_is _ d _ hrd hpb).mono ?_
          rintro e w5 ⟨rfl, hb5⟩
          have hF5 := hF.below (Nat.le_refl _) hb5
          go_wp2_with fail
          refine (patchPut_any _ d _ hF5.rd hpb).mono ?_
          rintro e w6 ⟨rfl, hb6⟩
          have hF6 := (hF5.belowm hb5.size hb6).mono (B' := w.heap.size) (m' := w6.heap.size) (by omega) (by have := hb5.size; have := hb6.size; omega)
          have hb7 := (hb.trans (hb5.mono hsr)).trans (hb6.mono (by have := hb5.size; omega))
          obtain ⟨u, hu⟩ : ∃ u, u = putB d := ⟨_, rfl⟩
          rw [← hu]
          cases hus : decide (u = s) with
          | true =>
            have hus2 : putB d = s := by rw [← hu]; exact of_decide_eq_true hus
            have HN : Hid (G = some d) := by show G = _; rw [HY2.out, chk_some hpb hus2]
            clear hus2 hpb hu HY2 hrd hF hF5
            go_wp2
            go_ret2
            exact ⟨.slice ad d.length cd, by rw [HN.out]; rfl, by rw [HN.out]; exact hF6, hb7⟩
          | false =>
            have hus2 : ¬ putB d = s := by rw [← hu]; exact of_decide_eq_false hus
            have HN : Hid (G = none) := by show G = _; rw [HY2.out, chk_other hus2]
            clear hus2 hpb hu HY2 hrd hF hF5
            go_wp2
            go_ret2
            exact ⟨.slice none 0 0, by rw [HN.out]; rfl, by rw [HN.out]; exact Fresh.nil _ _ _ (by decide), hb7⟩
end Go.Proofs.YthhmaclhggmneaaDoor
