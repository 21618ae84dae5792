/-
  Walks: changes made, as the reference makes them.
-/
import Derived.Test.YtlaklnpdnohofaaGreatDoorVCP
import Derived.Test.YtlaklnpdnohofaaGreatDoorVD1
import Derived.Test.YtlaklnpdnohofaaGreatDoorWChD
import Derived.Test.YtlaklnpdnohofaaGreatDoorVDJ
import Derived.Test.YtlaklnpdnohofaaGreatDoorV2P
set_option linter.unusedVariables false
namespace Go.Vc
theorem takeC_len {t : List File} {l : List Change} {out r : List File} (h : takeC t l out = some r) : r.length ≤ out.length := take_len h
end Go.Vc
namespace Go.Proofs.YtlaklnpdnohofaaGreatDoor
open Go.RowKit Go.Vc
open Go.Vc.Rep (rd)
open Go.Vc.Own (own)
theorem getT_ten {t : List File} (h : ∀ f, f ∈ t → f.text.length ≤ 10) (p : ByteArray) : ((getT t p).getD []).length ≤ 10 := by
  rcases getT_cases t p with h1 | ⟨f, h1, _, h2⟩
  · rw [h1]; simp
  · rw [h2]; exact h f h1
theorem set_len9 (o : List File) (f : File) : (setT o f).length ≤ o.length + 1 := setT_len o f
set_option maxHeartbeats 8000000 in
set_option maxRecDepth 100000 in
theorem l5Take_any {S T : Nat → Prop} (v u : Value) (t : List File) (list : List Change) (w : World) (hv : rd S w [v] t) (hu : rd T w [u] list) (hl : t.length ≤ 1000) {M : Option (List File)} (hM : takeC t list t = M) :
    Calls Tryz.prog 92 #[v, u] w fun e w' => ∃ v', e = .returned (.tuple #[v', .bool M.isSome]) ∧ rd (fun b => b < w'.heap.size) w' [v'] (M.getD []) ∧ Below w.heap.size w w' := by
  obtain ⟨at1, ct1, rfl, hts⟩ := rd_slice_elim (Rep.lt hv)
  obtain ⟨al1, cl1, rfl, hls⟩ := rd_slice_elim (Rep.lt hu)
  have HM : Hid (M = takeC t (list.drop 0) t) := hM.symm
  have n1 := hts.le
  have n2 := hls.le
  clear hv hu hM
  go_enter Tryz.func92, Tryz.ntmps92
  go_wp2
  go_loopw [6, 7] (fun ov i wr => (∃ (k : Nat) (o : List File), k ≤ list.length ∧ i = .int .i64 k ∧ o.length ≤ t.length ∧ rd (fun b => b < wr.heap.size) wr [ov] o ∧ Hid (M = takeC t (list.drop k) o)) ∧ Below w.heap.size w wr) (fun _ i _ => list.length - (intOf i).toNat)
  case atStart => exact ⟨⟨0, t, by omega, rfl, Nat.le_refl _, hts.rd, HM.out⟩, Below.refl _ _⟩
  case round =>
    obtain ⟨⟨k, o, hk, rfl, ho, hO, HA⟩, hb⟩ := hrel
    obtain ⟨wx, hwx⟩ : ∃ wx : World, wx = wr := ⟨_, rfl⟩
    subst hwx
    obtain ⟨ao, co, hvo, hos⟩ := rd_slice_elim hO
    subst hvo
    have hsx := hb.size
    clear HM
    by_cases hlt : k < list.length
    · obtain ⟨g, off, a3, c3, a4, c4, hag, e0, e1, e2, e3, e4, hi0, hz1, hz2, h3, h4⟩ := (hls.keep hb).change hlt
      subst hag
      have HTA := Lib.hid (fun h1 => take_add HA.out hlt h1)
      have HTG := Lib.hid (fun h1 h2 => take_gone HA.out hlt h1 h2)
      have HTO := Lib.hid (fun h1 (x : List ByteArray) h2 h3 => take_other HA.out hlt h1 (x := x) h2 h3)
      have HTT := Lib.hid (fun h1 (x : List ByteArray) h2 h3 => take_out HA.out hlt h1 (x := x) h2 h3)
      obtain ⟨kd, hkd⟩ : ∃ kd, kd = list[k].kind := ⟨_, rfl⟩
      obtain ⟨p, hp⟩ : ∃ p, p = list[k].path := ⟨_, rfl⟩
      obtain ⟨d, hd⟩ : ∃ d, d = list[k].dst := ⟨_, rfl⟩
      obtain ⟨tx, htx⟩ : ∃ tx, tx = list[k].text := ⟨_, rfl⟩
      obtain ⟨pt, hpt⟩ : ∃ pt, pt = list[k].patch := ⟨_, rfl⟩
      rw [← hkd] at e0 hi0 HTA HTG HTO HTT
      rw [← hp] at e1 hz1 HTG HTO HTT
      rw [← hd] at e2 hz2
      rw [← htx] at e3 h3 HTO HTT
      rw [← hpt] at e4 h4
      obtain ⟨wb, hwb⟩ : ∃ wb, wb = wx.alloc (.cells #[.int .i64 kd, .string p, .string d, .slice a3 tx.length c3, .slice a4 pt.length c4] 69) := ⟨_, rfl⟩
      obtain ⟨hB1, hsb, hq⟩ := boxed (vs := [.int .i64 kd, .string p, .string d, .slice a3 tx.length c3, .slice a4 pt.length c4]) hwb
      have q0 := hq 0 _ rfl
      have q1 := hq 1 _ rfl
      have q3 := hq 3 _ rfl
      have hBb := hb.trans (hB1.mono hsx)
      have hob := hos.keep hB1
      have htb := hts.keep hBb
      have h3b := h3.keep (hB1.mono hsx)
      have hxb : wx.heap.size < wb.heap.size := by omega
      obtain ⟨G, hG⟩ : ∃ G, getT t p = G := ⟨_, rfl⟩
      rw [hG] at HTG HTO HTT
      have HG := Lib.hid hG
      have HWB := Lib.hid hwb
      have GI := l4Get_in (S := fun b => b < w.heap.size) _ t p _ htb.rd hG
      clear hwb hkd hp hd htx hpt hq hG HA h3 h4
      go_wp2_with fail
      rw [← HWB.out]
      refine GI.mono ?_
      rintro e w3 ⟨tv, rfl, hT, rfl⟩
      obtain ⟨av, cv, hvv, hTs⟩ := rd_slice_elim hT
      subst hvv
      clear HWB GI
      by_cases k1 : kd = 1
      · have j1 := beq_t k1
        have HN := Lib.hid (HTA.out k1)
        clear k1 HTA HTG HTO HTT
        go_wp2
        go_roundw
        case rel => exact ⟨⟨k + 1, o, by omega, by go_num, ho, Rep.lt hob.rd, HN.out⟩, hBb⟩
        case measure => simp [intOf] <;> omega
      have j1 := beq_f k1
      have HG1 := Lib.hid (HTG.out k1)
      have HT1 := Lib.hid (HTT.out k1)
      clear HTG HTT HTA k1
      cases G with
      | none =>
        have HZ := Lib.hid (HG1.out rfl)
        clear HTO HG1 HT1
        have es : (none : Option (List ByteArray)).isSome = false := rfl
        rw [es]
        clear es
        go_wp2
        go_ret2
        exact ⟨.slice none 0 0, by rw [HZ.out]; rfl, by rw [HZ.out]; exact Rep.lt (rd_none0 _), hBb⟩
      | some x =>
        have HTO1 := Lib.hid (fun h => HTO.out h x rfl)
        have HTT1 := Lib.hid (HT1.out x rfl)
        have es : (some x : Option (List ByteArray)).isSome = true := rfl
        have eg : (some x : Option (List ByteArray)).getD [] = x := rfl
        rw [es, eg]
        rw [eg] at hTs
        clear es eg HTO HG1 HT1 hT
        by_cases k2 : kd = 2
        · have j2 := beq_t k2
          by_cases he : x = tx
          · have hd1 : decide (x = tx) = true := decide_eq_true he
            have HN := Lib.hid (HTT1.out (fun _ => he))
            clear k2 he HTO1 HTT1
            go_wp2_with fail
            refine (l1Same_is _ _ x tx _ hTs.rd h3b.rd hd1).mono ?_
            rintro e w4 ⟨rfl, n4, he4⟩
            have hb4 : Below wb.heap.size wb w4 := by rw [he4]; exact below_drewN (Below.refl _ _) n4
            clear he4
            have hs4 := hb4.size
            have q0 := keepc q0 hb4
            have q1 := keepc q1 hb4
            have hx5 : wx.heap.size < w4.heap.size := by omega
            have ho4 := hob.keep (hb4.mono hB1.size)
            have hB4 := hBb.trans (hb4.mono hBb.size)
            have n4 := ho4.le
            obtain ⟨w5, hw5⟩ : ∃ w5 : World, w5 = w4 := ⟨_, rfl⟩
            rw [← hw5] at q0 q1 ho4 hB4 hx5 ⊢
            obtain ⟨O2, hO2⟩ : ∃ O2, (o.filter fun g => !decide (g.path = p)) = O2 := ⟨_, rfl⟩
            rw [hO2] at HN
            have H0 : Hid (O2 = [] ++ (o.drop 0).filter fun g => !decide (g.path = p)) := hO2.symm
            have hE := Fresh.empty (β := Raw File) (by decide) w5.heap.size w5 (Nat.le_refl _)
            have hO2l : O2.length ≤ t.length := by rw [← hO2]; exact Nat.le_trans (List.length_filter_le _ _) ho
            clear hO2 hw5 q3 e0 e1 e2 e3 e4 hTs h3b htb hob hb4 hBb hB1 hO
            go_wp2
            go_loopw [11, 12] (fun fv i wr => (∃ (j : Nat) (ol : List (Raw File)) (ys : List File), j ≤ o.length ∧ i = .int .i64 j ∧ ol.length ≤ j ∧ Fresh w5.heap.size wr.heap.size wr [fv] ol ∧ All2 (fun (r : Raw File) x => rd (fun b => b < wx.heap.size) w5 (Raw.vs r) x) ol ys ∧ Hid (O2 = ys ++ (o.drop j).filter (fun g => !decide (g.path = p)))) ∧ Below w5.heap.size w5 wr) (fun _ i _ => o.length - (intOf i).toNat)
            case atStart => exact ⟨⟨0, [], [], by omega, rfl, by simp, hE.now, trivial, H0.out⟩, (Below.refl _ _).alloc (Nat.le_refl _) _⟩
            case round =>
              clear hE H0
              obtain ⟨⟨j, ol, ys, hj, rfl, hol, hF, hA2, HB⟩, hb6⟩ := hrel
              obtain ⟨wy, hwy⟩ : ∃ wy : World, wy = wr := ⟨_, rfl⟩
              subst hwy
              obtain ⟨a6, c6, hv6, _⟩ := hF.shape
              subst hv6
              have hsy := hb6.size
              have q1 := keepc q1 hb6
              by_cases hlj : j < o.length
              · obtain ⟨g2, off2, a7, c7, hag2, f0, f1, hzf, hft⟩ := ho4.file hlj
                subst hag2
                have hraw := rd_file_mk hzf hft
                have f0 := keepc f0 hb6
                have f1 := keepc f1 hb6
                have HYY := Lib.hid (fun hp => filt_yes (P := fun g : File => !decide (g.path = p)) HB.out hlj hp)
                have HNN := Lib.hid (fun hp => filt_no (P := fun g : File => !decide (g.path = p)) HB.out hlj hp)
                obtain ⟨f, hf⟩ : ∃ f, f = o[j] := ⟨_, rfl⟩
                rw [← hf] at f0 f1 hzf hraw HYY HNN
                clear hf hft HB
                have z1 := BW.cell q1
                have z2 := BW.cell f0
                by_cases he : f.path = p
                · have hne := str_ne_f he
                  have hdp : decide (f.path = p) = true := decide_eq_true he
                  have HN2 := Lib.hid (HNN.out (by rw [decide_eq_true he]; rfl))
                  clear HYY HNN he
                  go_wp2
                  refine wp_region_bw (by kernel_rfl) (by kernel_rfl) ?_
                  repeat (go_big_quiet_step (fail))
                  refine wpQuiet_nil ?_
                  rintro w1 ⟨⟨_, hbw⟩, rfl⟩
                  go_wp2
                  go_roundw
                  case rel => exact ⟨⟨j + 1, ol, ys, by omega, by go_num, by omega, (hF.below (Nat.le_refl _) hbw).mono (Nat.le_refl _) hbw.size, hA2, HN2.out⟩, hb6.trans (hbw.mono hsy)⟩
                  case measure => simp [intOf] <;> omega
                · have hne := str_ne_t he
                  have hdp : decide (f.path = p) = false := decide_eq_false he
                  have HN2 := Lib.hid (HYY.out (by rw [decide_eq_false he]; rfl))
                  clear HYY HNN he
                  go_wp2
                  refine wp_region_bw (by kernel_rfl) (by kernel_rfl) ?_
                  repeat (go_big_quiet_step (fail))
                  refine wpQuiet_nil ?_
                  rintro w1 ⟨⟨_, hbw⟩, rfl⟩
                  have hF7 := (hF.below (Nat.le_refl _) hbw).mono (Nat.le_refl _) hbw.size
                  have f0 := keepc f0 hbw
                  have f1 := keepc f1 hbw
                  have hb7 := hb6.trans (hbw.mono hsy)
                  have hs7 := hb7.size
                  clear z1 z2 hbw
                  go_wp2_with (at_builtin; (refine wpList_app_leaf slz_file.slt.raw rfl (.tmp 63) (.tmp 68) rfl rfl (hF7.alloc _) (by simp; omega) rfl rfl (lit_raw (heap_alloc_new _ _) rfl (one_cells2 _ _ _ _) (by decide)) (by simp; omega) (by unfold maxLen; simp; omega) ?_); intro a8 c8 w8 hG8)
                  go_roundw
                  case rel => exact ⟨⟨j + 1, _, ys ++ [f], by omega, by go_num, by simp; omega, by have := hG8.fresh; simpa using this, hA2.snoc hraw, HN2.out⟩, (hb7.alloc hs7 _).trans hG8.below⟩
                  case measure => simp [intOf] <;> omega
              · have HE := Lib.hid (filt_end HB.out hlj)
                have hR := fresh_unraw hF (hA2.mono fun r x h => Rep.frame (S' := fun b => b < wx.heap.size) (fun b hb' hl => ⟨hb6.block b hl, hb'⟩) h)
                rw [← HE.out] at hR
                go_wp2
                go_roundw
                case rel => exact ⟨⟨k + 1, O2, by omega, by go_num, hO2l, Rep.lt hR, HN.out⟩, hB4.trans (hb6.mono hB4.size)⟩
                case measure => simp [intOf] <;> omega
          · have hd1 : decide (x = tx) = false := decide_eq_false he
            have HZ := Lib.hid (HTO1.out k2 he)
            clear k2 he HTO1 HTT1
            go_wp2_with fail
            refine (l1Same_is _ _ x tx _ hTs.rd h3b.rd hd1).mono ?_
            rintro e w4 ⟨rfl, n4, he4⟩
            have hb4 : Below wb.heap.size wb w4 := by rw [he4]; exact below_drewN (Below.refl _ _) n4
            clear he4
            go_wp2
            go_ret2
            exact ⟨.slice none 0 0, by rw [HZ.out]; rfl, by rw [HZ.out]; exact Rep.lt (rd_none0 _), hBb.trans (hb4.mono hBb.size)⟩
        · have j2 := beq_f k2
          have HN := Lib.hid (HTT1.out (fun h => absurd h k2))
          have hb4 : Below wb.heap.size wb wb := Below.refl _ _
          clear k2 HTO1 HTT1
          have hs4 := hb4.size
          have q0 := keepc q0 hb4
          have q1 := keepc q1 hb4
          have hx5 : wx.heap.size < wb.heap.size := by omega
          have ho4 := hob.keep (hb4.mono hB1.size)
          have hB4 := hBb.trans (hb4.mono hBb.size)
          have n4 := ho4.le
          obtain ⟨w5, hw5⟩ : ∃ w5 : World, w5 = wb := ⟨_, rfl⟩
          rw [← hw5] at q0 q1 ho4 hB4 hx5 ⊢
          obtain ⟨O2, hO2⟩ : ∃ O2, (o.filter fun g => !decide (g.path = p)) = O2 := ⟨_, rfl⟩
          rw [hO2] at HN
          have H0 : Hid (O2 = [] ++ (o.drop 0).filter fun g => !decide (g.path = p)) := hO2.symm
          have hE := Fresh.empty (β := Raw File) (by decide) w5.heap.size w5 (Nat.le_refl _)
          have hO2l : O2.length ≤ t.length := by rw [← hO2]; exact Nat.le_trans (List.length_filter_le _ _) ho
          clear hO2 hw5 q3 e0 e1 e2 e3 e4 hTs h3b htb hob hb4 hBb hB1 hO
          go_wp2
          go_loopw [11, 12] (fun fv i wr => (∃ (j : Nat) (ol : List (Raw File)) (ys : List File), j ≤ o.length ∧ i = .int .i64 j ∧ ol.length ≤ j ∧ Fresh w5.heap.size wr.heap.size wr [fv] ol ∧ All2 (fun (r : Raw File) x => rd (fun b => b < wx.heap.size) w5 (Raw.vs r) x) ol ys ∧ Hid (O2 = ys ++ (o.drop j).filter (fun g => !decide (g.path = p)))) ∧ Below w5.heap.size w5 wr) (fun _ i _ => o.length - (intOf i).toNat)
          case atStart => exact ⟨⟨0, [], [], by omega, rfl, by simp, hE.now, trivial, H0.out⟩, (Below.refl _ _).alloc (Nat.le_refl _) _⟩
          case round =>
            clear hE H0
            obtain ⟨⟨j, ol, ys, hj, rfl, hol, hF, hA2, HB⟩, hb6⟩ := hrel
            obtain ⟨wy, hwy⟩ : ∃ wy : World, wy = wr := ⟨_, rfl⟩
            subst hwy
            obtain ⟨a6, c6, hv6, _⟩ := hF.shape
            subst hv6
            have hsy := hb6.size
            have q1 := keepc q1 hb6
            by_cases hlj : j < o.length
            · obtain ⟨g2, off2, a7, c7, hag2, f0, f1, hzf, hft⟩ := ho4.file hlj
              subst hag2
              have hraw := rd_file_mk hzf hft
              have f0 := keepc f0 hb6
              have f1 := keepc f1 hb6
              have HYY := Lib.hid (fun hp => filt_yes (P := fun g : File => !decide (g.path = p)) HB.out hlj hp)
              have HNN := Lib.hid (fun hp => filt_no (P := fun g : File => !decide (g.path = p)) HB.out hlj hp)
              obtain ⟨f, hf⟩ : ∃ f, f = o[j] := ⟨_, rfl⟩
              rw [← hf] at f0 f1 hzf hraw HYY HNN
              clear hf hft HB
              have z1 := BW.cell q1
              have z2 := BW.cell f0
              by_cases he : f.path = p
              · have hne := str_ne_f he
                have hdp : decide (f.path = p) = true := decide_eq_true he
                have HN2 := Lib.hid (HNN.out (by rw [decide_eq_true he]; rfl))
                clear HYY HNN he
                go_wp2
                refine wp_region_bw (by kernel_rfl) (by kernel_rfl) ?_
                repeat (go_big_quiet_step (fail))
                refine wpQuiet_nil ?_
                rintro w1 ⟨⟨_, hbw⟩, rfl⟩
                go_wp2
                go_roundw
                case rel => exact ⟨⟨j + 1, ol, ys, by omega, by go_num, by omega, (hF.below (Nat.le_refl _) hbw).mono (Nat.le_refl _) hbw.size, hA2, HN2.out⟩, hb6.trans (hbw.mono hsy)⟩
                case measure => simp [intOf] <;> omega
              · have hne := str_ne_t he
                have hdp : decide (f.path = p) = false := decide_eq_false he
                have HN2 := Lib.hid (HYY.out (by rw [decide_eq_false he]; rfl))
                clear HYY HNN he
                go_wp2
                refine wp_region_bw (by kernel_rfl) (by kernel_rfl) ?_
                repeat (go_big_quiet_step (fail))
                refine wpQuiet_nil ?_
                rintro w1 ⟨⟨_, hbw⟩, rfl⟩
                have hF7 := (hF.below (Nat.le_refl _) hbw).mono (Nat.le_refl _) hbw.size
                have f0 := keepc f0 hbw
                have f1 := keepc f1 hbw
                have hb7 := hb6.trans (hbw.mono hsy)
                have hs7 := hb7.size
                clear z1 z2 hbw
                go_wp2_with (at_builtin; (refine wpList_app_leaf slz_file.slt.raw rfl (.tmp 63) (.tmp 68) rfl rfl (hF7.alloc _) (by simp; omega) rfl rfl (lit_raw (heap_alloc_new _ _) rfl (one_cells2 _ _ _ _) (by decide)) (by simp; omega) (by unfold maxLen; simp; omega) ?_); intro a8 c8 w8 hG8)
                go_roundw
                case rel => exact ⟨⟨j + 1, _, ys ++ [f], by omega, by go_num, by simp; omega, by have := hG8.fresh; simpa using this, hA2.snoc hraw, HN2.out⟩, (hb7.alloc hs7 _).trans hG8.below⟩
                case measure => simp [intOf] <;> omega
            · have HE := Lib.hid (filt_end HB.out hlj)
              have hR := fresh_unraw hF (hA2.mono fun r x h => Rep.frame (S' := fun b => b < wx.heap.size) (fun b hb' hl => ⟨hb6.block b hl, hb'⟩) h)
              rw [← HE.out] at hR
              go_wp2
              go_roundw
              case rel => exact ⟨⟨k + 1, O2, by omega, by go_num, hO2l, Rep.lt hR, HN.out⟩, hB4.trans (hb6.mono hB4.size)⟩
              case measure => simp [intOf] <;> omega
    · have HE := Lib.hid (take_end HA.out hlt)
      go_wp2
      go_ret2
      exact ⟨_, by rw [HE.out]; rfl, by rw [HE.out]; exact hO, hb⟩
set_option maxHeartbeats 8000000 in
set_option maxRecDepth 100000 in
theorem l5Do_any {S T : Nat → Prop} (v u : Value) (t : List File) (list : List Change) (w : World) (hv : rd S w [v] t) (hu : rd T w [u] list) (ht : treeB t = true) (hl : changesB list = true) :
    Calls Tryz.prog 45 #[v, u] w fun e w' => ∃ v', e = .returned (.tuple #[v', .bool (changesDo t list).2]) ∧ rd (fun b => b < w'.heap.size) w' [v'] (changesDo t list).1 ∧ Below w.heap.size w w' := by
  obtain ⟨at1, ct1, rfl, hts⟩ := rd_slice_elim (Rep.lt hv)
  obtain ⟨al1, cl1, rfl, hls⟩ := rd_slice_elim (Rep.lt hu)
  obtain ⟨x1, x2⟩ := tree_files ht
  obtain ⟨l1, l2, l3⟩ := (changesB_iff list).1 hl
  obtain ⟨M, hMM⟩ : ∃ M, takeC t list t = M := ⟨_, rfl⟩
  have HBT := Lib.hid ht
  have HBL := Lib.hid hl
  have HMM := Lib.hid hMM
  have TK := l5Take_any _ _ t list w hts.rd hls.rd (by omega) hMM
  clear hv hu hMM ht hl
  go_enter Tryz.func45, Tryz.ntmps45
  go_wp2_with fail
  refine TK.mono ?_
  rintro e w1 ⟨v1, rfl, hO1, hb1⟩
  have hs1 := hb1.size
  obtain ⟨ao1, co1, hv1, _⟩ := rd_slice_elim hO1
  subst hv1
  clear TK
  cases M with
  | none =>
    have HR := Lib.hid (changesDo_take HBT.out HBL.out HMM.out)
    have es : (none : Option (List File)).isSome = false := rfl
    rw [es]
    clear es
    go_wp2
    go_ret2
    exact ⟨.slice none 0 0, by rw [HR.out]; rfl, by rw [HR.out]; exact Rep.lt (rd_none0 _), hb1⟩
  | some o1 =>
    have es : (some o1 : Option (List File)).isSome = true := rfl
    have eg : (some o1 : Option (List File)).getD [] = o1 := rfl
    rw [es, eg]
    rw [eg] at hO1
    have ho1 : o1.length ≤ 8 := Nat.le_trans (takeC_len HMM.out) x1
    obtain ⟨N, hNN⟩ : ∃ N, putC t list o1 = N := ⟨_, rfl⟩
    have HN0 : Hid (N = putC t (list.drop 0) o1) := hNN.symm
    have HNN := Lib.hid hNN
    clear es eg hNN
    go_wp2
    go_loopw [6, 8] (fun ov i wr => (∃ (k : Nat) (o : List File), k ≤ list.length ∧ i = .int .i64 k ∧ o.length ≤ 8 + k ∧ rd (fun b => b < wr.heap.size) wr [ov] o ∧ Hid (N = putC t (list.drop k) o)) ∧ Below w.heap.size w wr) (fun _ i _ => list.length - (intOf i).toNat)
    case atStart => exact ⟨⟨0, o1, by omega, rfl, by omega, hO1, HN0.out⟩, hb1⟩
    case round =>
      clear HN0 hO1 hb1 hs1
      obtain ⟨⟨k, o, hk, rfl, ho, hO, HA⟩, hb⟩ := hrel
      obtain ⟨wx, hwx⟩ : ∃ wx : World, wx = wr := ⟨_, rfl⟩
      subst hwx
      obtain ⟨ao, co, hvo, hos⟩ := rd_slice_elim hO
      subst hvo
      have hsx := hb.size
      by_cases hlt : k < list.length
      · obtain ⟨g, off, a3, c3, a4, c4, hag, e0, e1, e2, e3, e4, hi0, hz1, hz2, h3, h4⟩ := (hls.keep hb).change hlt
        subst hag
        have hcb := l2 list[k] (List.getElem_mem hlt)
        have H2 := Lib.hid (fun h => put_skip HA.out hlt h)
        have HBAD := Lib.hid (fun h1 h2 => put_bad HA.out hlt h1 h2)
        have HHELD := Lib.hid (fun h1 (f : File) h2 h3 => put_held HA.out hlt h1 (f := f) h2 h3)
        have HIN := Lib.hid (fun h1 (f : File) h2 h3 => put_in HA.out hlt h1 (f := f) h2 h3)
        obtain ⟨c, hc⟩ : ∃ c, c = list[k] := ⟨_, rfl⟩
        rw [← hc] at e0 e1 e2 e3 e4 hi0 hz1 hz2 h3 h4 hcb H2 HBAD HHELD HIN
        have HKIND := Lib.hid (changeB_kind hcb)
        have HMOVE := Lib.hid (fun h => fileC_4 (t := t) (c := c) h)
        have HADD := Lib.hid (fun h => fileC_1 (t := t) (c := c) h)
        have HEDIT := Lib.hid (fun h (x : List ByteArray) hp => fileC_3 (t := t) (c := c) h (x := x) hp)
        have HEB := Lib.hid (fun h hp => fileC_3b (t := t) (c := c) h hp)
        have HPT := Lib.hid (fun h => changeB_patch (c := c) hcb h)
        have HTL := Lib.hid (fun h => changeB_text (c := c) hcb h)
        obtain ⟨f9, hf9⟩ : ∃ f9, f9 = fileC t c := ⟨_, rfl⟩
        rw [← hf9] at HBAD HHELD HIN HMOVE HADD HEDIT HEB
        clear hc
        obtain ⟨kd, hkd⟩ : ∃ kd, kd = c.kind := ⟨_, rfl⟩
        obtain ⟨p, hp⟩ : ∃ p, p = c.path := ⟨_, rfl⟩
        obtain ⟨d, hd⟩ : ∃ d, d = c.dst := ⟨_, rfl⟩
        obtain ⟨tx, htx⟩ : ∃ tx, tx = c.text := ⟨_, rfl⟩
        obtain ⟨pt, hpt⟩ : ∃ pt, pt = c.patch := ⟨_, rfl⟩
        rw [← hkd] at e0 hi0 H2 HBAD HHELD HIN HKIND HMOVE HADD HEDIT HEB HPT HTL
        rw [← hp] at e1 hz1 HADD HMOVE HEDIT HEB
        rw [← hd] at e2 hz2 HMOVE
        rw [← htx] at e3 h3 HADD HTL
        rw [← hpt] at e4 h4 HEDIT HEB HPT
        obtain ⟨wb, hwb⟩ : ∃ wb, wb = wx.alloc (.cells #[.int .i64 kd, .string p, .string d, .slice a3 tx.length c3, .slice a4 pt.length c4] 69) := ⟨_, rfl⟩
        obtain ⟨wc, hwc⟩ : ∃ wc, wc = wb.alloc (.cells #[.string p, .slice a3 tx.length c3] 58) := ⟨_, rfl⟩
        obtain ⟨hB1, hsb, hq⟩ := boxed (vs := [.int .i64 kd, .string p, .string d, .slice a3 tx.length c3, .slice a4 pt.length c4]) hwb
        have q0 := hq 0 _ rfl
        have q1 := hq 1 _ rfl
        have q2 := hq 2 _ rfl
        have q3 := hq 3 _ rfl
        have q4 := hq 4 _ rfl
        have hbx : wc.heap[wx.heap.size + 1]? = some (.cells #[.string p, .slice a3 tx.length c3] 58 (0, 0)) := by rw [hwc, hwb]; exact heap_new_at (by simp)
        have hB2 : Below wb.heap.size wb wc := by rw [hwc]; exact (Below.refl _ _).alloc (Nat.le_refl _) _
        have hBc := hB1.trans (hB2.mono hB1.size)
        have hlc : wx.heap.size + 1 < wc.heap.size := (Array.getElem?_eq_some_iff.1 hbx).1
        have q0 := keepc q0 hB2
        have q1 := keepc q1 hB2
        have q2 := keepc q2 hB2
        have q3 := keepc q3 hB2
        have q4 := keepc q4 hB2
        have hBw := hb.trans (hBc.mono hsx)
        have hoc := hos.keep hBc
        have htc := hts.keep hBw
        have h3c := h3.keep (hBc.mono hsx)
        have h4c := h4.keep (hBc.mono hsx)
        obtain ⟨G, hG⟩ : ∃ G, getT t p = G := ⟨_, rfl⟩
        have hG10 : (G.getD []).length ≤ 10 := by rw [← hG]; exact getT_ten x2 p
        rw [hG] at HMOVE HEDIT HEB
        have hotx : textB (G.getD []) = true := by rw [← hG]; exact get_text HBT.out p
        have GI := l4Get_in (S := fun b => b < w.heap.size) _ t p _ htc.rd hG
        obtain ⟨old, hold⟩ : ∃ old, G.getD [] = old := ⟨_, rfl⟩
        rw [hold] at HMOVE HEDIT HEB hG10 GI hotx
        have x0 := cell_of_row wc (wx.heap.size + 1) 0 _ _ (0, 0) hbx
        have x1' := cell_of_row wc (wx.heap.size + 1) 1 _ _ (0, 0) hbx
        simp at x0 x1'
        have HWB := Lib.hid hwb
        have HWC := Lib.hid hwc
        clear hwb hwc hkd hp hd htx hpt hq hG hold hcb HA h3 h4 hf9
        go_wp2_with fail
        rw [← HWB.out, ← HWC.out]
        refine GI.mono ?_
        rintro e w3 ⟨tv, rfl, hT, rfl⟩
        obtain ⟨av, cv, hvv, hTs⟩ := rd_slice_elim hT
        subst hvv
        clear HWB HWC GI hT e0 e1 e2 e3 e4
        by_cases k2 : kd = 2
        · have j2 := beq_t k2
          have HN := Lib.hid (H2.out k2)
          clear k2
          go_wp2
          go_roundw
          case rel => exact ⟨⟨k + 1, o, by omega, by go_num, by omega, Rep.lt hoc.rd, HN.out⟩, hBw⟩
          case measure => simp [intOf] <;> omega
        have j2 := beq_f k2
        have HB2 := Lib.hid (HBAD.out k2)
        have HH2 := Lib.hid (HHELD.out k2)
        have HI2 := Lib.hid (HIN.out k2)
        have HK2 := Lib.hid k2
        clear k2 HBAD HHELD HIN H2
        by_cases k3 : kd = 3
        · have j3 := beq_t k3
          obtain ⟨y, cc, hy⟩ : ∃ y cc, pDo old pt = (y, cc) := ⟨_, _, rfl⟩
          have hpb := HPT.out k3
          have hyy : pDoF old pt = (y, cc) := by rw [← hy]; exact (pDo_ok hotx hpb).symm
          have hpt10 := fun h => text_len10 (pDo_text (t := old) (d := pt) h).2.2
          rw [hy] at hpt10
          have HE3 := Lib.hid (HEDIT.out k3 y)
          have HE3b := Lib.hid (HEB.out k3)
          have L2 := l2Do_any _ old _ pt _ hTs.rd h4c.rd hG10 hpb
          rw [hyy] at L2
          have HY := Lib.hid hy
          clear k3 hy hyy HKIND HMOVE HADD HEDIT HEB
          go_wp2_with fail
          refine L2.mono ?_
          rintro e w4 ⟨v4, rfl, hY, hb4⟩
          have hs4 := hb4.size
          obtain ⟨a9, c9, hv9, _⟩ := hY.shape
          subst hv9
          clear L2
          cases cc with
          | false =>
            have HR := Lib.hid (changesDo_put HBT.out HBL.out HMM.out (HNN.out.trans (HB2.out (HE3b.out (by rw [HY.out])))))
            go_wp2
            go_ret2
            exact ⟨.slice none 0 0, by rw [HR.out]; rfl, by rw [HR.out]; exact Rep.lt (rd_none0 _), hBw.trans (hb4.mono hBw.size)⟩
          | true =>
            have hyl := hpt10 rfl
            have hfc := HE3.out HY.out
            have hbx4 := (hb4.block _ hlc).trans hbx
            have hx4 := heap_setCell_same w4 (wx.heap.size + 1) 1 _ _ (.slice a9 y.length c9) hbx4
            have z1 := frozen_of_row w4 (wx.heap.size + 1) 1 _ _ hbx4
            obtain ⟨w5, hw5⟩ : ∃ w5, w5 = w4.setCell ⟨wx.heap.size + 1, 1, none⟩ (.slice a9 y.length c9) := ⟨_, rfl⟩
            have hB5 : Below wx.heap.size wx w5 := by rw [hw5]; exact (hBc.trans (hb4.mono hBc.size)).setCell (by show wx.heap.size ≤ wx.heap.size + 1; omega) _
            have hY5 : rd (fun b => wc.heap.size ≤ b) w5 [.slice a9 y.length c9] y := by rw [hw5]; exact Rep.setCell hY.rd (by show ¬ wc.heap.size ≤ wx.heap.size + 1; omega)
            have z0 := frozen_of_row w4 (wx.heap.size + 1) 0 _ _ hbx4
            clear x0 x1'
            have x0 := cell_of_row w4 (wx.heap.size + 1) 0 _ _ (0, 0) hbx4
            have x1' := cell_of_row w4 (wx.heap.size + 1) 1 _ _ (0, 0) hbx4
            simp at x0 x1'
            rw [← hw5] at hx4
            have y0 := cell_of_row w5 (wx.heap.size + 1) 0 _ _ (0, 0) hx4
            have y1 := cell_of_row w5 (wx.heap.size + 1) 1 _ _ (0, 0) hx4
            simp at y0 y1
            have HW5 := Lib.hid hw5
            clear hw5 hx4 hbx4 HE3 HE3b HB2
            have hO5 := Rep.below hO (Nat.le_refl _) hB5
            have hs5 := hB5.size
            have hB9 := hb.trans (hB5.mono hsx)
            obtain ⟨H, hH⟩ : ∃ H, getT o p = H := ⟨_, rfl⟩
            have GO := l4Get_in (S := fun b => b < wx.heap.size) _ o p _ hO5 hH
            go_wp2_with fail
            rw [← HW5.out]
            refine GO.mono ?_
            rintro e w6 ⟨ov, rfl, hT6, rfl⟩
            clear GO
            cases H with
            | some h =>
              have HR := Lib.hid (changesDo_put HBT.out HBL.out HMM.out (HNN.out.trans (HH2.out ⟨p, y⟩ hfc (fun hn => by rw [hH] at hn; cases hn))))
              have es : (some h : Option (List ByteArray)).isSome = true := rfl
              rw [es]
              clear es hH hfc HH2 HI2
              go_wp2
              go_ret2
              exact ⟨.slice none 0 0, by rw [HR.out]; rfl, by rw [HR.out]; exact Rep.lt (rd_none0 _), hB9⟩
            | none =>
              have HN := Lib.hid (HI2.out ⟨p, y⟩ hfc hH)
              have es : (none : Option (List ByteArray)).isSome = false := rfl
              rw [es]
              have hl9 := set_len9 o ⟨p, y⟩
              have ST := l4Set_any _ o p _ y _ hO5 (by omega) hz1 hY5 (by omega)
              clear es hH hfc HH2 HI2
              go_wp2_with fail
              refine ST.mono ?_
              rintro e w7 ⟨v7, rfl, hO7, hb7⟩
              go_wp2
              go_roundw
              case rel => exact ⟨⟨k + 1, _, by omega, by go_num, by omega, Rep.lt hO7, HN.out⟩, hB9.trans (hb7.mono hB9.size)⟩
              case measure => simp [intOf] <;> omega
        have j3 := beq_f k3
        by_cases k4 : kd = 4
        · have j4 := beq_t k4
          have hfc := HMOVE.out k4
          clear k3 k4 HKIND HMOVE HADD HEDIT HEB HB2
          have hx4 := heap_setCell_same wc (wx.heap.size + 1) 0 _ _ (.string d) hbx
          have hx5 := heap_setCell_same (wc.setCell ⟨wx.heap.size + 1, 0, none⟩ (.string d)) (wx.heap.size + 1) 1 _ _ (.slice av old.length cv) hx4
          have z0 := frozen_of_row wc (wx.heap.size + 1) 0 _ _ hbx
          have z1 := frozen_of_row wc (wx.heap.size + 1) 1 _ _ hbx
          obtain ⟨w5, hw5⟩ : ∃ w5, w5 = (wc.setCell ⟨wx.heap.size + 1, 0, none⟩ (.string d)).setCell ⟨wx.heap.size + 1, 1, none⟩ (.slice av old.length cv) := ⟨_, rfl⟩
          have hB5 : Below wx.heap.size wx w5 := by rw [hw5]; exact (hBc.setCell (by show wx.heap.size ≤ wx.heap.size + 1; omega) _).setCell (by show wx.heap.size ≤ wx.heap.size + 1; omega) _
          have hY5 : rd (fun b => b < w.heap.size) w5 [.slice av old.length cv] old := by rw [hw5]; exact Rep.setCell (Rep.setCell hTs.rd (by show ¬ wx.heap.size + 1 < w.heap.size; omega)) (by show ¬ wx.heap.size + 1 < w.heap.size; omega)
          rw [← hw5] at hx5
          have y0 := cell_of_row w5 (wx.heap.size + 1) 0 _ _ (0, 0) hx5
          have y1 := cell_of_row w5 (wx.heap.size + 1) 1 _ _ (0, 0) hx5
          simp at y0 y1
          have HW5 := Lib.hid hw5
          clear hw5 hx4 hx5
          have hO5 := Rep.below hO (Nat.le_refl _) hB5
          have hs5 := hB5.size
          have hB9 := hb.trans (hB5.mono hsx)
          obtain ⟨H, hH⟩ : ∃ H, getT o d = H := ⟨_, rfl⟩
          have GO := l4Get_in (S := fun b => b < wx.heap.size) _ o d _ hO5 hH
          go_wp2_with fail
          rw [← HW5.out]
          refine GO.mono ?_
          rintro e w6 ⟨ov, rfl, hT6, rfl⟩
          clear GO
          cases H with
          | some h =>
            have HR := Lib.hid (changesDo_put HBT.out HBL.out HMM.out (HNN.out.trans (HH2.out ⟨d, old⟩ hfc (fun hn => by rw [hH] at hn; cases hn))))
            have es : (some h : Option (List ByteArray)).isSome = true := rfl
            rw [es]
            clear es hH hfc HH2 HI2
            go_wp2
            go_ret2
            exact ⟨.slice none 0 0, by rw [HR.out]; rfl, by rw [HR.out]; exact Rep.lt (rd_none0 _), hB9⟩
          | none =>
            have HN := Lib.hid (HI2.out ⟨d, old⟩ hfc hH)
            have es : (none : Option (List ByteArray)).isSome = false := rfl
            rw [es]
            have hl9 := set_len9 o ⟨d, old⟩
            have ST := l4Set_any _ o d _ old _ hO5 (by omega) hz2 hY5 (by omega)
            clear es hH hfc HH2 HI2
            go_wp2_with fail
            refine ST.mono ?_
            rintro e w7 ⟨v7, rfl, hO7, hb7⟩
            go_wp2
            go_roundw
            case rel => exact ⟨⟨k + 1, _, by omega, by go_num, by omega, Rep.lt hO7, HN.out⟩, hB9.trans (hb7.mono hB9.size)⟩
            case measure => simp [intOf] <;> omega
        have j4 := beq_f k4
        have k1 : kd = 1 := by rcases HKIND.out with h | h | h | h <;> first | exact h | exact absurd h HK2.out | contradiction
        have hfc := HADD.out k1
        have hyl := HTL.out k1
        have hB5 : Below wx.heap.size wx wc := hBc
        have hY5 := h3c.rd
        obtain ⟨w5, hw5⟩ : ∃ w5, w5 = wc := ⟨_, rfl⟩
        rw [← hw5] at hB5 hY5 x0 x1' q0 q1 q2 q3 q4 ⊢
        clear hw5 HK2 k1 k3 k4 HKIND HMOVE HADD HEDIT HEB HB2 HTL
        have hO5 := Rep.below hO (Nat.le_refl _) hB5
        have hs5 := hB5.size
        have hB9 := hb.trans (hB5.mono hsx)
        obtain ⟨H, hH⟩ : ∃ H, getT o p = H := ⟨_, rfl⟩
        have GO := l4Get_in (S := fun b => b < wx.heap.size) _ o p _ hO5 hH
        go_wp2_with fail
        skip
        refine GO.mono ?_
        rintro e w6 ⟨ov, rfl, hT6, rfl⟩
        clear GO
        cases H with
        | some h =>
          have HR := Lib.hid (changesDo_put HBT.out HBL.out HMM.out (HNN.out.trans (HH2.out ⟨p, tx⟩ hfc (fun hn => by rw [hH] at hn; cases hn))))
          have es : (some h : Option (List ByteArray)).isSome = true := rfl
          rw [es]
          clear es hH hfc HH2 HI2
          go_wp2
          go_ret2
          exact ⟨.slice none 0 0, by rw [HR.out]; rfl, by rw [HR.out]; exact Rep.lt (rd_none0 _), hB9⟩
        | none =>
          have HN := Lib.hid (HI2.out ⟨p, tx⟩ hfc hH)
          have es : (none : Option (List ByteArray)).isSome = false := rfl
          rw [es]
          have hl9 := set_len9 o ⟨p, tx⟩
          have ST := l4Set_any _ o p _ tx _ hO5 (by omega) hz1 hY5 (by omega)
          clear es hH hfc HH2 HI2
          go_wp2_with fail
          refine ST.mono ?_
          rintro e w7 ⟨v7, rfl, hO7, hb7⟩
          go_wp2
          go_roundw
          case rel => exact ⟨⟨k + 1, _, by omega, by go_num, by omega, Rep.lt hO7, HN.out⟩, hB9.trans (hb7.mono hB9.size)⟩
          case measure => simp [intOf] <;> omega
      · have HE := Lib.hid (put_end HA.out hlt)
        have l16 : list.length ≤ 16 := l1
        cases hT : treeB o with
        | false =>
          have HR := Lib.hid (changesDo_not HBT.out HBL.out HMM.out (HNN.out.trans HE.out) hT)
          go_wp2_with fail
          refine (l4Ok_is _ o _ hO hT).mono ?_
          rintro e w4 ⟨rfl, hb4⟩
          go_wp2
          go_ret2
          exact ⟨.slice none 0 0, by rw [HR.out]; rfl, by rw [HR.out]; exact Rep.lt (rd_none0 _), hb.trans (hb4.mono hsx)⟩
        | true =>
          have HR := Lib.hid (changesDo_yes HBT.out HBL.out HMM.out (HNN.out.trans HE.out) hT)
          go_wp2_with fail
          refine (l4Ok_is _ o _ hO hT).mono ?_
          rintro e w4 ⟨rfl, hb4⟩
          go_wp2
          go_ret2
          exact ⟨_, by rw [HR.out]; rfl, by rw [HR.out]; exact Rep.lt (Rep.below hO (Nat.le_refl _) hb4), hb.trans (hb4.mono hsx)⟩
set_option maxHeartbeats 2000000 in
theorem specChangesDo {S T : Nat → Prop} (v u : Value) (t : List File) (list : List Change) (w : World) (hv : rd S w [v] t) (hu : rd T w [u] list) :
    Calls Tryz.prog 8 #[v, u] w fun e w' => ∃ v', e = .returned (.tuple #[v', .bool (changesDo t list).2]) ∧ rd (fun b => b < w'.heap.size) w' [v'] (changesDo t list).1 ∧ Below w.heap.size w w' := by
  obtain ⟨at1, ct1, rfl, hts⟩ := rd_slice_elim (Rep.lt hv)
  obtain ⟨al1, cl1, rfl, hls⟩ := rd_slice_elim (Rep.lt hu)
  clear hv hu
  cases hb1 : treeB t with
  | false =>
    have HR := Lib.hid (changesDo_bad (list := list) (.inl hb1))
    go_enter Tryz.func8, Tryz.ntmps8
    go_wp2_with fail
    refine (l4Ok_is _ t _ hts.rd hb1).mono ?_
    rintro e w1 ⟨rfl, hbb⟩
    go_wp2
    go_ret2
    exact ⟨.slice none 0 0, by rw [HR.out]; rfl, by rw [HR.out]; exact Rep.lt (rd_none0 _), hbb⟩
  | true =>
    cases hb2 : changesB list with
    | false =>
      have HR := Lib.hid (changesDo_bad (t := t) (.inr hb2))
      go_enter Tryz.func8, Tryz.ntmps8
      go_wp2_with fail
      refine (l4Ok_is _ t _ hts.rd hb1).mono ?_
      rintro e w1 ⟨rfl, hbb⟩
      go_wp2_with fail
      refine (l5Ok_is _ list _ (hls.keep hbb).rd hb2).mono ?_
      rintro e w2 ⟨rfl, hbb2⟩
      go_wp2
      go_ret2
      exact ⟨.slice none 0 0, by rw [HR.out]; rfl, by rw [HR.out]; exact Rep.lt (rd_none0 _), hbb.trans (hbb2.mono hbb.size)⟩
    | true =>
      obtain ⟨x1, x2⟩ := tree_files hb1
      go_enter Tryz.func8, Tryz.ntmps8
      go_wp2_with fail
      refine (l4Ok_is _ t _ hts.rd hb1).mono ?_
      rintro e w1 ⟨rfl, hbb⟩
      go_wp2_with fail
      refine (l5Ok_is _ list _ (hls.keep hbb).rd hb2).mono ?_
      rintro e w2 ⟨rfl, hbb2⟩
      have hb2' := hbb.trans (hbb2.mono hbb.size)
      go_wp2_with fail
      refine (l4Copy_wide _ t _ (hts.keep hb2').rd (by omega) (fun f hf => by have := x2 f hf; omega)).mono ?_
      rintro e w3 ⟨v3, rfl, hF3, hbb3⟩
      have hb3 := hb2'.trans (hbb3.mono hb2'.size)
      obtain ⟨a3, c3, hv3, _⟩ := hF3.shape
      subst hv3
      have D5 := l5Do_any _ _ t list _ hF3.rd (hls.keep hb3).rd hb1 hb2
      go_wp2_with fail
      refine D5.mono ?_
      rintro e w4 ⟨v4, rfl, hX, hb4⟩
      go_wp2
      go_ret2
      exact ⟨_, rfl, hX, hb3.trans (hb4.mono hb3.size)⟩
end Go.Proofs.YtlaklnpdnohofaaGreatDoor
