/-
  Walks: which line of one text is which of the other.
-/
import Derived.Test.YthhmaclhggmneaaDoorWM1
set_option linter.unusedVariables false
namespace Go.Proofs.YthhmaclhggmneaaDoor
open Go.RowKit Go.Vc
open Go.Vc.Rep (rd)
open Go.Vc.Own (own)

theorem tab_shape {B m : Nat} {w : World} {v : Value} {xs ys : List ByteArray} {i j : Nat} (h : Fresh B m w [v] (tabS xs ys i j)) :
    ∃ g c, v = .slice (some ⟨g, 0, none⟩) (xs.length + 1) c ∧ IsSlice (fun b => b < w.heap.size) w (some ⟨g, 0, none⟩) c (tabS xs ys i j) := by
  obtain ⟨a, c, rfl, _⟩ := rd_slice_elim h.rd
  obtain ⟨g, rfl, _⟩ := h.addr (by rw [tabS_len]; omega)
  exact ⟨g, c, by rw [tabS_len], (rd_slice_of (Rep.lt h.rd)).2⟩

set_option maxHeartbeats 4000000 in
set_option maxRecDepth 100000 in
theorem l1Match_any {S T : Nat → Prop} (v u : Value) (xs ys : List ByteArray) (w : World) (hv : rd S w [v] xs) (hu : rd T w [u] ys) (hx : xs.length ≤ 10) (hy : ys.length ≤ 10) :
    Calls Tryd.prog 127 #[v, u] w fun e w' => ∃ v', e = .returned v' ∧ Fresh w.heap.size w'.heap.size w' [v'] (matchT xs ys) ∧ Below w.heap.size w w' := by
  obtain ⟨a, cap, rfl, hs⟩ := rd_slice_elim (Rep.lt hv)
  obtain ⟨b, cbp, rfl, ht⟩ := rd_slice_elim (Rep.lt hu)
  go_enter Tryd.func127, Tryd.ntmps127
  go_wp2_with fail
  refine (l1Table_any _ _ xs ys _ hs.rd ht.rd hx hy).mono ?_
  rintro e wt ⟨v1, rfl, hT, hb1⟩
  obtain ⟨gt0, ct0, rfl, hT2⟩ := tab_shape hT
  have hsz1 := hb1.size
  go_wp2
  go_loopw [6, 7, 8] (fun out j i wr => (∃ (I J : Nat) (ol : List Int) (ao : Option Addr) (co : Nat), I ≤ xs.length ∧ J ≤ ys.length ∧ i = .int .i64 I ∧ j = .int .i64 J ∧ out = .slice ao ol.length co ∧ Fresh wt.heap.size wr.heap.size wr [.slice ao ol.length co] ol ∧ ol.length ≤ I ∧ Hid (matchT xs ys = ol ++ mt ys (xs.drop I) J)) ∧ Below wt.heap.size wt wr) (fun _ j i _ => (xs.length - (intOf i).toNat) + (ys.length - (intOf j).toNat))
  case atStart => exact ⟨⟨0, 0, [], some ⟨wt.heap.size, 0, none⟩, 0, by omega, by omega, rfl, rfl, rfl, (Fresh.empty (by decide) _ _ (Nat.le_refl _)).now, by simp, rfl⟩, (Below.refl _ _).alloc (Nat.le_refl _) _⟩
  case round =>
    obtain ⟨⟨I, J, ol, ao, co, hI, hJ, rfl, rfl, rfl, hF, hol, HM⟩, hbr⟩ := hrel
    obtain ⟨wo, rfl⟩ : ∃ wo : World, wo = wr := ⟨_, rfl⟩
    have hszr := hbr.size
    by_cases hi : I < xs.length
    · by_cases hj : J < ys.length
      · have hd2 : decide (J < ys.length) = true := decide_eq_true hj
        have hd3 : decide (ys.length ≤ J) = false := decide_eq_false (by omega)
        have hb := hb1.trans (hbr.mono hsz1)
        obtain ⟨g, off, rfl, hc, _⟩ := (hs.keep hb).str hi
        obtain ⟨g', off', rfl, hc', _⟩ := (ht.keep hb).str hj
        have hc := BW.cell hc
        have hc' := BW.cell hc'
        by_cases he : xs[I] = ys[J]
        · have he2 : decide (xs[I] = ys[J]) = true := decide_eq_true he
          have HE := Lib.hid (mtS_next HM.out hi hj he)
          clear he
          go_wp2
          refine wp_region_bw (by kernel_rfl) (by kernel_rfl) ?_
          repeat (go_big_quiet_step (fail))
          refine wpQuiet_nil ?_
          rintro w1 ⟨⟨_, hbw⟩, rfl⟩
          have hF1 := hF.below (Nat.le_refl _) hbw
          have hb2 := hbr.trans (hbw.mono hbr.size)
          have hsz2 := hb2.size
          clear hbw hc hc' hd2 he2 hd3
          obtain ⟨wo, rfl⟩ : ∃ wo : World, wo = w1 := ⟨_, rfl⟩
          go_wp2_with (at_builtin; go_must (refine wpList_app_one slz_int.slt rfl (.tmp 35) (.tmp 37) rfl rfl (hF1.alloc _) (le_alloc hsz2 _) rfl (heap_alloc_new _ _) (Fresh.leaf (α := Int) (m := wo.heap.size) (own_intm (J : Int) (by unfold I64; omega) _)) hszr (by omega) (by unfold maxLen; omega) ?_); intro a5 c5 w5 hG5)
          have hG := hG5.fresh
          go_roundw
          case rel => exact ⟨⟨I + 1, J + 1, ol ++ [(J : Int)], a5, c5, by omega, by omega, by go_num, by go_num, by simp, by rw [List.length_append]; exact hG, by simp <;> omega, HE.out⟩, (hb2.alloc hsz2 _).trans hG5.below⟩
          case measure => simp [intOf]; omega
        · have he2 : decide (xs[I] = ys[J]) = false := decide_eq_false he
          have hTr := hT2.keep hbr
          obtain ⟨b0, n0, hq0, hr0⟩ := tab_row hTr (r := I) (by omega)
          obtain ⟨b1, n1, hq1, hr1⟩ := tab_row hTr (r := I + 1) (by omega)
          obtain ⟨g1, o1, rfl, hp1⟩ := row_int hr1 (c := J) (by omega) (.inl (by omega))
          obtain ⟨g0, o0, rfl, hp0⟩ := row_int hr0 (c := J + 1) (by omega) (.inl (by omega))
          have e1 : IntKind.i64.wrap ((I : Int) + 1) = (I : Int) + 1 := IntWalk.i64_in _ (by omega)
          have e2 : IntKind.i64.wrap ((J : Int) + 1) = (J : Int) + 1 := IntWalk.i64_in _ (by omega)
          by_cases hz : lcAt xs ys I (J + 1) ≤ lcAt xs ys (I + 1) J
          · have HE := Lib.hid (mtS_skip HM.out hi hj he hz)
            have hzd : decide (lcAt xs ys I (J + 1) ≤ lcAt xs ys (I + 1) J) = true := decide_eq_true hz
            generalize lcAt xs ys (I + 1) J = z1 at hp1 hzd
            generalize lcAt xs ys I (J + 1) = z0 at hp0 hzd
            clear hz he
            go_wp2
            refine wp_region_bw (by kernel_rfl) (by kernel_rfl) ?_
            repeat (go_big_quiet_step (fail))
            refine wpQuiet_nil ?_
            rintro w1 ⟨⟨_, hbw⟩, rfl⟩
            have hF1 := hF.below (Nat.le_refl _) hbw
            have hb2 := hbr.trans (hbw.mono hbr.size)
            have hsz2 := hb2.size
            have hbw' := hbw
            clear hbw hc hc' he2 hd2
            have hq0 := BW.cell (keepc hq0 hbw')
            have hq1 := BW.cell (keepc hq1 hbw')
            have hp0 := BW.cell (keepc hp0 hbw')
            have hp1 := BW.cell (keepc hp1 hbw')
            obtain ⟨wo, rfl⟩ : ∃ wo : World, wo = w1 := ⟨_, rfl⟩
            go_wp2
            refine wp_region_bw (by kernel_rfl) (by kernel_rfl) ?_
            repeat (go_big_quiet_step (fail))
            refine wpQuiet_nil ?_
            rintro w1 ⟨⟨_, hbw⟩, rfl⟩
            have hF1 := hF1.below (Nat.le_refl _) hbw
            have hb2 := hb2.trans (hbw.mono hb2.size)
            have hsz2 := hb2.size
            clear hbw hq0 hq1 hp0 hp1 hzd e1 e2 hd3
            obtain ⟨wo, rfl⟩ : ∃ wo : World, wo = w1 := ⟨_, rfl⟩
            go_wp2_with (at_builtin; go_must (refine wpList_app_one slz_int.slt rfl (.tmp 67) (.tmp 68) rfl rfl (hF1.alloc _) (le_alloc hsz2 _) rfl (heap_alloc_new _ _) (Fresh.leaf (α := Int) (m := wo.heap.size) (own_intm (-1 : Int) (by unfold I64; omega) _)) hszr (by omega) (by unfold maxLen; omega) ?_); intro a5 c5 w5 hG5)
            have hG := hG5.fresh
            go_roundw
            case rel => exact ⟨⟨I + 1, J, ol ++ [(-1 : Int)], a5, c5, by omega, by omega, by go_num, by go_num, by simp, by rw [List.length_append]; exact hG, by simp <;> omega, HE.out⟩, (hb2.alloc hsz2 _).trans hG5.below⟩
            case measure => simp [intOf]; omega
          · have HE := Lib.hid (mtS_over HM.out hi hj he hz)
            have hzd : decide (lcAt xs ys I (J + 1) ≤ lcAt xs ys (I + 1) J) = false := decide_eq_false hz
            generalize lcAt xs ys (I + 1) J = z1 at hp1 hzd
            generalize lcAt xs ys I (J + 1) = z0 at hp0 hzd
            clear hz he
            go_wp2
            refine wp_region_bw (by kernel_rfl) (by kernel_rfl) ?_
            repeat (go_big_quiet_step (fail))
            refine wpQuiet_nil ?_
            rintro w1 ⟨⟨_, hbw⟩, rfl⟩
            have hF1 := hF.below (Nat.le_refl _) hbw
            have hb2 := hbr.trans (hbw.mono hbr.size)
            have hsz2 := hb2.size
            have hbw' := hbw
            clear hbw hc hc' he2 hd2
            have hq0 := BW.cell (keepc hq0 hbw')
            have hq1 := BW.cell (keepc hq1 hbw')
            have hp0 := BW.cell (keepc hp0 hbw')
            have hp1 := BW.cell (keepc hp1 hbw')
            obtain ⟨wo, rfl⟩ : ∃ wo : World, wo = w1 := ⟨_, rfl⟩
            go_wp2
            refine wp_region_bw (by kernel_rfl) (by kernel_rfl) ?_
            repeat (go_big_quiet_step (fail))
            refine wpQuiet_nil ?_
            rintro w1 ⟨⟨_, hbw⟩, rfl⟩
            have hF1 := (hF1.below (Nat.le_refl _) hbw).now
            have hb2 := hb2.trans (hbw.mono hb2.size)
            clear hbw hq0 hq1 hp0 hp1 hzd e1 e2 hd3
            go_wp2
            go_roundw
            case rel => exact ⟨⟨I, J + 1, ol, ao, co, by omega, by omega, rfl, by go_num, rfl, hF1, by omega, HE.out⟩, hb2⟩
            case measure => simp [intOf]; omega
      · have hd2 : decide (J < ys.length) = false := decide_eq_false hj
        have hd3 : decide (ys.length ≤ J) = true := decide_eq_true (by omega)
        have HE := Lib.hid (mtS_end HM.out hi hj)
        go_wp2
        refine wp_region_bw (by kernel_rfl) (by kernel_rfl) ?_
        repeat (go_big_quiet_step (fail))
        refine wpQuiet_nil ?_
        rintro w1 ⟨⟨_, hbw⟩, rfl⟩
        have hF1 := hF.below (Nat.le_refl _) hbw
        have hb2 := hbr.trans (hbw.mono hbr.size)
        have hsz2 := hb2.size
        clear hbw hd2
        obtain ⟨wo, rfl⟩ : ∃ wo : World, wo = w1 := ⟨_, rfl⟩
        go_wp2
        refine wp_region_bw (by kernel_rfl) (by kernel_rfl) ?_
        repeat (go_big_quiet_step (fail))
        refine wpQuiet_nil ?_
        rintro w1 ⟨⟨_, hbw⟩, rfl⟩
        have hF1 := hF1.below (Nat.le_refl _) hbw
        have hb2 := hb2.trans (hbw.mono hb2.size)
        have hsz2 := hb2.size
        clear hbw hd3
        obtain ⟨wo, rfl⟩ : ∃ wo : World, wo = w1 := ⟨_, rfl⟩
        go_wp2_with (at_builtin; go_must (refine wpList_app_one slz_int.slt rfl (.tmp 67) (.tmp 68) rfl rfl (hF1.alloc _) (le_alloc hsz2 _) rfl (heap_alloc_new _ _) (Fresh.leaf (α := Int) (m := wo.heap.size) (own_intm (-1 : Int) (by unfold I64; omega) _)) hszr (by omega) (by unfold maxLen; omega) ?_); intro a5 c5 w5 hG5)
        have hG := hG5.fresh
        go_roundw
        case rel => exact ⟨⟨I + 1, J, ol ++ [(-1 : Int)], a5, c5, by omega, by omega, by go_num, by go_num, by simp, by rw [List.length_append]; exact hG, by simp <;> omega, HE.out⟩, (hb2.alloc hsz2 _).trans hG5.below⟩
        case measure => simp [intOf]; omega
    · have HE := Lib.hid (mtS_out HM.out hi)
      go_wp2
      go_ret
      exact ⟨_, rfl, by rw [HE.out]; exact hF.mono hsz1 (Nat.le_refl _), hb1.trans (hbr.mono hsz1)⟩
end Go.Proofs.YthhmaclhggmneaaDoor
