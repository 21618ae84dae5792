/-
  Walks: a pack of texts, as the program makes it.
-/
import Derived.Test.YtjfhbepnomnalaaPk5
import Derived.Test.YtjfhbepnomnalaaBox
set_option linter.unusedVariables false
namespace Go.Proofs.Ytjfhbepnomnalaa
open Go.RowKit Go.Vc
open Go.Vc.Rep (rd)
open Go.Vc.Own (own)

theorem slt_packed : SlT Try.prog 50 Packed 32 := slz_packed.slt
theorem textOk_is' {S : Nat → Prop} (v : Value) (xs : List ByteArray) (w : World) (hv : rd S w [v] xs) {b : Bool} (h : textB xs = b) :
    Calls Try.prog 33 #[v] w fun e w' => e = .returned (.bool b) ∧ w = w' :=
  (textOk_any v xs w hv).mono fun e w' h' => by rw [← h]; exact h'
theorem packOf_long {l : List (List ByteArray)} (h : 12 < l.length) : packOf l = [] := by rw [packOf, if_pos h]
theorem packOf_bad {l : List (List ByteArray)} (h : l.all textB = false) : packOf l = [] := by
  rw [packOf]
  split
  · rfl
  · rw [if_neg (by rw [h]; simp)]
theorem packOf_ok {l : List (List ByteArray)} (h : ¬ 12 < l.length) (ht : l.all textB = true) : packOf l = packF (l.drop 0) (l.take 0) [] [] := by rw [packOf, if_neg h, if_pos ht]; rfl
theorem sizeD_of {b t : List ByteArray} (hb : textB b = true) (ht : textB t = true) : sizeD (deltaOf b t) ≤ 110 := sizeD_le (deltaOf_ok hb ht)
/-- what a boxed Packed holds, cell by cell -/
theorem box_packed {w : World} {B m b : Nat} {p : Packed} (h : Fresh B m w [.pointer (some ⟨b, 0, none⟩)] (⟨p⟩ : Box Packed)) :
    ∃ a c, w.cell? ⟨b, 0, none⟩ = some (.int .i64 p.base) ∧ w.cell? ⟨b, 1, none⟩ = some (.slice a p.pcs.length c) ∧ w.frozen? ⟨b, 0, none⟩ = false ∧ w.frozen? ⟨b, 1, none⟩ = false ∧ B ≤ b ∧ b < m ∧
      IsSlice (fun k => B ≤ k ∧ k < m) w a c p.pcs ∧ I64 p.base ∧ Fresh B m w [.int .i64 p.base, .slice a p.pcs.length c] p := by
  obtain ⟨cs, e, hh, hx, h1, h2⟩ := h.unbox
  obtain ⟨a, c, rfl, h3, h4⟩ := rd_packed hx.rd2
  refine ⟨a, c, ?_, ?_, frozen_of_row _ _ _ _ _ hh, frozen_of_row _ _ _ _ _ hh, h1, h2, h4, h3, hx⟩
  · rw [cell_of_row w b 0 _ e (0, 0) hh]; rfl
  · rw [cell_of_row w b 1 _ e (0, 0) hh]; rfl

set_option maxHeartbeats 8000000 in
set_option maxRecDepth 100000 in
theorem implPackOf {S : Nat → Prop} (v : Value) (xs : List (List ByteArray)) (w : World) (hv : rd S w [v] xs) :
    Calls Try.prog 50 #[v] w fun e w' => ∃ v', e = .returned v' ∧ Fresh w.heap.size w'.heap.size w' [v'] (packOf xs) ∧ Below w.heap.size w w' := by
  obtain ⟨a, cap, rfl, hs⟩ := rd_slice_elim (Rep.lt hv)
  have hle := hs.le
  by_cases h12 : 12 < xs.length
  · have HN := Lib.hid (packOf_long h12)
    go_enter Try.func50, Try.ntmps50
    go_wp2
    go_ret
    exact ⟨.slice none 0 0, rfl, by rw [HN.out]; exact Fresh.nil _ _ _ (by decide), Below.refl _ _⟩
  · have H12 := Lib.hid h12
    go_enter Try.func50, Try.ntmps50
    go_wp2
    go_loop [19] (fun i => ∃ k : Nat, k ≤ xs.length ∧ i = .int .i64 k ∧ Hid (xs.all textB = (xs.drop k).all textB)) (fun i => xs.length - (intOf i).toNat)
    case atStart => exact ⟨0, by omega, rfl, rfl⟩
    case round =>
      obtain ⟨k, hk, rfl, HA⟩ := hrel
      by_cases hlt : k < xs.length
      · obtain ⟨g, off, b, n, rfl, hc, hl⟩ := slice_text hs hlt
        cases ht : textB xs[k] with
        | false =>
          have HN := Lib.hid (packOf_bad (all_bad HA.out hlt ht))
          go_wp2_with fail
          refine (textOk_is' _ _ _ hl.rd ht).mono ?_
          rintro e w1 ⟨rfl, rfl⟩
          go_wp2
          go_ret
          exact ⟨.slice none 0 0, rfl, by rw [HN.out]; exact Fresh.nil _ _ _ (by decide), Below.refl _ _⟩
        | true =>
          have HN := Lib.hid (all_next HA.out hlt ht)
          go_wp2_with fail
          refine (textOk_is' _ _ _ hl.rd ht).mono ?_
          rintro e w1 ⟨rfl, rfl⟩
          go_wp2
          go_round
          case rel => exact ⟨k + 1, by omega, by go_num, HN.out⟩
          case measure => simp [intOf]; omega
      · have hall := all_end HA.out hlt
        have HT := Lib.hid (texts_at hall)
        have HP := Lib.hid (packOf_ok H12.out hall)
        clear hall
        go_wp2
        clear hlt hk HA
        go_loopw [5, 6, 29] (fun t d i wr => (∃ (k : Nat) (ol : List Packed) (dl : List Int), k ≤ xs.length ∧ i = .int .i64 k ∧ Fresh w.heap.size wr.heap.size wr [t, d] (ol, dl) ∧ Hid (PkI xs k ol dl) ∧ Hid (packOf xs = packF (xs.drop k) (xs.take k) ol dl)) ∧ Below w.heap.size w wr) (fun _ _ i _ => xs.length - (intOf i).toNat)
        case atStart => exact ⟨⟨0, [], [], by omega, rfl, Fresh.pair_nil _ _ _ (by decide) (by decide), Lib.hid (pkI_start xs), HP⟩, Below.refl _ _⟩
        case round =>
          obtain ⟨⟨k, ol, dl, hk, rfl, hF, HI, HA⟩, hb⟩ := hrel
          have hI := HI.out
          have hol := hI.1
          have hdl := hI.2.1
          clear hI
          have hsz := hb.size
          obtain ⟨at0, ct0, hv5, _⟩ := hF.fst.shape
          obtain ⟨ad0, cd0, hv6, _⟩ := hF.snd.shape
          rw [hol] at hv5
          rw [hdl] at hv6
          subst hv5 hv6
          have hFk := hF
          clear hF
          by_cases hlt : k < xs.length
          · have hx12 : xs.length ≤ 12 := by omega
            obtain ⟨g, off, b, n, rfl, hc, hl⟩ := slice_text (hs.keep hb) hlt
            have HTK := Lib.hid (show textB xs[k] = true by have := HT.out k hlt; rw [getD_at hlt] at this; exact this)
            have htl := textB_len HTK.out
            go_wp2_with fail
            refine (delta_any _ _ [] xs[k] _ (rd_slice_nil (fun _ => False) _) hl.rd (by simp) htl).mono ?_
            rintro e wA ⟨v1, rfl, hD0, hb1⟩
            obtain ⟨a1, c1, rfl, _⟩ := hD0.shape
            have hF1 := hFk.below (Nat.le_refl _) hb1
            have hbb1 := hb.trans (hb1.mono hsz)
            have hsz1 := hb1.size
            have hP0 : Fresh wr.heap.size (wA.heap.size + 1) (wA.alloc (.cells #[.int .i64 (-1), .slice a1 (deltaOf [] xs[k]).length c1] 58)) [.pointer (some ⟨wA.heap.size, 0, none⟩)] (⟨(best0 xs[k]).1⟩ : Box Packed) :=
              Fresh.box (cs := [.int .i64 (-1), .slice a1 (deltaOf [] xs[k]).length c1]) (hD0.mono (Nat.le_refl _) (Nat.le_refl _) |> fun h => Fresh.packed (p := (best0 xs[k]).1) (by unfold I64 best0; simp) h) hsz1
            have hF2 := hF1.alloc (.cells #[.int .i64 (-1), .slice a1 (deltaOf [] xs[k]).length c1] 58)
            have hb2 := hbb1.alloc (by omega) (.cells #[.int .i64 (-1), .slice a1 (deltaOf [] xs[k]).length c1] 58)
            have hct := run_cut0 slz_texts.slt (some ⟨g, off, none⟩) xs.length cap k (by have := hs.1; omega)
            have HB0 := Lib.hid (bestI_start xs[k] (xs.take k) dl)
            obtain ⟨wb, hwb⟩ : ∃ wb : World, wb = wr := ⟨_, rfl⟩
            subst hwb
            go_wp2
            clear hct
            go_loopw [10, 41] (fun d i wr => (∃ (j : Nat) (c : Packed × Int), j ≤ k ∧ i = .int .i64 j ∧ d = .int .i64 c.2 ∧ 1 ≤ c.2 ∧ c.2 ≤ 3 ∧ Fresh wb.heap.size wr.heap.size wr [.pointer (some ⟨wA.heap.size, 0, none⟩)] (⟨c.1⟩ : Box Packed) ∧
                Hid (BestI xs[k] (xs.take k) dl c) ∧ Hid (bestL xs[k] (xs.take k) dl 0 (best0 xs[k]) = bestL xs[k] ((xs.take k).drop j) (dl.drop j) j c)) ∧
                Fresh w.heap.size wb.heap.size wr [.slice at0 k ct0, .slice ad0 k cd0] (ol, dl) ∧ Below w.heap.size w wr ∧ wA.heap.size < wr.heap.size) (fun _ i _ => k - (intOf i).toNat)
            case atStart => exact ⟨⟨0, best0 xs[k], by omega, rfl, rfl, by simp [best0], by simp [best0], by have := hP0; simpa using this, HB0, by show _ = _; simp⟩, hF2, hb2, by simp⟩
            case round =>
              clear hP0 hF1 hF2 hb2 hbb1 HB0
              obtain ⟨⟨j, c, hj, rfl, rfl, hc1, hc3, hP, HB, HL⟩, hF, hbz, hszz⟩ := hrel
              obtain ⟨wo, rfl⟩ : ∃ wo : World, wo = wr := ⟨_, rfl⟩
              have hjx : j < xs.length ∨ ¬ j < k := by omega
              have hl' : IsSlice (fun b => b < w.heap.size) wo b n xs[k] := hl.frame fun b hbl _ => ⟨by rw [hbz.block b hbl, ← hb.block b hbl], hbl⟩
              by_cases hjk : j < k
              · have hjx : j < xs.length := by omega
                have hjt : j < (xs.take k).length := by simp; omega
                have hjd : j < dl.length := by omega
                obtain ⟨g2, off2, b2, n2, hg2, hcj, hlj⟩ := slice_text (hs.keep hbz) hjx
                obtain ⟨rfl, rfl⟩ : g = g2 ∧ off = off2 := by simpa using hg2
                obtain ⟨gd, od, hgd, hd0, hdi⟩ := ((rd_slice_of hF.snd.rd2).2).int (i := j) (by omega)
                subst hgd
                have HX := Lib.hid (show (xs.take k)[j] = xs[j] from List.getElem_take)
                have HTJ := Lib.hid (show textB xs[j] = true by have := HT.out j hjx; rw [getD_at hjx] at this; exact this)
                have htj := textB_len HTJ.out
                clear hg2
                by_cases hz : 3 ≤ dl[j]
                · have hzd : decide (3 ≤ dl[j]) = true := decide_eq_true hz
                  have HN := Lib.hid (bestL_skip HL.out hjt hjd (by intro h; omega))
                  go_wp2
                  go_roundw
                  case rel => exact ⟨⟨j + 1, c, by omega, by go_num, rfl, hc1, hc3, hP, HB, HN⟩, hF, hbz, hszz⟩
                  case measure => simp [intOf]; omega
                · have hzd : decide (3 ≤ dl[j]) = false := decide_eq_false hz
                  go_wp2_with fail
                  refine (delta_any _ _ xs[j] xs[k] _ hlj.rd hl'.rd htj htl).mono ?_
                  rintro e w2 ⟨v2, rfl, hD, hb2⟩
                  obtain ⟨aD, cD, rfl, hlD⟩ := hD.shape
                  have hP2 := hP.below (Nat.le_refl _) hb2
                  have hF2 := hF.below (Nat.le_refl _) hb2
                  have hbz2 := hbz.trans (hb2.mono hbz.size)
                  have hs1 := sizeD_of HTJ.out HTK.out
                  have hs2 : sizeD c.1.pcs ≤ 110 := Nat.le_trans HB.out.1 (sizeD_of rfl HTK.out)
                  have hd2 := keepc hd0 hb2
                  obtain ⟨ab, cb, hq0, hq1, hf0, hf1, hbx1, hbx2, hlb, hib, hPb⟩ := box_packed hP2
                  have q1 := BW.cell hq1
                  have hs1' : sizeD (deltaOf xs[j] xs[k]) ≤ 1048576 := by omega
                  have hs2' : sizeD c.1.pcs ≤ 1048576 := by omega
                  by_cases hlt2 : sizeD (deltaOf xs[j] xs[k]) < sizeD c.1.pcs
                  · have hld : decide (sizeD (deltaOf xs[j] xs[k]) < sizeD c.1.pcs) = true := decide_eq_true hlt2
                    have HN := Lib.hid (bestL_take HL.out hjt hjd (by rw [HX.out]; exact ⟨by omega, hlt2⟩))
                    have HI2 := Lib.hid (bestI_take HB.out hjt hjd (by rw [HX.out]; exact ⟨by omega, hlt2⟩))
                    go_wp2
                    refine wp_region_bw (by kernel_rfl) (by kernel_rfl) ?_
                    repeat (go_big_quiet_step ((go_at_call 83; (first | exact Calls.bw (sizeOf_is _ _ _ (hlb.bw _).rd hs2') | exact Calls.bw (sizeOf_is _ _ _ (hlD.bw _).rd hs1')))))
                    refine wpQuiet_nil ?_
                    rintro w1 ⟨⟨_, hbw⟩, rfl⟩
                    have hP3 := hP2.below (Nat.le_refl _) hbw
                    have hF3 := hF2.below (Nat.le_refl _) hbw
                    have hD3 := hD.below (Nat.le_refl _) hbw
                    have hbz3 := hbz2.trans (hbw.mono hbz2.size)
                    have hz3 := hbw.size
                    have hz2 := hb2.size
                    have hd3 := keepc hd2 hbw
                    obtain ⟨gd', hgd', _, hgl⟩ := hF.snd.addr (by omega)
                    obtain ⟨rfl, rfl⟩ : gd = gd' ∧ od = 0 := by simpa using hgd'
                    rw [Nat.zero_add] at hd3
                    have hd4 : (w1.setCell ⟨wA.heap.size, 0, none⟩ (.int .i64 j)).cell? ⟨gd, j, none⟩ = some (.int .i64 dl[j]) := by
                      rw [← hd3]; exact World.cell?_of_block (Below.heap_setCell _ _ _ _ (by simp only; omega))
                    have hd5 : ((w1.setCell ⟨wA.heap.size, 0, none⟩ (.int .i64 j)).setCell ⟨wA.heap.size, 1, none⟩ (.slice aD (deltaOf xs[j] xs[k]).length cD)).cell? ⟨gd, j, none⟩ = some (.int .i64 dl[j]) := by
                      rw [← hd4]; exact World.cell?_of_block (Below.heap_setCell _ _ _ _ (by simp only; omega))
                    clear q1 hq0 hq1 hf0 hf1 hlb hgd' hd2 hd0
                    obtain ⟨ab3, cb3, hq0, hq1, hf0, hf1, _, _, _, _, _⟩ := box_packed hP3
                    have e1 : IntKind.i64.wrap (dl[j] + 1) = dl[j] + 1 := IntWalk.i64_in _ (by unfold I64 at hdi; omega)
                    have hNP : Fresh wo.heap.size w2.heap.size w1 [.int .i64 j, .slice aD (deltaOf xs[j] xs[k]).length cD] (⟨j, deltaOf xs[j] xs[k]⟩ : Packed) := Fresh.packed (p := ⟨j, deltaOf xs[j] xs[k]⟩) (by unfold I64; simp only; omega) hD3
                    have HI' : Hid (BestI xs[k] (xs.take k) dl (⟨j, deltaOf xs[j] xs[k]⟩, dl[j] + 1)) := by have := HI2.out; rw [HX.out] at this; exact Lib.hid this
                    have HN' : Hid (bestL xs[k] (xs.take k) dl 0 (best0 xs[k]) = bestL xs[k] ((xs.take k).drop (j + 1)) (dl.drop (j + 1)) (j + 1) (⟨j, deltaOf xs[j] xs[k]⟩, dl[j] + 1)) := by have := HN.out; rw [HX.out] at this; exact Lib.hid this
                    have hset := hP3.setbox hNP (by have := hF.fst; omega)
                    have hset' : Fresh wb.heap.size ((w1.setCell ⟨wA.heap.size, 0, none⟩ (.int .i64 j)).setCell ⟨wA.heap.size, 1, none⟩ (.slice aD (deltaOf xs[j] xs[k]).length cD)).heap.size ((w1.setCell ⟨wA.heap.size, 0, none⟩ (.int .i64 j)).setCell ⟨wA.heap.size, 1, none⟩ (.slice aD (deltaOf xs[j] xs[k]).length cD)) [.pointer (some ⟨wA.heap.size, 0, none⟩)] (⟨⟨j, deltaOf xs[j] xs[k]⟩⟩ : Box Packed) := Fresh.now hset
                    have hdn : 0 ≤ dl[j] := by
                      have := (HI.out.2.2.2.2.1 j hjk).1
                      rw [getD_at hjd] at this
                      omega
                    clear hset
                    go_wp2
                    go_region_law (fail)
                    all_goals
                      go_wp2
                      go_roundw
                      case rel => exact ⟨⟨j + 1, (⟨j, deltaOf xs[j] xs[k]⟩, dl[j] + 1), by omega, by go_num, rfl, by show 1 ≤ dl[j] + 1; omega, by show dl[j] + 1 ≤ 3; omega, Fresh.drew hset', HI', HN'⟩, ((hF3.setCell (.inr (by show wb.heap.size ≤ wA.heap.size; omega))).setCell (.inr (by show wb.heap.size ≤ wA.heap.size; omega))).drew, ((hbz3.setCell (by show w.heap.size ≤ wA.heap.size; omega) _).setCell (by show w.heap.size ≤ wA.heap.size; omega) _).drew, by show wA.heap.size < (World.heap _).size; simp; omega⟩
                      case measure => simp [intOf]; omega
                  · have hld : decide (sizeD (deltaOf xs[j] xs[k]) < sizeD c.1.pcs) = false := decide_eq_false hlt2
                    have HN := Lib.hid (bestL_skip HL.out hjt hjd (by rw [HX.out]; intro h; omega))
                    go_wp2
                    refine wp_region_bw (by kernel_rfl) (by kernel_rfl) ?_
                    repeat (go_big_quiet_step ((go_at_call 83; (first | exact Calls.bw (sizeOf_is _ _ _ (hlb.bw _).rd hs2') | exact Calls.bw (sizeOf_is _ _ _ (hlD.bw _).rd hs1')))))
                    refine wpQuiet_nil ?_
                    rintro w1 ⟨⟨_, hbw⟩, rfl⟩
                    have hP3 := hP2.below (Nat.le_refl _) hbw
                    have hF3 := hF2.below (Nat.le_refl _) hbw
                    have hbz3 := hbz2.trans (hbw.mono hbz2.size)
                    have hz3 := hbw.size
                    have hz2 := hb2.size
                    go_wp2
                    go_roundw
                    case rel => exact ⟨⟨j + 1, c, by omega, by go_num, rfl, hc1, hc3, hP3.mono (Nat.le_refl _) (by omega), HB, HN⟩, hF3, hbz3, by omega⟩
                    case measure => simp [intOf]; omega
              · have HE := Lib.hid (bestL_end HL.out (by simp; omega))
                obtain ⟨ab, cb, hq0, hq1, hf0, hf1, hbx1, hbx2, hlb, hib, hPb⟩ := box_packed hP
                have hszo := hbz.size
                have hic : I64 c.2 := by unfold I64; omega
                have hby1 : (ol.length + 1) * 32 ≤ 140737488355328 := by omega
                have hmx1 : ol.length + 1 ≤ maxLen := by unfold maxLen; omega
                have hby2 : (dl.length + 1) * 8 ≤ 140737488355328 := by omega
                have hmx2 : dl.length + 1 ≤ maxLen := by unfold maxLen; omega
                go_wp2_with (first
                  | (at_builtin; (refine wpList_app_fst slz_packed.slt rfl (.tmp 69) (.tmp 71) rfl rfl (hF.alloc _) (le_alloc hszo _) rfl (heap_alloc_new _ _) (hPb.alloc _) hsz hby1 hmx1 ?_); intro a5 c5 w5 hG5; have hsz5 := hG5.below.size; have hP5 := hG5.fresh; rw [hol] at hP5; have hb5 := (hbz.alloc hszo (.cells #[.int .i64 c.1.base, .slice ab c.1.pcs.length cb] 58)).trans hG5.below)
                  | (at_builtin; go_must (refine wpList_app_snd slz_int.slt rfl (.tmp 73) (.tmp 75) rfl rfl (hP5.alloc _) (le_alloc hb5.size _) rfl (heap_alloc_new _ _) (Fresh.leaf (α := Int) (m := w5.heap.size + 1) ⟨rfl, rfl, hic⟩) hb5.size hby2 hmx2 ?_); intro a6 c6 w6 hG6))
                go_roundw
                case rel =>
                  refine ⟨⟨k + 1, ol ++ [c.1], dl ++ [c.2], by omega, by go_num, ?_, Lib.hid (pkI_next HI.out hlt (fun i hi => HT.out i (by omega)) HB.out), packF_next HA.out hlt HE.out⟩, (hb5.alloc hb5.size _).trans hG6.below⟩
                  have := hG6.fresh
                  simp only [hdl] at this
                  exact this
                case measure => simp [intOf]; omega
          · have HE := Lib.hid (packF_end HA.out hlt)
            go_wp2
            go_ret
            exact ⟨_, rfl, by rw [HE.out]; exact hFk.fst, hb⟩
end Go.Proofs.Ytjfhbepnomnalaa
