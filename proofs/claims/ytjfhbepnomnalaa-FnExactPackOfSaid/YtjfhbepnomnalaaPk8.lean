/-
  Walks: a pack of texts, as the reference makes it.
-/
import Derived.Test.YtjfhbepnomnalaaPk7
set_option linter.unusedVariables false
namespace Go.Proofs.Ytjfhbepnomnalaa
open Go.RowKit Go.Vc
open Go.Vc.Rep (rd)
open Go.Vc.Own (own)

theorem l1Ok_is {S : Nat → Prop} (v : Value) (xs : List ByteArray) (w : World) (hv : rd S w [v] xs) {b : Bool} (h : textB xs = b) :
    Calls Try.prog 62 #[v] w fun e w' => e = .returned (.bool b) ∧ w = w' :=
  (l1Ok_any v xs w hv).mono fun e w' h' => by rw [← h]; exact h'
theorem pkI_forms {l : List (List ByteArray)} {k : Nat} {out : List Packed} {ds : List Int} (h : PkI l k out ds) : ∀ j, PForm out j := fun j => by
  by_cases e : j < k
  · exact h.2.2.1 j e
  · intro hj
    have := h.1
    omega

set_option maxHeartbeats 8000000 in
set_option maxRecDepth 100000 in
theorem specPackOf {S : Nat → Prop} (v : Value) (xs : List (List ByteArray)) (w : World) (hv : rd S w [v] xs) :
    Calls Try.prog 48 #[v] w fun e w' => ∃ v', e = .returned v' ∧ Fresh w.heap.size w'.heap.size w' [v'] (packOf xs) ∧ Below w.heap.size w w' := by
  obtain ⟨a, cap, rfl, hs⟩ := rd_slice_elim (Rep.lt hv)
  have hle := hs.le
  by_cases h12 : 12 < xs.length
  · have HN := Lib.hid (packOf_long h12)
    go_enter Try.func48, Try.ntmps48
    go_wp2
    go_ret
    exact ⟨.slice none 0 0, rfl, by rw [HN.out]; exact Fresh.nil _ _ _ (by decide), (Below.refl _ _).alloc (Nat.le_refl _) _⟩
  · have H12 := Lib.hid h12
    have hx12 : xs.length ≤ 12 := by omega
    go_enter Try.func48, Try.ntmps48
    go_wp2
    go_loopw [3, 4] (fun t i wr => (∃ (k : Nat) (ol : List Packed) (dl : List Int), k ≤ xs.length ∧ i = .int .i64 k ∧ Fresh w.heap.size wr.heap.size wr [t] ol ∧ Hid (PkI xs k ol dl) ∧ Hid (∀ j, j < k → textB (xs.getD j []) = true) ∧ Hid (xs.all textB = true → packOf xs = packF (xs.drop k) (xs.take k) ol dl) ∧ Hid (xs.all textB = (xs.drop k).all textB)) ∧ Below w.heap.size w wr) (fun _ i _ => xs.length - (intOf i).toNat)
    case atStart => exact ⟨⟨0, [], [], by omega, rfl, (Fresh.empty (by decide) _ _ (Nat.le_refl _)).now, Lib.hid (pkI_start xs), (by show ∀ _, _; intro j hj; omega), Lib.hid (fun ht => packOf_ok H12.out ht), rfl⟩, (Below.refl _ _).alloc (Nat.le_refl _) _⟩
    case round =>
      obtain ⟨⟨k, ol, dl, hk, rfl, hF, HI, HT, HA, HL⟩, hb⟩ := hrel
      have hI := HI.out
      have hol := hI.1
      have hdl := hI.2.1
      have HFM := Lib.hid (pkI_forms hI)
      clear hI
      have hsz := hb.size
      obtain ⟨at0, ct0, hv5, _⟩ := hF.shape
      rw [hol] at hv5
      subst hv5
      obtain ⟨wb, rfl⟩ : ∃ wb : World, wb = wr := ⟨_, rfl⟩
      by_cases hlt : k < xs.length
      · obtain ⟨g, off, b, n, rfl, hc, hl⟩ := slice_text (hs.keep hb) hlt
        cases htk : textB xs[k] with
        | false =>
          have HN := Lib.hid (packOf_bad (all_bad HL.out hlt htk))
          go_wp2_with fail
          refine (l1Ok_is _ _ _ hl.rd htk).mono ?_
          rintro e w1 ⟨rfl, rfl⟩
          go_wp2
          go_ret
          exact ⟨.slice none 0 0, rfl, by rw [HN.out]; exact Fresh.nil _ _ _ (by decide), hb⟩
        | true =>
          have HTK := Lib.hid htk
          have htl := textB_len HTK.out
          have HLN := Lib.hid (all_next HL.out hlt htk)
          have HT2 : Hid (∀ j, j < k + 1 → textB (xs.getD j []) = true) := by
            show ∀ _, _
            intro j hj
            by_cases e : j < k
            · exact HT.out j e
            · obtain rfl : j = k := by omega
              rw [getD_at hlt]; exact HTK.out
          go_wp2_with fail
          refine (l1Ok_is _ _ _ hl.rd htk).mono ?_
          rintro e w1 ⟨rfl, rfl⟩
          clear htk
          go_wp2_with fail
          refine (l13Of_any _ _ [] xs[k] _ (rd_slice_nil (fun _ => False) _) hl.rd (by simp) htl).mono ?_
          rintro e wA ⟨v1, rfl, hD0, hb1⟩
          obtain ⟨a1, c1, rfl, _⟩ := hD0.shape
          have hF1 := hF.below (Nat.le_refl _) hb1
          have hbb1 := hb.trans (hb1.mono hsz)
          have hsz1 := hb1.size
          have hP0 : Fresh wb.heap.size (wA.heap.size + 1) (wA.alloc (.cells #[.int .i64 (-1), .slice a1 (deltaOf [] xs[k]).length c1] 58)) [.pointer (some ⟨wA.heap.size, 0, none⟩)] (⟨(best0 xs[k]).1⟩ : Box Packed) :=
            Fresh.box (cs := [.int .i64 (-1), .slice a1 (deltaOf [] xs[k]).length c1]) (hD0.mono (Nat.le_refl _) (Nat.le_refl _) |> fun h => Fresh.packed (p := (best0 xs[k]).1) (by unfold I64 best0; simp) h) hsz1
          have hF2 := hF1.alloc (.cells #[.int .i64 (-1), .slice a1 (deltaOf [] xs[k]).length c1] 58)
          have hb2 := hbb1.alloc (by omega) (.cells #[.int .i64 (-1), .slice a1 (deltaOf [] xs[k]).length c1] 58)
          have HB0 := Lib.hid (bestI_start xs[k] (xs.take k) dl)
          go_wp2
          go_loopw [6] (fun i wr => (∃ (j : Nat) (c : Packed × Int), j ≤ k ∧ i = .int .i64 j ∧ Fresh wb.heap.size wr.heap.size wr [.pointer (some ⟨wA.heap.size, 0, none⟩)] (⟨c.1⟩ : Box Packed) ∧
              Hid (BestI xs[k] (xs.take k) dl c) ∧ Hid (bestL xs[k] (xs.take k) dl 0 (best0 xs[k]) = bestL xs[k] ((xs.take k).drop j) (dl.drop j) j c)) ∧
              Fresh w.heap.size wb.heap.size wr [.slice at0 k ct0] ol ∧ Below w.heap.size w wr ∧ wA.heap.size < wr.heap.size) (fun i _ => k - (intOf i).toNat)
          case atStart => exact ⟨⟨0, best0 xs[k], by omega, rfl, by have := hP0; simpa using this, HB0, by show _ = _; simp⟩, hF2, hb2, by simp⟩
          case round =>
            clear hP0 hF1 hF2 hb2 hbb1 HB0
            obtain ⟨⟨j, c, hj, rfl, hP, HB, HL2⟩, hF, hbz, hszz⟩ := hrel
            obtain ⟨wo, rfl⟩ : ∃ wo : World, wo = wr := ⟨_, rfl⟩
            by_cases hjk : j < k
            · have hjx : j < xs.length := by omega
              have hjt : j < (xs.take k).length := by simp; omega
              have hjd : j < dl.length := by omega
              obtain ⟨g2, off2, b2, n2, hg2, hcj, hlj⟩ := slice_text (hs.keep hbz) hjx
              obtain ⟨rfl, rfl⟩ : g = g2 ∧ off = off2 := by simpa using hg2
              obtain ⟨g3, off3, b3, n3, hg3, hck, hlk⟩ := slice_text (hs.keep hbz) hlt
              obtain ⟨rfl, rfl⟩ : g = g3 ∧ off = off3 := by simpa using hg3
              clear hg2 hg3
              have HX := Lib.hid (show (xs.take k)[j] = xs[j] from List.getElem_take)
              have HTJ := Lib.hid (show textB xs[j] = true by have := HT.out j hjk; rw [getD_at hjx] at this; exact this)
              have htj := textB_len HTJ.out
              have HDJ := Lib.hid (show dl[j] = (deepAt ol j : Int) by have := (HI.out.2.2.2.2.1 j hjk).1; rw [getD_at hjd] at this; exact this)
              have p1 := BW.cell hcj
              have p2 := BW.cell hck
              go_wp2
              refine wp_region_tail 8 (by kernel_rfl) (by kernel_rfl) ?_
              simp only [List.take_succ_cons, List.take_zero, List.drop_succ_cons, List.drop_zero]
              repeat (go_big_quiet_step (fail))
              refine wpQuiet_nil ?_
              rintro w1 ⟨⟨_, hbw⟩, rfl⟩
              obtain ⟨w2, rfl⟩ : ∃ w2 : World, w2 = w1 := ⟨_, rfl⟩
              have hP1 := hP.below (Nat.le_refl _) hbw
              have hF1 := hF.below (Nat.le_refl _) hbw
              have hbz1 := hbz.trans (hbw.mono hbz.size)
              have hlj1 := hlj.below (Nat.le_refl _) hbw
              have hlk1 := hlk.below (Nat.le_refl _) hbw
              have hz1 := hbw.size
              clear hbw p1 p2 hcj hck
              go_wp2_with fail
              refine (l13Of_any _ _ xs[j] xs[k] _ hlj1.rd hlk1.rd htj htl).mono ?_
              rintro e w3 ⟨v2, rfl, hD, hb2⟩
              obtain ⟨aD, cD, rfl, hlD⟩ := hD.shape
              have hP2 := hP1.below (Nat.le_refl _) hb2
              have hF2 := hF1.below (Nat.le_refl _) hb2
              have hbz2 := hbz1.trans (hb2.mono hbz1.size)
              have hz2 := hb2.size
              have hs1 := sizeD_of HTJ.out HTK.out
              have hs2 : sizeD c.1.pcs ≤ 110 := Nat.le_trans HB.out.1 (sizeD_of rfl HTK.out)
              obtain ⟨ab, cb, hq0, hq1, hf0, hf1, hbx1, hbx2, hlb, hib, hPb⟩ := box_packed hP2
              have q1 := BW.cell hq1
              have hs1' : sizeD (deltaOf xs[j] xs[k]) ≤ 1048576 := by omega
              have hs2' : sizeD c.1.pcs ≤ 1048576 := by omega
              have hol2 : IsSlice _ w3 at0 ct0 ol := (rd_slice_of hF2.rd2).2
              have hrol : ∀ n : BW w3, rd (fun b => w.heap.size ≤ b ∧ b < wb.heap.size) n.w [.slice at0 k ct0] ol := fun n => by
                have := (hol2.bw n).rd
                rw [hol] at this
                exact this
              by_cases hdeep : deepAt ol j < 3
              · have hdd : decide ((deepAt ol j : Int) < 3) = true := decide_eq_true (by omega)
                by_cases hlt2 : sizeD (deltaOf xs[j] xs[k]) < sizeD c.1.pcs
                · have hld : decide (sizeD (deltaOf xs[j] xs[k]) < sizeD c.1.pcs) = true := decide_eq_true hlt2
                  have hcnd : dl[j] < 3 ∧ sizeD (deltaOf (xs.take k)[j] xs[k]) < sizeD c.1.pcs := by rw [HX.out, HDJ.out]; exact ⟨by omega, hlt2⟩
                  have HN : Hid (bestL xs[k] (xs.take k) dl 0 (best0 xs[k]) = bestL xs[k] ((xs.take k).drop (j + 1)) (dl.drop (j + 1)) (j + 1) (⟨j, deltaOf xs[j] xs[k]⟩, dl[j] + 1)) := by
                    have := bestL_take HL2.out hjt hjd hcnd
                    rw [HX.out] at this; exact Lib.hid this
                  have HI2 : Hid (BestI xs[k] (xs.take k) dl (⟨j, deltaOf xs[j] xs[k]⟩, dl[j] + 1)) := by
                    have := bestI_take HB.out hjt hjd hcnd
                    rw [HX.out] at this; exact Lib.hid this
                  clear hcnd
                  go_wp2
                  refine wp_region_bw (by kernel_rfl) (by kernel_rfl) ?_
                  repeat (go_big_quiet_step ((first | (go_at_call 84; exact Calls.bw_same (l13Deep_any ol HFM j _ _ (hrol _) (by omega) (by omega))) | (go_at_call 82; (first | exact Calls.bw (l13Size_is _ _ _ (hlb.bw _).rd hs2') | exact Calls.bw (l13Size_is _ _ _ (hlD.bw _).rd hs1'))))))
                  refine wpQuiet_nil ?_
                  rintro w1 ⟨⟨_, hbw⟩, rfl⟩
                  have hP3 := hP2.below (Nat.le_refl _) hbw
                  have hF3 := hF2.below (Nat.le_refl _) hbw
                  have hD3 := hD.below (Nat.le_refl _) hbw
                  have hbz3 := hbz2.trans (hbw.mono hbz2.size)
                  have hz3 := hbw.size
                  clear q1 hq0 hq1 hf0 hf1 hlb
                  obtain ⟨ab3, cb3, hq0, hq1, hf0, hf1, _, _, _, _, _⟩ := box_packed hP3
                  have hNP : Fresh w2.heap.size w3.heap.size w1 [.int .i64 j, .slice aD (deltaOf xs[j] xs[k]).length cD] (⟨j, deltaOf xs[j] xs[k]⟩ : Packed) := Fresh.packed (p := ⟨j, deltaOf xs[j] xs[k]⟩) (by unfold I64; simp only; omega) hD3
                  have hset := (hP3.mono (m' := w2.heap.size) (Nat.le_refl _) hz1).setbox hNP (by omega)
                  have hset' : Fresh wb.heap.size ((w1.setCell ⟨wA.heap.size, 0, none⟩ (.int .i64 j)).setCell ⟨wA.heap.size, 1, none⟩ (.slice aD (deltaOf xs[j] xs[k]).length cD)).heap.size ((w1.setCell ⟨wA.heap.size, 0, none⟩ (.int .i64 j)).setCell ⟨wA.heap.size, 1, none⟩ (.slice aD (deltaOf xs[j] xs[k]).length cD)) [.pointer (some ⟨wA.heap.size, 0, none⟩)] (⟨⟨j, deltaOf xs[j] xs[k]⟩⟩ : Box Packed) := Fresh.now hset
                  clear hset
                  go_wp2
                  go_roundw
                  case rel => exact ⟨⟨j + 1, (⟨j, deltaOf xs[j] xs[k]⟩, dl[j] + 1), by omega, by go_num, hset', HI2, HN⟩, ((hF3.setCell (.inr (by show wb.heap.size ≤ wA.heap.size; omega))).setCell (.inr (by show wb.heap.size ≤ wA.heap.size; omega))), ((hbz3.setCell (by show w.heap.size ≤ wA.heap.size; omega) _).setCell (by show w.heap.size ≤ wA.heap.size; omega) _), by show wA.heap.size < (World.heap _).size; simp; omega⟩
                  case measure => simp [intOf]; omega
                · have hld : decide (sizeD (deltaOf xs[j] xs[k]) < sizeD c.1.pcs) = false := decide_eq_false hlt2
                  have HN := Lib.hid (bestL_skip HL2.out hjt hjd (by rw [HX.out]; intro h; omega))
                  go_wp2
                  refine wp_region_bw (by kernel_rfl) (by kernel_rfl) ?_
                  repeat (go_big_quiet_step ((first | (go_at_call 84; exact Calls.bw_same (l13Deep_any ol HFM j _ _ (hrol _) (by omega) (by omega))) | (go_at_call 82; (first | exact Calls.bw (l13Size_is _ _ _ (hlb.bw _).rd hs2') | exact Calls.bw (l13Size_is _ _ _ (hlD.bw _).rd hs1'))))))
                  refine wpQuiet_nil ?_
                  rintro w1 ⟨⟨_, hbw⟩, rfl⟩
                  have hP3 := hP2.below (Nat.le_refl _) hbw
                  have hF3 := hF2.below (Nat.le_refl _) hbw
                  have hbz3 := hbz2.trans (hbw.mono hbz2.size)
                  have hz3 := hbw.size
                  go_wp2
                  go_roundw
                  case rel => exact ⟨⟨j + 1, c, by omega, by go_num, hP3.mono (Nat.le_refl _) (by omega), HB, HN⟩, hF3, hbz3, by omega⟩
                  case measure => simp [intOf]; omega
              · have hdd : decide ((deepAt ol j : Int) < 3) = false := decide_eq_false (by omega)
                have HN := Lib.hid (bestL_skip HL2.out hjt hjd (by rw [HDJ.out]; intro h; omega))
                go_wp2
                refine wp_region_bw (by kernel_rfl) (by kernel_rfl) ?_
                repeat (go_big_quiet_step ((go_at_call 84; exact Calls.bw_same (l13Deep_any ol HFM j _ _ (hrol _) (by omega) (by omega)))))
                refine wpQuiet_nil ?_
                rintro w1 ⟨⟨_, hbw⟩, rfl⟩
                have hP3 := hP2.below (Nat.le_refl _) hbw
                have hF3 := hF2.below (Nat.le_refl _) hbw
                have hbz3 := hbz2.trans (hbw.mono hbz2.size)
                have hz3 := hbw.size
                go_wp2
                go_roundw
                case rel => exact ⟨⟨j + 1, c, by omega, by go_num, hP3.mono (Nat.le_refl _) (by omega), HB, HN⟩, hF3, hbz3, by omega⟩
                case measure => simp [intOf]; omega
            · have HE := Lib.hid (bestL_end HL2.out (by simp; omega))
              obtain ⟨ab, cb, hq0, hq1, hf0, hf1, hbx1, hbx2, hlb, hib, hPb⟩ := box_packed hP
              have hszo := hbz.size
              have hby1 : (ol.length + 1) * 32 ≤ 140737488355328 := by omega
              have hmx1 : ol.length + 1 ≤ maxLen := by unfold maxLen; omega
              go_wp2_with (at_builtin; go_must (refine wpList_app_one slz_packed.slt rfl (.tmp 59) (.tmp 61) rfl rfl (hF.alloc _) (le_alloc hszo _) rfl (heap_alloc_new _ _) (hPb.alloc _) hsz hby1 hmx1 ?_); intro a5 c5 w5 hG5)
              go_roundw
              case rel =>
                refine ⟨⟨k + 1, ol ++ [c.1], dl ++ [c.2], by omega, by go_num, ?_, Lib.hid (pkI_next HI.out hlt (fun i hi => HT2.out i (by omega)) HB.out), HT2, Lib.hid (fun ht => packF_next (HA.out ht) hlt HE.out), HLN⟩, (hbz.alloc hszo _).trans hG5.below⟩
                have := hG5.fresh
                simp only [hol] at this
                exact this
              case measure => simp [intOf]; omega
      · have HE := Lib.hid (packF_end (HA.out (all_end HL.out hlt)) hlt)
        go_wp2
        go_ret
        exact ⟨_, rfl, by rw [HE.out]; exact hF, hb⟩
end Go.Proofs.Ytjfhbepnomnalaa
