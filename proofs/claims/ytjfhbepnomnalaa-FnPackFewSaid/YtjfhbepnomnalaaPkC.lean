/-
  A boxed variable that owns what it holds. No program is in sight here. / Walks: a pack of texts, as the program makes it. / Walks: a pack of texts, as the reference makes it.
-/
import Derived.Test.YtjfhbepnomnalaaSetL
import Derived.Test.YtjfhbepnomnalaaPkB
set_option linter.unusedVariables false
namespace Go.Vc
open Go.RowKit
open Rep (rd)
open Own (own)

/-- a variable in memory -/
structure Box (α : Type) where
  val : α
instance repBox {α : Type} [Rep α] : Rep (Box α) where
  sz := 1
  rd := fun S w vs x => ∃ b cs e, vs = [.pointer (some ⟨b, 0, none⟩)] ∧ S b ∧ w.heap[b]? = some (.cells (List.toArray cs) e (0, 0)) ∧ rd S w cs x.val
  len := fun ⟨_, _, _, h, _⟩ => by rw [h]; rfl
  one := fun ⟨_, _, _, h, _⟩ => by rw [h]; intro u hu; simp at hu; rw [hu]; rfl
  frame := fun h ⟨b, cs, e, hv, hs, hh, hr⟩ => by
    have hl := (Array.getElem?_eq_some_iff.1 hh).1
    exact ⟨b, cs, e, hv, (h b hs hl).2, by rw [(h b hs hl).1]; exact hh, Rep.frame h hr⟩
instance ownBox {α : Type} [Own α] : Own (Box α) where
  own := fun F w vs x => ∃ b cs e G, vs = [.pointer (some ⟨b, 0, none⟩)] ∧ w.heap[b]? = some (.cells (List.toArray cs) e (0, 0)) ∧ own G w cs x.val ∧ F = b :: G
  rd_of := fun ⟨b, cs, e, G, hv, hh, ho, hF⟩ => ⟨b, cs, e, hv, by rw [hF]; simp, hh, Rep.mono (fun k hk => by rw [hF]; simp [hk]) (Own.rd_of ho)⟩
  oframe := fun h ⟨b, cs, e, G, hv, hh, ho, hF⟩ => ⟨b, cs, e, G, hv, by rw [h b (by rw [hF]; simp)]; exact hh, Own.oframe (fun k hk => h k (by rw [hF]; simp [hk])) ho, hF⟩
  lt := fun ⟨b, cs, e, G, hv, hh, ho, hF⟩ k hk => by
    rw [hF] at hk
    rcases List.mem_cons.1 hk with rfl | hk
    · exact (Array.getElem?_eq_some_iff.1 hh).1
    · exact Own.lt ho k hk

section
variable {α : Type} [Own α] {w : World} {B m b : Nat} {x : α}
/-- what a boxed variable holds -/
theorem Fresh.unbox (h : Fresh B m w [.pointer (some ⟨b, 0, none⟩)] (⟨x⟩ : Box α)) : ∃ cs e, w.heap[b]? = some (.cells (List.toArray cs) e (0, 0)) ∧ Fresh B m w cs x ∧ B ≤ b ∧ b < m := by
  obtain ⟨F, ⟨b', cs, e, G, hv, hh, ho, rfl⟩, hn, hb⟩ := h
  simp at hv
  subst hv
  exact ⟨cs, e, hh, ⟨G, ho, (List.nodup_cons.1 hn).2, fun k hk => hb k (by simp [hk])⟩, hb b (by simp)⟩
theorem Fresh.box {cs : List Value} {e : TypeId} (h : Fresh B m w cs x) (hB : B ≤ w.heap.size) : Fresh B (w.heap.size + 1) (w.alloc (.cells (List.toArray cs) e)) [.pointer (some ⟨w.heap.size, 0, none⟩)] (⟨x⟩ : Box α) := by
  obtain ⟨G, ho, hn, hb⟩ := h
  have hl := Own.lt ho
  refine ⟨w.heap.size :: G, ⟨w.heap.size, cs, e, G, rfl, heap_alloc_new _ _, Own.oframe (fun k hk => Below.heap_alloc w _ k (hl k hk)) ho, rfl⟩, List.nodup_cons.2 ⟨fun hm => ?_, hn⟩, fun k hk => ?_⟩
  · have := hl _ hm; omega
  · rcases List.mem_cons.1 hk with rfl | hk
    · omega
    · have := hl k hk
      exact ⟨(hb k hk).1, by omega⟩
/-- a boxed variable set -/
theorem Fresh.setbox {m' : Nat} {y : α} {d : List Value} (h : Fresh B m w [.pointer (some ⟨b, 0, none⟩)] (⟨x⟩ : Box α)) (hy : Fresh m m' w d y) (hB : B ≤ m) :
    Fresh B w.heap.size (setCellsAt w b 0 d) [.pointer (some ⟨b, 0, none⟩)] (⟨y⟩ : Box α) := by
  obtain ⟨cs, e, hh, hx, hb1, hb2⟩ := h.unbox
  obtain ⟨F, ho, _, _⟩ := hx
  obtain ⟨G, go, gn, gb⟩ := hy
  have l1 := Rep.len (Own.rd_of ho)
  have l2 := Rep.len (Own.rd_of go)
  have hset : (setAll cs.toArray 0 d) = d.toArray := by
    apply Array.ext'
    rw [setAll_toList _ _ _ (by simp; omega)]
    simp
    omega
  have hbG : b ∉ G := fun hm => by have := gb b hm; omega
  have hlt := (Array.getElem?_eq_some_iff.1 hh).1
  refine ⟨b :: G, ⟨b, d, e, G, rfl, ?_, Own.oframe (fun k hk => setCellsAt_rest b k (fun e => hbG (e ▸ hk)) d w 0) go, rfl⟩, List.nodup_cons.2 ⟨hbG, gn⟩, fun k hk => ?_⟩
  · have := setCellsAt_heap b d w 0 _ _ hh
    rw [hset] at this
    exact this
  · rcases List.mem_cons.1 hk with rfl | hk
    · exact ⟨hb1, hlt⟩
    · have := gb k hk
      have := Own.lt go k hk
      omega
end
end Go.Vc
namespace Go.Proofs.Ytjfhbepnomnalaa
open Go.RowKit Go.Vc
open Go.Vc.Rep (rd)
open Go.Vc.Own (own)

theorem slt_packed : SlT Try.prog 50 Packed 32 := slz_packed.slt
theorem textOk_is' {S : Nat → Prop} (v : Value) (xs : List ByteArray) (w : World) (hv : rd S w [v] xs) {b : Bool} (h : textB xs = b) :
    Calls Try.prog 33 #[v] w fun e w' => e = .returned (.bool b) ∧ w = w' :=
  (textOk_any v xs w hv).mono fun e w' h' => by rw [← h]; exact h'
theorem packOf_long {l : List (List ByteArray)} (h : 12 < l.length) : packOf l = [] := by rw [packOf, if_pos h]
theorem packOf_bad {l : List (List ByteArray)} (h : l.all textB = false) : packOf l = [] := by
  rw [packOf]
  split
  · rfl
  · rw [if_neg (by rw [h]; simp)]
theorem packOf_ok {l : List (List ByteArray)} (h : ¬ 12 < l.length) (ht : l.all textB = true) : packOf l = packF (l.drop 0) (l.take 0) [] [] := by rw [packOf, if_neg h, if_pos ht]; rfl
theorem sizeD_of {b t : List ByteArray} (hb : textB b = true) (ht : textB t = true) : sizeD (deltaOf b t) ≤ 110 := sizeD_le (deltaOf_ok hb ht)
/-- what a boxed Packed holds, cell by cell -/
theorem box_packed {w : World} {B m b : Nat} {p : Packed} (h : Fresh B m w [.pointer (some ⟨b, 0, none⟩)] (⟨p⟩ : Box Packed)) :
    ∃ a c, w.cell? ⟨b, 0, none⟩ = some (.int .i64 p.base) ∧ w.cell? ⟨b, 1, none⟩ = some (.slice a p.pcs.length c) ∧ w.frozen? ⟨b, 0, none⟩ = false ∧ w.frozen? ⟨b, 1, none⟩ = false ∧ B ≤ b ∧ b < m ∧
      IsSlice (fun k => B ≤ k ∧ k < m) w a c p.pcs ∧ I64 p.base ∧ Fresh B m w [.int .i64 p.base, .slice a p.pcs.length c] p := by
  obtain ⟨cs, e, hh, hx, h1, h2⟩ := h.unbox
  obtain ⟨a, c, rfl, h3, h4⟩ := rd_packed hx.rd2
  refine ⟨a, c, ?_, ?_, frozen_of_row _ _ _ _ _ hh, frozen_of_row _ _ _ _ _ hh, h1, h2, h4, h3, hx⟩
  · rw [cell_of_row w b 0 _ e (0, 0) hh]; rfl
  · rw [cell_of_row w b 1 _ e (0, 0) hh]; rfl

set_option maxHeartbeats 8000000 in
set_option maxRecDepth 100000 in
theorem implPackOf {S : Nat → Prop} (v : Value) (xs : List (List ByteArray)) (w : World) (hv : rd S w [v] xs) :
    Calls Try.prog 50 #[v] w fun e w' => ∃ v', e = .returned v' ∧ Fresh w.heap.size w'.heap.size w' [v'] (packOf xs) ∧ Below w.heap.size w w' := by
  obtain ⟨a, cap, rfl, hs⟩ := rd_slice_elim (Rep.lt hv)
  have hle := hs.le
  by_cases h12 : 12 < xs.length
  · have HN := Lib.hid (packOf_long h12)
    go_enter Try.func50, Try.ntmps50
    go_wp2
    go_ret
    exact ⟨.slice none 0 0, rfl, by rw [HN.out]; exact Fresh.nil _ _ _ (by decide), Below.refl _ _⟩
  · have H12 := Lib.hid h12
    go_enter Try.func50, Try.ntmps50
    go_wp2
    go_loop [19] (fun i => ∃ k : Nat, k ≤ xs.length ∧ i = .int .i64 k ∧ Hid (xs.all textB = (xs.drop k).all textB)) (fun i => xs.length - (intOf i).toNat)
    case atStart => exact ⟨0, by omega, rfl, rfl⟩
    case round =>
      obtain ⟨k, hk, rfl, HA⟩ := hrel
      by_cases hlt : k < xs.length
      · obtain ⟨g, off, b, n, rfl, hc, hl⟩ := slice_text hs hlt
        cases ht : textB xs[k] with
        | false =>
          have HN := Lib.hid (packOf_bad (all_bad HA.out hlt ht))
          go_wp2_with fail
          refine (textOk_is' _ _ _ hl.rd ht).mono ?_
          rintro e w1 ⟨rfl, rfl⟩
          go_wp2
          go_ret
          exact ⟨.slice none 0 0, rfl, by rw [HN.out]; exact Fresh.nil _ _ _ (by decide), Below.refl _ _⟩
        | true =>
          have HN := Lib.hid (all_next HA.out hlt ht)
          go_wp2_with fail
          refine (textOk_is' _ _ _ hl.rd ht).mono ?_
          rintro e w1 ⟨rfl, rfl⟩
          go_wp2
          go_round
          case rel => exact ⟨k + 1, by omega, by go_num, HN.out⟩
          case measure => simp [intOf]; omega
      · have hall := all_end HA.out hlt
        have HT := Lib.hid (texts_at hall)
        have HP := Lib.hid (packOf_ok H12.out hall)
        clear hall
        go_wp2
        clear hlt hk HA
        go_loopw [5, 6, 29] (fun t d i wr => (∃ (k : Nat) (ol : List Packed) (dl : List Int), k ≤ xs.length ∧ i = .int .i64 k ∧ Fresh w.heap.size wr.heap.size wr [t, d] (ol, dl) ∧ Hid (PkI xs k ol dl) ∧ Hid (packOf xs = packF (xs.drop k) (xs.take k) ol dl)) ∧ Below w.heap.size w wr) (fun _ _ i _ => xs.length - (intOf i).toNat)
        case atStart => exact ⟨⟨0, [], [], by omega, rfl, Fresh.pair_nil _ _ _ (by decide) (by decide), Lib.hid (pkI_start xs), HP⟩, Below.refl _ _⟩
        case round =>
          obtain ⟨⟨k, ol, dl, hk, rfl, hF, HI, HA⟩, hb⟩ := hrel
          have hI := HI.out
          have hol := hI.1
          have hdl := hI.2.1
          clear hI
          have hsz := hb.size
          obtain ⟨at0, ct0, hv5, _⟩ := hF.fst.shape
          obtain ⟨ad0, cd0, hv6, _⟩ := hF.snd.shape
          rw [hol] at hv5
          rw [hdl] at hv6
          subst hv5 hv6
          have hFk := hF
          clear hF
          by_cases hlt : k < xs.length
          · have hx12 : xs.length ≤ 12 := by omega
            obtain ⟨g, off, b, n, rfl, hc, hl⟩ := slice_text (hs.keep hb) hlt
            have HTK := Lib.hid (show textB xs[k] = true by have := HT.out k hlt; rw [getD_at hlt] at this; exact this)
            have htl := textB_len HTK.out
            go_wp2_with fail
            refine (delta_any _ _ [] xs[k] _ (rd_slice_nil (fun _ => False) _) hl.rd (by simp) htl).mono ?_
            rintro e wA ⟨v1, rfl, hD0, hb1⟩
            obtain ⟨a1, c1, rfl, _⟩ := hD0.shape
            have hF1 := hFk.below (Nat.le_refl _) hb1
            have hbb1 := hb.trans (hb1.mono hsz)
            have hsz1 := hb1.size
            have hP0 : Fresh wr.heap.size (wA.heap.size + 1) (wA.alloc (.cells #[.int .i64 (-1), .slice a1 (deltaOf [] xs[k]).length c1] 58)) [.pointer (some ⟨wA.heap.size, 0, none⟩)] (⟨(best0 xs[k]).1⟩ : Box Packed) :=
              Fresh.box (cs := [.int .i64 (-1), .slice a1 (deltaOf [] xs[k]).length c1]) (hD0.mono (Nat.le_refl _) (Nat.le_refl _) |> fun h => Fresh.packed (p := (best0 xs[k]).1) (by unfold I64 best0; simp) h) hsz1
            have hF2 := hF1.alloc (.cells #[.int .i64 (-1), .slice a1 (deltaOf [] xs[k]).length c1] 58)
            have hb2 := hbb1.alloc (by omega) (.cells #[.int .i64 (-1), .slice a1 (deltaOf [] xs[k]).length c1] 58)
            have hct := run_cut0 slz_texts.slt (some ⟨g, off, none⟩) xs.length cap k (by have := hs.1; omega)
            have HB0 := Lib.hid (bestI_start xs[k] (xs.take k) dl)
            obtain ⟨wb, hwb⟩ : ∃ wb : World, wb = wr := ⟨_, rfl⟩
            subst hwb
            go_wp2
            clear hct
            go_loopw [10, 41] (fun d i wr => (∃ (j : Nat) (c : Packed × Int), j ≤ k ∧ i = .int .i64 j ∧ d = .int .i64 c.2 ∧ 1 ≤ c.2 ∧ c.2 ≤ 3 ∧ Fresh wb.heap.size wr.heap.size wr [.pointer (some ⟨wA.heap.size, 0, none⟩)] (⟨c.1⟩ : Box Packed) ∧
                Hid (BestI xs[k] (xs.take k) dl c) ∧ Hid (bestL xs[k] (xs.take k) dl 0 (best0 xs[k]) = bestL xs[k] ((xs.take k).drop j) (dl.drop j) j c)) ∧
                Fresh w.heap.size wb.heap.size wr [.slice at0 k ct0, .slice ad0 k cd0] (ol, dl) ∧ Below w.heap.size w wr ∧ wA.heap.size < wr.heap.size) (fun _ i _ => k - (intOf i).toNat)
            case atStart => exact ⟨⟨0, best0 xs[k], by omega, rfl, rfl, by simp [best0], by simp [best0], by have := hP0; simpa using this, HB0, by show _ = _; simp⟩, hF2, hb2, by simp⟩
            case round =>
              clear hP0 hF1 hF2 hb2 hbb1 HB0
              obtain ⟨⟨j, c, hj, rfl, rfl, hc1, hc3, hP, HB, HL⟩, hF, hbz, hszz⟩ := hrel
              obtain ⟨wo, rfl⟩ : ∃ wo : World, wo = wr := ⟨_, rfl⟩
              have hjx : j < xs.length ∨ ¬ j < k := by omega
              have hl' : IsSlice (fun b => b < w.heap.size) wo b n xs[k] := hl.frame fun b hbl _ => ⟨by rw [hbz.block b hbl, ← hb.block b hbl], hbl⟩
              by_cases hjk : j < k
              · have hjx : j < xs.length := by omega
                have hjt : j < (xs.take k).length := by simp; omega
                have hjd : j < dl.length := by omega
                obtain ⟨g2, off2, b2, n2, hg2, hcj, hlj⟩ := slice_text (hs.keep hbz) hjx
                obtain ⟨rfl, rfl⟩ : g = g2 ∧ off = off2 := by simpa using hg2
                obtain ⟨gd, od, hgd, hd0, hdi⟩ := ((rd_slice_of hF.snd.rd2).2).int (i := j) (by omega)
                subst hgd
                have HX := Lib.hid (show (xs.take k)[j] = xs[j] from List.getElem_take)
                have HTJ := Lib.hid (show textB xs[j] = true by have := HT.out j hjx; rw [getD_at hjx] at this; exact this)
                have htj := textB_len HTJ.out
                clear hg2
                by_cases hz : 3 ≤ dl[j]
                · have hzd : decide (3 ≤ dl[j]) = true := decide_eq_true hz
                  have HN := Lib.hid (bestL_skip HL.out hjt hjd (by intro h; omega))
                  go_wp2
                  go_roundw
                  case rel => exact ⟨⟨j + 1, c, by omega, by go_num, rfl, hc1, hc3, hP, HB, HN⟩, hF, hbz, hszz⟩
                  case measure => simp [intOf]; omega
                · have hzd : decide (3 ≤ dl[j]) = false := decide_eq_false hz
                  go_wp2_with fail
                  refine (delta_any _ _ xs[j] xs[k] _ hlj.rd hl'.rd htj htl).mono ?_
                  rintro e w2 ⟨v2, rfl, hD, hb2⟩
                  obtain ⟨aD, cD, rfl, hlD⟩ := hD.shape
                  have hP2 := hP.below (Nat.le_refl _) hb2
                  have hF2 := hF.below (Nat.le_refl _) hb2
                  have hbz2 := hbz.trans (hb2.mono hbz.size)
                  have hs1 := sizeD_of HTJ.out HTK.out
                  have hs2 : sizeD c.1.pcs ≤ 110 := Nat.le_trans HB.out.1 (sizeD_of rfl HTK.out)
                  have hd2 := keepc hd0 hb2
                  obtain ⟨ab, cb, hq0, hq1, hf0, hf1, hbx1, hbx2, hlb, hib, hPb⟩ := box_packed hP2
                  have q1 := BW.cell hq1
                  have hs1' : sizeD (deltaOf xs[j] xs[k]) ≤ 1048576 := by omega
                  have hs2' : sizeD c.1.pcs ≤ 1048576 := by omega
                  by_cases hlt2 : sizeD (deltaOf xs[j] xs[k]) < sizeD c.1.pcs
                  · have hld : decide (sizeD (deltaOf xs[j] xs[k]) < sizeD c.1.pcs) = true := decide_eq_true hlt2
                    have HN := Lib.hid (bestL_take HL.out hjt hjd (by rw [HX.out]; exact ⟨by omega, hlt2⟩))
                    have HI2 := Lib.hid (bestI_take HB.out hjt hjd (by rw [HX.out]; exact ⟨by omega, hlt2⟩))
                    go_wp2
                    refine wp_region_bw (by kernel_rfl) (by kernel_rfl) ?_
                    repeat (go_big_quiet_step ((go_at_call 83; (first | exact Calls.bw (sizeOf_is _ _ _ (hlb.bw _).rd hs2') | exact Calls.bw (sizeOf_is _ _ _ (hlD.bw _).rd hs1')))))
                    refine wpQuiet_nil ?_
                    rintro w1 ⟨⟨_, hbw⟩, rfl⟩
                    have hP3 := hP2.below (Nat.le_refl _) hbw
                    have hF3 := hF2.below (Nat.le_refl _) hbw
                    have hD3 := hD.below (Nat.le_refl _) hbw
                    have hbz3 := hbz2.trans (hbw.mono hbz2.size)
                    have hz3 := hbw.size
                    have hz2 := hb2.size
                    have hd3 := keepc hd2 hbw
                    obtain ⟨gd', hgd', _, hgl⟩ := hF.snd.addr (by omega)
                    obtain ⟨rfl, rfl⟩ : gd = gd' ∧ od = 0 := by simpa using hgd'
                    rw [Nat.zero_add] at hd3
                    have hd4 : (w1.setCell ⟨wA.heap.size, 0, none⟩ (.int .i64 j)).cell? ⟨gd, j, none⟩ = some (.int .i64 dl[j]) := by
                      rw [← hd3]; exact World.cell?_of_block (Below.heap_setCell _ _ _ _ (by simp only; omega))
                    have hd5 : ((w1.setCell ⟨wA.heap.size, 0, none⟩ (.int .i64 j)).setCell ⟨wA.heap.size, 1, none⟩ (.slice aD (deltaOf xs[j] xs[k]).length cD)).cell? ⟨gd, j, none⟩ = some (.int .i64 dl[j]) := by
                      rw [← hd4]; exact World.cell?_of_block (Below.heap_setCell _ _ _ _ (by simp only; omega))
                    clear q1 hq0 hq1 hf0 hf1 hlb hgd' hd2 hd0
                    obtain ⟨ab3, cb3, hq0, hq1, hf0, hf1, _, _, _, _, _⟩ := box_packed hP3
                    have e1 : IntKind.i64.wrap (dl[j] + 1) = dl[j] + 1 := IntWalk.i64_in _ (by unfold I64 at hdi; omega)
                    have hNP : Fresh wo.heap.size w2.heap.size w1 [.int .i64 j, .slice aD (deltaOf xs[j] xs[k]).length cD] (⟨j, deltaOf xs[j] xs[k]⟩ : Packed) := Fresh.packed (p := ⟨j, deltaOf xs[j] xs[k]⟩) (by unfold I64; simp only; omega) hD3
                    have HI' : Hid (BestI xs[k] (xs.take k) dl (⟨j, deltaOf xs[j] xs[k]⟩, dl[j] + 1)) := by have := HI2.out; rw [HX.out] at this; exact Lib.hid this
                    have HN' : Hid (bestL xs[k] (xs.take k) dl 0 (best0 xs[k]) = bestL xs[k] ((xs.take k).drop (j + 1)) (dl.drop (j + 1)) (j + 1) (⟨j, deltaOf xs[j] xs[k]⟩, dl[j] + 1)) := by have := HN.out; rw [HX.out] at this; exact Lib.hid this
                    have hset := hP3.setbox hNP (by have := hF.fst; omega)
                    have hset' : Fresh wb.heap.size ((w1.setCell ⟨wA.heap.size, 0, none⟩ (.int .i64 j)).setCell ⟨wA.heap.size, 1, none⟩ (.slice aD (deltaOf xs[j] xs[k]).length cD)).heap.size ((w1.setCell ⟨wA.heap.size, 0, none⟩ (.int .i64 j)).setCell ⟨wA.heap.size, 1, none⟩ (.slice aD (deltaOf xs[j] xs[k]).length cD)) [.pointer (some ⟨wA.heap.size, 0, none⟩)] (⟨⟨j, deltaOf xs[j] xs[k]⟩⟩ : Box Packed) := Fresh.now hset
                    have hdn : 0 ≤ dl[j] := by
                      have := (HI.out.2.2.2.2.1 j hjk).1
                      rw [getD_at hjd] at this
                      omega
                    clear hset
                    go_wp2
                    go_region_law (fail)
                    all_goals
                      go_wp2
                      go_roundw
                      case rel => exact ⟨⟨j + 1, (⟨j, deltaOf xs[j] xs[k]⟩, dl[j] + 1), by omega, by go_num, rfl, by show 1 ≤ dl[j] + 1; omega, by show dl[j] + 1 ≤ 3; omega, Fresh.drew hset', HI', HN'⟩, ((hF3.setCell (.inr (by show wb.heap.size ≤ wA.heap.size; omega))).setCell (.inr (by show wb.heap.size ≤ wA.heap.size; omega))).drew, ((hbz3.setCell (by show w.heap.size ≤ wA.heap.size; omega) _).setCell (by show w.heap.size ≤ wA.heap.size; omega) _).drew, by show wA.heap.size < (World.heap _).size; simp; omega⟩
                      case measure => simp [intOf]; omega
                  · have hld : decide (sizeD (deltaOf xs[j] xs[k]) < sizeD c.1.pcs) = false := decide_eq_false hlt2
                    have HN := Lib.hid (bestL_skip HL.out hjt hjd (by rw [HX.out]; intro h; omega))
                    go_wp2
                    refine wp_region_bw (by kernel_rfl) (by kernel_rfl) ?_
                    repeat (go_big_quiet_step ((go_at_call 83; (first | exact Calls.bw (sizeOf_is _ _ _ (hlb.bw _).rd hs2') | exact Calls.bw (sizeOf_is _ _ _ (hlD.bw _).rd hs1')))))
                    refine wpQuiet_nil ?_
                    rintro w1 ⟨⟨_, hbw⟩, rfl⟩
                    have hP3 := hP2.below (Nat.le_refl _) hbw
                    have hF3 := hF2.below (Nat.le_refl _) hbw
                    have hbz3 := hbz2.trans (hbw.mono hbz2.size)
                    have hz3 := hbw.size
                    have hz2 := hb2.size
                    go_wp2
                    go_roundw
                    case rel => exact ⟨⟨j + 1, c, by omega, by go_num, rfl, hc1, hc3, hP3.mono (Nat.le_refl _) (by omega), HB, HN⟩, hF3, hbz3, by omega⟩
                    case measure => simp [intOf]; omega
              · have HE := Lib.hid (bestL_end HL.out (by simp; omega))
                obtain ⟨ab, cb, hq0, hq1, hf0, hf1, hbx1, hbx2, hlb, hib, hPb⟩ := box_packed hP
                have hszo := hbz.size
                have hic : I64 c.2 := by unfold I64; omega
                have hby1 : (ol.length + 1) * 32 ≤ 140737488355328 := by omega
                have hmx1 : ol.length + 1 ≤ maxLen := by unfold maxLen; omega
                have hby2 : (dl.length + 1) * 8 ≤ 140737488355328 := by omega
                have hmx2 : dl.length + 1 ≤ maxLen := by unfold maxLen; omega
                go_wp2_with (first
                  | (at_builtin; (refine wpList_app_fst slz_packed.slt rfl (.tmp 69) (.tmp 71) rfl rfl (hF.alloc _) (le_alloc hszo _) rfl (heap_alloc_new _ _) (hPb.alloc _) hsz hby1 hmx1 ?_); intro a5 c5 w5 hG5; have hsz5 := hG5.below.size; have hP5 := hG5.fresh; rw [hol] at hP5; have hb5 := (hbz.alloc hszo (.cells #[.int .i64 c.1.base, .slice ab c.1.pcs.length cb] 58)).trans hG5.below)
                  | (at_builtin; go_must (refine wpList_app_snd slz_int.slt rfl (.tmp 73) (.tmp 75) rfl rfl (hP5.alloc _) (le_alloc hb5.size _) rfl (heap_alloc_new _ _) (Fresh.leaf (α := Int) (m := w5.heap.size + 1) ⟨rfl, rfl, hic⟩) hb5.size hby2 hmx2 ?_); intro a6 c6 w6 hG6))
                go_roundw
                case rel =>
                  refine ⟨⟨k + 1, ol ++ [c.1], dl ++ [c.2], by omega, by go_num, ?_, Lib.hid (pkI_next HI.out hlt (fun i hi => HT.out i (by omega)) HB.out), packF_next HA.out hlt HE.out⟩, (hb5.alloc hb5.size _).trans hG6.below⟩
                  have := hG6.fresh
                  simp only [hdl] at this
                  exact this
                case measure => simp [intOf]; omega
          · have HE := Lib.hid (packF_end HA.out hlt)
            go_wp2
            go_ret
            exact ⟨_, rfl, by rw [HE.out]; exact hFk.fst, hb⟩
end Go.Proofs.Ytjfhbepnomnalaa
namespace Go.Proofs.Ytjfhbepnomnalaa
open Go.RowKit Go.Vc
open Go.Vc.Rep (rd)
open Go.Vc.Own (own)

theorem l1Ok_is {S : Nat → Prop} (v : Value) (xs : List ByteArray) (w : World) (hv : rd S w [v] xs) {b : Bool} (h : textB xs = b) :
    Calls Try.prog 62 #[v] w fun e w' => e = .returned (.bool b) ∧ w = w' :=
  (l1Ok_any v xs w hv).mono fun e w' h' => by rw [← h]; exact h'
theorem pkI_forms {l : List (List ByteArray)} {k : Nat} {out : List Packed} {ds : List Int} (h : PkI l k out ds) : ∀ j, PForm out j := fun j => by
  by_cases e : j < k
  · exact h.2.2.1 j e
  · intro hj
    have := h.1
    omega

set_option maxHeartbeats 8000000 in
set_option maxRecDepth 100000 in
theorem specPackOf {S : Nat → Prop} (v : Value) (xs : List (List ByteArray)) (w : World) (hv : rd S w [v] xs) :
    Calls Try.prog 48 #[v] w fun e w' => ∃ v', e = .returned v' ∧ Fresh w.heap.size w'.heap.size w' [v'] (packOf xs) ∧ Below w.heap.size w w' := by
  obtain ⟨a, cap, rfl, hs⟩ := rd_slice_elim (Rep.lt hv)
  have hle := hs.le
  by_cases h12 : 12 < xs.length
  · have HN := Lib.hid (packOf_long h12)
    go_enter Try.func48, Try.ntmps48
    go_wp2
    go_ret
    exact ⟨.slice none 0 0, rfl, by rw [HN.out]; exact Fresh.nil _ _ _ (by decide), (Below.refl _ _).alloc (Nat.le_refl _) _⟩
  · have H12 := Lib.hid h12
    have hx12 : xs.length ≤ 12 := by omega
    go_enter Try.func48, Try.ntmps48
    go_wp2
    go_loopw [3, 4] (fun t i wr => (∃ (k : Nat) (ol : List Packed) (dl : List Int), k ≤ xs.length ∧ i = .int .i64 k ∧ Fresh w.heap.size wr.heap.size wr [t] ol ∧ Hid (PkI xs k ol dl) ∧ Hid (∀ j, j < k → textB (xs.getD j []) = true) ∧ Hid (xs.all textB = true → packOf xs = packF (xs.drop k) (xs.take k) ol dl) ∧ Hid (xs.all textB = (xs.drop k).all textB)) ∧ Below w.heap.size w wr) (fun _ i _ => xs.length - (intOf i).toNat)
    case atStart => exact ⟨⟨0, [], [], by omega, rfl, (Fresh.empty (by decide) _ _ (Nat.le_refl _)).now, Lib.hid (pkI_start xs), (by show ∀ _, _; intro j hj; omega), Lib.hid (fun ht => packOf_ok H12.out ht), rfl⟩, (Below.refl _ _).alloc (Nat.le_refl _) _⟩
    case round =>
      obtain ⟨⟨k, ol, dl, hk, rfl, hF, HI, HT, HA, HL⟩, hb⟩ := hrel
      have hI := HI.out
      have hol := hI.1
      have hdl := hI.2.1
      have HFM := Lib.hid (pkI_forms hI)
      clear hI
      have hsz := hb.size
      obtain ⟨at0, ct0, hv5, _⟩ := hF.shape
      rw [hol] at hv5
      subst hv5
      obtain ⟨wb, rfl⟩ : ∃ wb : World, wb = wr := ⟨_, rfl⟩
      by_cases hlt : k < xs.length
      · obtain ⟨g, off, b, n, rfl, hc, hl⟩ := slice_text (hs.keep hb) hlt
        cases htk : textB xs[k] with
        | false =>
          have HN := Lib.hid (packOf_bad (all_bad HL.out hlt htk))
          go_wp2_with fail
          refine (l1Ok_is _ _ _ hl.rd htk).mono ?_
          rintro e w1 ⟨rfl, rfl⟩
          go_wp2
          go_ret
          exact ⟨.slice none 0 0, rfl, by rw [HN.out]; exact Fresh.nil _ _ _ (by decide), hb⟩
        | true =>
          have HTK := Lib.hid htk
          have htl := textB_len HTK.out
          have HLN := Lib.hid (all_next HL.out hlt htk)
          have HT2 : Hid (∀ j, j < k + 1 → textB (xs.getD j []) = true) := by
            show ∀ _, _
            intro j hj
            by_cases e : j < k
            · exact HT.out j e
            · obtain rfl : j = k := by omega
              rw [getD_at hlt]; exact HTK.out
          go_wp2_with fail
          refine (l1Ok_is _ _ _ hl.rd htk).mono ?_
          rintro e w1 ⟨rfl, rfl⟩
          clear htk
          go_wp2_with fail
          refine (l13Of_any _ _ [] xs[k] _ (rd_slice_nil (fun _ => False) _) hl.rd (by simp) htl).mono ?_
          rintro e wA ⟨v1, rfl, hD0, hb1⟩
          obtain ⟨a1, c1, rfl, _⟩ := hD0.shape
          have hF1 := hF.below (Nat.le_refl _) hb1
          have hbb1 := hb.trans (hb1.mono hsz)
          have hsz1 := hb1.size
          have hP0 : Fresh wb.heap.size (wA.heap.size + 1) (wA.alloc (.cells #[.int .i64 (-1), .slice a1 (deltaOf [] xs[k]).length c1] 58)) [.pointer (some ⟨wA.heap.size, 0, none⟩)] (⟨(best0 xs[k]).1⟩ : Box Packed) :=
            Fresh.box (cs := [.int .i64 (-1), .slice a1 (deltaOf [] xs[k]).length c1]) (hD0.mono (Nat.le_refl _) (Nat.le_refl _) |> fun h => Fresh.packed (p := (best0 xs[k]).1) (by unfold I64 best0; simp) h) hsz1
          have hF2 := hF1.alloc (.cells #[.int .i64 (-1), .slice a1 (deltaOf [] xs[k]).length c1] 58)
          have hb2 := hbb1.alloc (by omega) (.cells #[.int .i64 (-1), .slice a1 (deltaOf [] xs[k]).length c1] 58)
          have HB0 := Lib.hid (bestI_start xs[k] (xs.take k) dl)
          go_wp2
          go_loopw [6] (fun i wr => (∃ (j : Nat) (c : Packed × Int), j ≤ k ∧ i = .int .i64 j ∧ Fresh wb.heap.size wr.heap.size wr [.pointer (some ⟨wA.heap.size, 0, none⟩)] (⟨c.1⟩ : Box Packed) ∧
              Hid (BestI xs[k] (xs.take k) dl c) ∧ Hid (bestL xs[k] (xs.take k) dl 0 (best0 xs[k]) = bestL xs[k] ((xs.take k).drop j) (dl.drop j) j c)) ∧
              Fresh w.heap.size wb.heap.size wr [.slice at0 k ct0] ol ∧ Below w.heap.size w wr ∧ wA.heap.size < wr.heap.size) (fun i _ => k - (intOf i).toNat)
          case atStart => exact ⟨⟨0, best0 xs[k], by omega, rfl, by have := hP0; simpa using this, HB0, by show _ = _; simp⟩, hF2, hb2, by simp⟩
          case round =>
            clear hP0 hF1 hF2 hb2 hbb1 HB0
            obtain ⟨⟨j, c, hj, rfl, hP, HB, HL2⟩, hF, hbz, hszz⟩ := hrel
            obtain ⟨wo, rfl⟩ : ∃ wo : World, wo = wr := ⟨_, rfl⟩
            by_cases hjk : j < k
            · have hjx : j < xs.length := by omega
              have hjt : j < (xs.take k).length := by simp; omega
              have hjd : j < dl.length := by omega
              obtain ⟨g2, off2, b2, n2, hg2, hcj, hlj⟩ := slice_text (hs.keep hbz) hjx
              obtain ⟨rfl, rfl⟩ : g = g2 ∧ off = off2 := by simpa using hg2
              obtain ⟨g3, off3, b3, n3, hg3, hck, hlk⟩ := slice_text (hs.keep hbz) hlt
              obtain ⟨rfl, rfl⟩ : g = g3 ∧ off = off3 := by simpa using hg3
              clear hg2 hg3
              have HX := Lib.hid (show (xs.take k)[j] = xs[j] from List.getElem_take)
              have HTJ := Lib.hid (show textB xs[j] = true by have := HT.out j hjk; rw [getD_at hjx] at this; exact this)
              have htj := textB_len HTJ.out
              have HDJ := Lib.hid (show dl[j] = (deepAt ol j : Int) by have := (HI.out.2.2.2.2.1 j hjk).1; rw [getD_at hjd] at this; exact this)
              have p1 := BW.cell hcj
              have p2 := BW.cell hck
              go_wp2
              refine wp_region_tail 8 (by kernel_rfl) (by kernel_rfl) ?_
              simp only [List.take_succ_cons, List.take_zero, List.drop_succ_cons, List.drop_zero]
              repeat (go_big_quiet_step (fail))
              refine wpQuiet_nil ?_
              rintro w1 ⟨⟨_, hbw⟩, rfl⟩
              obtain ⟨w2, rfl⟩ : ∃ w2 : World, w2 = w1 := ⟨_, rfl⟩
              have hP1 := hP.below (Nat.le_refl _) hbw
              have hF1 := hF.below (Nat.le_refl _) hbw
              have hbz1 := hbz.trans (hbw.mono hbz.size)
              have hlj1 := hlj.below (Nat.le_refl _) hbw
              have hlk1 := hlk.below (Nat.le_refl _) hbw
              have hz1 := hbw.size
              clear hbw p1 p2 hcj hck
              go_wp2_with fail
              refine (l13Of_any _ _ xs[j] xs[k] _ hlj1.rd hlk1.rd htj htl).mono ?_
              rintro e w3 ⟨v2, rfl, hD, hb2⟩
              obtain ⟨aD, cD, rfl, hlD⟩ := hD.shape
              have hP2 := hP1.below (Nat.le_refl _) hb2
              have hF2 := hF1.below (Nat.le_refl _) hb2
              have hbz2 := hbz1.trans (hb2.mono hbz1.size)
              have hz2 := hb2.size
              have hs1 := sizeD_of HTJ.out HTK.out
              have hs2 : sizeD c.1.pcs ≤ 110 := Nat.le_trans HB.out.1 (sizeD_of rfl HTK.out)
              obtain ⟨ab, cb, hq0, hq1, hf0, hf1, hbx1, hbx2, hlb, hib, hPb⟩ := box_packed hP2
              have q1 := BW.cell hq1
              have hs1' : sizeD (deltaOf xs[j] xs[k]) ≤ 1048576 := by omega
              have hs2' : sizeD c.1.pcs ≤ 1048576 := by omega
              have hol2 : IsSlice _ w3 at0 ct0 ol := (rd_slice_of hF2.rd2).2
              have hrol : ∀ n : BW w3, rd (fun b => w.heap.size ≤ b ∧ b < wb.heap.size) n.w [.slice at0 k ct0] ol := fun n => by
                have := (hol2.bw n).rd
                rw [hol] at this
                exact this
              by_cases hdeep : deepAt ol j < 3
              · have hdd : decide ((deepAt ol j : Int) < 3) = true := decide_eq_true (by omega)
                by_cases hlt2 : sizeD (deltaOf xs[j] xs[k]) < sizeD c.1.pcs
                · have hld : decide (sizeD (deltaOf xs[j] xs[k]) < sizeD c.1.pcs) = true := decide_eq_true hlt2
                  have hcnd : dl[j] < 3 ∧ sizeD (deltaOf (xs.take k)[j] xs[k]) < sizeD c.1.pcs := by rw [HX.out, HDJ.out]; exact ⟨by omega, hlt2⟩
                  have HN : Hid (bestL xs[k] (xs.take k) dl 0 (best0 xs[k]) = bestL xs[k] ((xs.take k).drop (j + 1)) (dl.drop (j + 1)) (j + 1) (⟨j, deltaOf xs[j] xs[k]⟩, dl[j] + 1)) := by
                    have := bestL_take HL2.out hjt hjd hcnd
                    rw [HX.out] at this; exact Lib.hid this
                  have HI2 : Hid (BestI xs[k] (xs.take k) dl (⟨j, deltaOf xs[j] xs[k]⟩, dl[j] + 1)) := by
                    have := bestI_take HB.out hjt hjd hcnd
                    rw [HX.out] at this; exact Lib.hid this
                  clear hcnd
                  go_wp2
                  refine wp_region_bw (by kernel_rfl) (by kernel_rfl) ?_
                  repeat (go_big_quiet_step ((first | (go_at_call 84; exact Calls.bw_same (l13Deep_any ol HFM j _ _ (hrol _) (by omega) (by omega))) | (go_at_call 82; (first | exact Calls.bw (l13Size_is _ _ _ (hlb.bw _).rd hs2') | exact Calls.bw (l13Size_is _ _ _ (hlD.bw _).rd hs1'))))))
                  refine wpQuiet_nil ?_
                  rintro w1 ⟨⟨_, hbw⟩, rfl⟩
                  have hP3 := hP2.below (Nat.le_refl _) hbw
                  have hF3 := hF2.below (Nat.le_refl _) hbw
                  have hD3 := hD.below (Nat.le_refl _) hbw
                  have hbz3 := hbz2.trans (hbw.mono hbz2.size)
                  have hz3 := hbw.size
                  clear q1 hq0 hq1 hf0 hf1 hlb
                  obtain ⟨ab3, cb3, hq0, hq1, hf0, hf1, _, _, _, _, _⟩ := box_packed hP3
                  have hNP : Fresh w2.heap.size w3.heap.size w1 [.int .i64 j, .slice aD (deltaOf xs[j] xs[k]).length cD] (⟨j, deltaOf xs[j] xs[k]⟩ : Packed) := Fresh.packed (p := ⟨j, deltaOf xs[j] xs[k]⟩) (by unfold I64; simp only; omega) hD3
                  have hset := (hP3.mono (m' := w2.heap.size) (Nat.le_refl _) hz1).setbox hNP (by omega)
                  have hset' : Fresh wb.heap.size ((w1.setCell ⟨wA.heap.size, 0, none⟩ (.int .i64 j)).setCell ⟨wA.heap.size, 1, none⟩ (.slice aD (deltaOf xs[j] xs[k]).length cD)).heap.size ((w1.setCell ⟨wA.heap.size, 0, none⟩ (.int .i64 j)).setCell ⟨wA.heap.size, 1, none⟩ (.slice aD (deltaOf xs[j] xs[k]).length cD)) [.pointer (some ⟨wA.heap.size, 0, none⟩)] (⟨⟨j, deltaOf xs[j] xs[k]⟩⟩ : Box Packed) := Fresh.now hset
                  clear hset
                  go_wp2
                  go_roundw
                  case rel => exact ⟨⟨j + 1, (⟨j, deltaOf xs[j] xs[k]⟩, dl[j] + 1), by omega, by go_num, hset', HI2, HN⟩, ((hF3.setCell (.inr (by show wb.heap.size ≤ wA.heap.size; omega))).setCell (.inr (by show wb.heap.size ≤ wA.heap.size; omega))), ((hbz3.setCell (by show w.heap.size ≤ wA.heap.size; omega) _).setCell (by show w.heap.size ≤ wA.heap.size; omega) _), by show wA.heap.size < (World.heap _).size; simp; omega⟩
                  case measure => simp [intOf]; omega
                · have hld : decide (sizeD (deltaOf xs[j] xs[k]) < sizeD c.1.pcs) = false := decide_eq_false hlt2
                  have HN := Lib.hid (bestL_skip HL2.out hjt hjd (by rw [HX.out]; intro h; omega))
                  go_wp2
                  refine wp_region_bw (by kernel_rfl) (by kernel_rfl) ?_
                  repeat (go_big_quiet_step ((first | (go_at_call 84; exact Calls.bw_same (l13Deep_any ol HFM j _ _ (hrol _) (by omega) (by omega))) | (go_at_call 82; (first | exact Calls.bw (l13Size_is _ _ _ (hlb.bw _).rd hs2') | exact Calls.bw (l13Size_is _ _ _ (hlD.bw _).rd hs1'))))))
                  refine wpQuiet_nil ?_
                  rintro w1 ⟨⟨_, hbw⟩, rfl⟩
                  have hP3 := hP2.below (Nat.le_refl _) hbw
                  have hF3 := hF2.below (Nat.le_refl _) hbw
                  have hbz3 := hbz2.trans (hbw.mono hbz2.size)
                  have hz3 := hbw.size
                  go_wp2
                  go_roundw
                  case rel => exact ⟨⟨j + 1, c, by omega, by go_num, hP3.mono (Nat.le_refl _) (by omega), HB, HN⟩, hF3, hbz3, by omega⟩
                  case measure => simp [intOf]; omega
              · have hdd : decide ((deepAt ol j : Int) < 3) = false := decide_eq_false (by omega)
                have HN := Lib.hid (bestL_skip HL2.out hjt hjd (by rw [HDJ.out]; intro h; omega))
                go_wp2
                refine wp_region_bw (by kernel_rfl) (by kernel_rfl) ?_
                repeat (go_big_quiet_step ((go_at_call 84; exact Calls.bw_same (l13Deep_any ol HFM j _ _ (hrol _) (by omega) (by omega)))))
                refine wpQuiet_nil ?_
                rintro w1 ⟨⟨_, hbw⟩, rfl⟩
                have hP3 := hP2.below (Nat.le_refl _) hbw
                have hF3 := hF2.below (Nat.le_refl _) hbw
                have hbz3 := hbz2.trans (hbw.mono hbz2.size)
                have hz3 := hbw.size
                go_wp2
                go_roundw
                case rel => exact ⟨⟨j + 1, c, by omega, by go_num, hP3.mono (Nat.le_refl _) (by omega), HB, HN⟩, hF3, hbz3, by omega⟩
                case measure => simp [intOf]; omega
            · have HE := Lib.hid (bestL_end HL2.out (by simp; omega))
              obtain ⟨ab, cb, hq0, hq1, hf0, hf1, hbx1, hbx2, hlb, hib, hPb⟩ := box_packed hP
              have hszo := hbz.size
              have hby1 : (ol.length + 1) * 32 ≤ 140737488355328 := by omega
              have hmx1 : ol.length + 1 ≤ maxLen := by unfold maxLen; omega
              go_wp2_with (at_builtin; go_must (refine wpList_app_one slz_packed.slt rfl (.tmp 59) (.tmp 61) rfl rfl (hF.alloc _) (le_alloc hszo _) rfl (heap_alloc_new _ _) (hPb.alloc _) hsz hby1 hmx1 ?_); intro a5 c5 w5 hG5)
              go_roundw
              case rel =>
                refine ⟨⟨k + 1, ol ++ [c.1], dl ++ [c.2], by omega, by go_num, ?_, Lib.hid (pkI_next HI.out hlt (fun i hi => HT2.out i (by omega)) HB.out), HT2, Lib.hid (fun ht => packF_next (HA.out ht) hlt HE.out), HLN⟩, (hbz.alloc hszo _).trans hG5.below⟩
                have := hG5.fresh
                simp only [hol] at this
                exact this
              case measure => simp [intOf]; omega
      · have HE := Lib.hid (packF_end (HA.out (all_end HL.out hlt)) hlt)
        go_wp2
        go_ret
        exact ⟨_, rfl, by rw [HE.out]; exact hF, hb⟩
end Go.Proofs.Ytjfhbepnomnalaa
