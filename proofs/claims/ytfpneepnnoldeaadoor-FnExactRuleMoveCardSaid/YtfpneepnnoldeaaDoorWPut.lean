/-
  Walks: a file put into a tree, as the program does it.
-/
import Derived.Test.YtfpneepnnoldeaaDoorWCTree
import Derived.Test.YtfpneepnnoldeaaDoorWCopy
import Derived.Test.YtfpneepnnoldeaaDoorWIns
import Derived.Test.YtfpneepnnoldeaaDoorVPB
set_option linter.unusedVariables false
namespace Go.Proofs.YtfpneepnnoldeaaDoor
open Go.RowKit Go.Vc
open Go.Vc.Rep (rd)
open Go.Vc.Own (own)
set_option maxHeartbeats 8000000 in
set_option maxRecDepth 100000 in
theorem implPut {S T : Nat → Prop} (v : Value) (t : List File) (p : ByteArray) (tv : Value) (tx : List ByteArray) (w : World) (hv : rd S w [v] t) (ha : AscF t) (hl : t.length ≤ 900) (hx : ∀ f, f ∈ t → f.text.length ≤ 10) (hz : p.size ≤ maxLen) (ht : rd T w [tv] tx) (htx : tx.length ≤ 1000) :
    Calls Tryd.prog 76 #[v, .agg #[.string p, tv]] w fun e w' => ∃ v', e = .returned (.tuple #[v', .bool (decide ((setT t ⟨p, tx⟩).length = t.length + 1))]) ∧ Fresh w.heap.size w'.heap.size w' [v'] (setT t ⟨p, tx⟩) ∧ Below w.heap.size w w' := by
  obtain ⟨a, cap, rfl, hs⟩ := rd_slice_elim (Rep.lt hv)
  obtain ⟨at_, ct, rfl, hts0⟩ := rd_slice_elim (Rep.lt ht)
  obtain ⟨K, hK, hKl, hcase⟩ := put_is ha ⟨p, tx⟩
  obtain ⟨wb, hwb⟩ : ∃ wb, wb = w.alloc (.cells #[.string p, .slice at_ tx.length ct] 45) := ⟨_, rfl⟩
  obtain ⟨hB0, hsb, hq⟩ := boxed (vs := [.string p, .slice at_ tx.length ct]) hwb
  have q0 := hq 0 _ rfl
  have q1 := hq 1 _ rfl
  have HW := Lib.hid hwb
  have hsz0 : w.heap.size < wb.heap.size := by omega
  clear hq hwb hsb hv ht
  go_enter Tryd.func76, Tryd.ntmps76
  go_wp2_with fail
  rw [← HW.out]
  refine (copyTree_any _ t _ (hs.keep hB0).rd (by omega) hx).mono ?_
  rintro e w2 ⟨vc, rfl, hC, hb1⟩
  have hs1 := hb1.size
  have q0 := keepc q0 hb1
  have q1 := keepc q1 hb1
  obtain ⟨a1, c1, rfl, _⟩ := hC.shape
  have hB1 := hB0.trans (hb1.mono hB0.size)
  have HK : Hid (K = putK p t t.length) := hK
  have HC := Lib.hid hcase
  clear hb1 HW hs hx ha hcase hK hB0
  go_wp2
  go_loopw [7] (fun i wr => (∃ j : Nat, j ≤ t.length ∧ i = .int .i64 j ∧ Hid (K = putK p t j)) ∧ Below w2.heap.size w2 wr) (fun i _ => (intOf i).toNat)
  case atStart => exact ⟨⟨t.length, by omega, rfl, HK.out⟩, Below.refl _ _⟩
  case round =>
    obtain ⟨⟨j, hj, rfl, HA⟩, hbr⟩ := hrel
    have hC := (hC.below (Nat.le_refl _) hbr)
    have q0 := keepc q0 hbr
    have q1 := keepc q1 hbr
    have hts := hts0.keep (hB1.trans (hbr.mono hB1.size))
    have hB := hB1.trans (hbr.mono hB1.size)
    have hsr := hbr.size
    clear HK hB1
    obtain ⟨wx, rfl⟩ : ∃ wx : World, wx = wr := ⟨_, rfl⟩
    have h3 : (K = j ∧ ¬ 0 < j) ∨ (∃ i, ∃ h : i < t.length, (j : Int) - 1 = (i : Int) ∧ 0 < j ∧ K = j ∧ lessB t[i].path p = true) ∨ (∃ i, ∃ h : i < t.length, j = i + 1 ∧ K = putK p t i ∧ lessB t[i].path p = false) := by
      cases j with
      | zero => exact .inl ⟨HA.out, by omega⟩
      | succ i =>
        cases hl : lessB (t[i]'(by omega)).path p with
        | true => exact .inr (.inl ⟨i, by omega, by omega, by omega, putK_stop HA.out (by omega) hl, hl⟩)
        | false => exact .inr (.inr ⟨i, by omega, rfl, putK_next HA.out (by omega) hl, hl⟩)
    clear HA
    rcases h3 with ⟨h3, h30⟩ | ⟨i, hi, hij, hj0, h3, hls⟩ | ⟨i, hi, rfl, h3, hls⟩
    case' inr.inr =>
      obtain ⟨g, off, at2, ct2, he, hc1, _⟩ := (rd_slice_of hC.rd2).2.file hi
      subst he
      have hl' : Op.bytesLess t[i].path.toList p.toList = false := hls
      obtain ⟨f, hf⟩ : ∃ f, f = t[i] := ⟨_, rfl⟩
      rw [← hf] at hc1 hl'
      have e0 := BW.cell q0
      have e1 := BW.cell hc1
      have HN := Lib.hid h3
      have hpos : decide ((0 : Int) < (i : Int) + 1) = true := decide_eq_true (by omega)
      clear hls hf h3
      go_wp2
      refine wp_region_bw (by kernel_rfl) (by kernel_rfl) ?_
      repeat (go_big_quiet_step (fail))
      refine wpQuiet_nil ?_
      rintro w1 ⟨⟨_, hbw⟩, rfl⟩
      go_wp2
      go_roundw
      case rel => exact ⟨⟨i, by omega, by go_num, HN.out⟩, hbr.trans (hbw.mono (by have := hbr.size; omega))⟩
      case measure => simp [intOf] <;> omega
    case' inl =>
      have hpos : decide ((0 : Int) < (j : Int)) = false := decide_eq_false (by omega)
      go_wp2
      refine wp_region_bw (by kernel_rfl) (by kernel_rfl) ?_
      repeat (go_big_quiet_step (fail))
      refine wpQuiet_nil ?_
      rintro w1 ⟨⟨_, hbw⟩, rfl⟩
    case' inr.inl =>
      obtain ⟨g, off, at2, ct2, he, hc1, _⟩ := (rd_slice_of hC.rd2).2.file hi
      have hl' : Op.bytesLess t[i].path.toList p.toList = true := hls
      obtain ⟨f, hf⟩ : ∃ f, f = t[i] := ⟨_, rfl⟩
      rw [← hf] at hc1 hl'
      obtain ⟨a9, ha9⟩ : ∃ a9, a9 = a1 := ⟨_, rfl⟩
      rw [← ha9] at he
      have HE := Lib.hid ha9
      clear ha9
      have e0 := BW.cell q0
      have e1 := BW.cell hc1
      have hpos : decide ((0 : Int) < (j : Int)) = true := decide_eq_true (by omega)
      have hw : IntKind.i64.wrap ((j : Int) - 1) = (i : Int) := by rw [hij]; exact IntWalk.i64_in _ (by omega)
      have hHE := HE.out
      subst he
      subst hHE
      clear hls hf HE
      go_wp2
      refine wp_region_bw (by kernel_rfl) (by kernel_rfl) ?_
      repeat (go_big_quiet_step (fail))
      refine wpQuiet_nil ?_
      rintro w1 ⟨⟨_, hbw⟩, rfl⟩
      clear e0 e1 hc1 hl' hw hij
      obtain ⟨a1, ha1⟩ : ∃ a1, a1 = (some ⟨g, off, none⟩ : Option Addr) := ⟨_, rfl⟩
      rw [← ha1] at hC ⊢
      clear ha1
    all_goals
      subst h3
      have hC := (hC.below (Nat.le_refl _) hbw)
      have q0 := keepc q0 hbw
      have q1 := keepc q1 hbw
      have hB := hB.trans (hbw.mono hB.size)
      have hs2 := hbr.size
      have hs3 := hbw.size
      have hts := hts0.keep hB
      clear hbw hbr hpos
      obtain ⟨wo, hwo⟩ : ∃ wo : World, wo = w1 := ⟨_, rfl⟩
      subst hwo
      have K0 := And.intro q0 q1
      go_wp2_with fail
      go_region_held3 (fun w' => w'.cell? ⟨w.heap.size, 0, none⟩ = some (.string p) ∧ w'.cell? ⟨w.heap.size, 1, none⟩ = some (.slice at_ tx.length ct))
        (first | exact ⟨keepc KA.1 ((Below.refl _ _).alloc (Nat.le_refl _) _), keepc KA.2 ((Below.refl _ _).alloc (Nat.le_refl _) _)⟩ | exact KA | exact K0 | exact ⟨keepc q0 ((hbV.setCell (p := ⟨wo.heap.size, 0, none⟩) (Nat.le_refl _) _).setCell (p := ⟨wo.heap.size, 1, none⟩) (Nat.le_refl _) _), keepc q1 ((hbV.setCell (p := ⟨wo.heap.size, 0, none⟩) (Nat.le_refl _) _).setCell (p := ⟨wo.heap.size, 1, none⟩) (Nat.le_refl _) _)⟩ | go_keep)
        (first
          | (go_at_call 103; refine (copyText_any _ tx _ (Rep.drew hts.rd) (by omega)).mono ?_; rintro e wA ⟨aA, cA, rfl, hA, hbA⟩; have hszA := hbA.size; have KA := And.intro (BW.cell (w := wo.drew) q0 ⟨wA, hbA⟩) (BW.cell (w := wo.drew) q1 ⟨wA, hbA⟩); have hO1 := True.intro)
          | (go_at_call 103; go_must (refine (copyText_any _ tx _ (Rep.drew (Rep.alloc hts.rd (.cells #[.string ⟨#[]⟩, .slice none 0 0] 45))) (by omega)).mono ?_); rintro e wA ⟨aA, cA, rfl, hA, hbA⟩; have hszA := hbA.size; have hbV := ((Below.refl wo.heap.size wo).alloc (Nat.le_refl _) (.cells #[.string ⟨#[]⟩, .slice none 0 0] 45)).drew.trans (hbA.mono (by simp)); have KA := And.intro (keepc q0 hbV) (keepc q1 hbV); have hbx9 := (hbA.block wo.heap.size (by simp)).trans (heap_alloc_new wo (.cells #[.string ⟨#[]⟩, .slice none 0 0] 45)); have x0 := (cell_of_row wA wo.heap.size 0 _ _ (0, 0) hbx9); have x1 := (cell_of_row wA wo.heap.size 1 _ _ (0, 0) hbx9); have z0 := frozen_of_row wA wo.heap.size 0 _ _ hbx9; have z1 := frozen_of_row wA wo.heap.size 1 _ _ hbx9; simp at x0 x1; have hO2 := True.intro))
      any_goals (
        have hm := hO1
        have hzx : wo.heap.size ≤ wA.heap.size := hszA
        obtain ⟨wz, hwz⟩ : ∃ wz, wz = wA.alloc (.cells #[.string p, .slice aA tx.length cA] 45) := ⟨_, rfl⟩
        have hbox : wz.heap[wA.heap.size]? = some (.cells #[.string p, .slice aA tx.length cA] 45 (0, 0)) := (by rw [hwz]; exact heap_alloc_new _ _)
        have hbz : Below wo.heap.size wo wz := (by rw [hwz]; exact ((Below.refl _ _).drew.trans (hbA.mono (by simp))).alloc hzx _)
        have hAz : Fresh wo.heap.size wz.heap.size wz [.slice aA tx.length cA] tx := (by rw [hwz]; exact (hA.alloc _).mono (by simp) (by simp))
        have hKz : wz.cell? ⟨w.heap.size, 0, none⟩ = some (.string p) ∧ wz.cell? ⟨w.heap.size, 1, none⟩ = some (.slice at_ tx.length ct) := (by rw [hwz]; exact ⟨keepc KA.1 ((Below.refl _ _).alloc (Nat.le_refl _) _), keepc KA.2 ((Below.refl _ _).alloc (Nat.le_refl _) _)⟩)
        obtain ⟨cb, hcb⟩ : ∃ cb, cb = wA.heap.size := ⟨_, rfl⟩
        rw [← hcb] at hbox
        clear hm hO1 KA hA hbA hszA hzx
        rw [← hwz, ← hcb])
      any_goals (
        have hm := hO2
        obtain ⟨wz, hwz⟩ : ∃ wz, wz = (wA.setCell ⟨wo.heap.size, 0, none⟩ (.string p)).setCell ⟨wo.heap.size, 1, none⟩ (.slice aA tx.length cA) := ⟨_, rfl⟩
        have hbox : wz.heap[wo.heap.size]? = some (.cells #[.string p, .slice aA tx.length cA] 45 (0, 0)) := (by rw [hwz]; exact heap_setCell_same _ _ 1 _ _ _ (heap_setCell_same _ _ 0 _ _ _ hbx9))
        have hbz : Below wo.heap.size wo wz := (by rw [hwz]; exact (hbV.setCell (p := ⟨wo.heap.size, 0, none⟩) (Nat.le_refl _) _).setCell (p := ⟨wo.heap.size, 1, none⟩) (Nat.le_refl _) _)
        have hAz : Fresh wo.heap.size wz.heap.size wz [.slice aA tx.length cA] tx := (by rw [hwz]; exact (((hA.mono (B' := wo.heap.size + 1) (by simp) (Nat.le_refl _)).setCell (.inl (Nat.lt_succ_self _))).setCell (.inl (Nat.lt_succ_self _))).mono (by omega) (by simp))
        have hKz : wz.cell? ⟨w.heap.size, 0, none⟩ = some (.string p) ∧ wz.cell? ⟨w.heap.size, 1, none⟩ = some (.slice at_ tx.length ct) := ⟨keepc q0 hbz, keepc q1 hbz⟩
        obtain ⟨cb, hcb⟩ : ∃ cb, cb = wo.heap.size := ⟨_, rfl⟩
        rw [← hcb] at hbox
        clear hm hO2 KA hA hbA hszA hbV x0 x1 z0 z1 hbx9
        rw [← hwz, ← hcb])
      all_goals
        have hsz := hbz.size
        have hC := (hC.below (Nat.le_refl _) hbz)
        have q0 := hKz.1
        have hBz := hB.trans (hbz.mono hB.size)
        have hy : Fresh w2.heap.size wz.heap.size wz [.string p, .slice aA tx.length cA] (⟨p, tx⟩ : File) := Fresh.file (p := ⟨p, tx⟩) hz (hAz.mono (by omega) (Nat.le_refl _))
        have hcl := (Array.getElem?_eq_some_iff.1 hbox).1
        have b0 : wz.cell? ⟨cb, 0, none⟩ = some (.string p) := by rw [cell_of_row wz cb 0 _ _ (0, 0) hbox]; rfl
        have b1 : wz.cell? ⟨cb, 1, none⟩ = some (.slice aA tx.length cA) := by rw [cell_of_row wz cb 1 _ _ (0, 0) hbox]; rfl
        have hw2z : w2.heap.size ≤ wz.heap.size := by omega
        clear hKz hAz hbz hbox hts hs2 hs3 hwz hcb K0 hB
        rcases HC.out with ⟨hk, hkp, hset, hlen⟩ | ⟨hkp, hset, hlen⟩
        · obtain ⟨g7, he7, _⟩ := hC.addr (by omega)
          cases he7
          obtain ⟨g8, off8, at8, ct8, he8, hc1, _⟩ := (rd_slice_of hC.rd2).2.file hk
          cases he8
          rw [Nat.zero_add] at hc1
          have hd : decide (t[K].path = p) = true := decide_eq_true hkp
          obtain ⟨f, hf⟩ : ∃ f, f = t[K] := ⟨_, rfl⟩
          rw [← hf] at hc1 hd
          have e0 := BW.cell q0
          have e1 := BW.cell hc1
          clear hf
          go_wp2
          refine wp_region_bw (by kernel_rfl) (by kernel_rfl) ?_
          repeat (go_big_quiet_step (fail))
          refine wpQuiet_nil ?_
          rintro w1 ⟨⟨_, hbw⟩, rfl⟩
          have hC := (hC.below (Nat.le_refl _) hbw)
          have hy := hy.below (Nat.le_refl _) hbw
          have b0 := keepc b0 hbw
          have b1 := keepc b1 hbw
          have hBw := hBz.trans (hbw.mono hBz.size)
          have hszw := hbw.size
          obtain ⟨u0, u1, k0, k1, z0, z1⟩ := hC.cells2 rfl hk
          have hF := (hC.setN hk hy (by omega))
          have hB9 : Below w.heap.size w (setCellsAt w1 g7 (K * Rep.sz File) [.string p, .slice aA tx.length cA]) := setCellsAt_below g7 (by have := (hC.there hk (j := 0) (by decide)).2.2; omega) _ _ _ hBw
          have HF9 := Lib.hid hF
          clear e0 e1 hc1 hd hF hkp hy hC
          go_wp2
          go_ret2
          exact ⟨.slice (some ⟨g7, 0, none⟩) t.length c1, by rw [decide_eq_false (by omega)]; rfl, by rw [hset]; exact HF9.out.mono (by omega) (Nat.le_refl _), hB9⟩
        · by_cases hk : K < t.length
          · obtain ⟨g7, he7, _⟩ := hC.addr (by omega)
            cases he7
            obtain ⟨g8, off8, at8, ct8, he8, hc1, _⟩ := (rd_slice_of hC.rd2).2.file hk
            cases he8
            rw [Nat.zero_add] at hc1
            have hd : decide (t[K].path = p) = false := decide_eq_false (hkp hk)
            obtain ⟨f, hf⟩ : ∃ f, f = t[K] := ⟨_, rfl⟩
            rw [← hf] at hc1 hd
            have e0 := BW.cell q0
            have e1 := BW.cell hc1
            clear hf hkp
            go_wp2
            refine wp_region_bw (by kernel_rfl) (by kernel_rfl) ?_
            repeat (go_big_quiet_step (fail))
            refine wpQuiet_nil ?_
            rintro w1 ⟨⟨_, hbw⟩, rfl⟩
            have hC := (hC.below (Nat.le_refl _) hbw)
            have hy := hy.below (Nat.le_refl _) hbw
            have b0 := keepc b0 hbw
            have b1 := keepc b1 hbw
            have hBw := hBz.trans (hbw.mono hBz.size)
            have hszw := hbw.size
            clear e0 e1 hc1 hd
            go_wp2_with fail
            refine (insert_file (B := wb.heap.size) (m := w2.heap.size) (vs := [.string p, .slice aA tx.length cA]) (y := ⟨p, tx⟩) _ K t _ (hC.alloc _) (by simp; omega) (heap_alloc_new _ _) (hy.alloc _) (by omega) (by omega) (by omega) hKl).mono ?_
            rintro e w9 ⟨a9, c9, rfl, hF, hb9⟩
            have hb8 := (Below.refl w1.heap.size w1).alloc (Nat.le_refl _) (.cells #[.string p, .slice aA tx.length cA] 45)
            have hB9 : Below w.heap.size w w9 := (hBw.alloc hBw.size _).trans (hb9.mono (by omega))
            go_wp2
            go_ret2
            exact ⟨.slice a9 (t.length + 1) c9, by rw [decide_eq_true hlen]; rfl, by rw [hset]; exact hF.mono (by omega) (Nat.le_refl _), hB9⟩
          · have hk' : decide (K < t.length) = false := decide_eq_false hk
            clear hkp
            go_wp2
            refine wp_region_bw (by kernel_rfl) (by kernel_rfl) ?_
            repeat (go_big_quiet_step (fail))
            refine wpQuiet_nil ?_
            rintro w1 ⟨⟨_, hbw⟩, rfl⟩
            have hC := (hC.below (Nat.le_refl _) hbw)
            have hy := hy.below (Nat.le_refl _) hbw
            have b0 := keepc b0 hbw
            have b1 := keepc b1 hbw
            have hBw := hBz.trans (hbw.mono hBz.size)
            have hszw := hbw.size
            go_wp2_with fail
            refine (insert_file (B := wb.heap.size) (m := w2.heap.size) (vs := [.string p, .slice aA tx.length cA]) (y := ⟨p, tx⟩) _ K t _ (hC.alloc _) (by simp; omega) (heap_alloc_new _ _) (hy.alloc _) (by omega) (by omega) (by omega) hKl).mono ?_
            rintro e w9 ⟨a9, c9, rfl, hF, hb9⟩
            have hb8 := (Below.refl w1.heap.size w1).alloc (Nat.le_refl _) (.cells #[.string p, .slice aA tx.length cA] 45)
            have hB9 : Below w.heap.size w w9 := (hBw.alloc hBw.size _).trans (hb9.mono (by omega))
            go_wp2
            go_ret2
            exact ⟨.slice a9 (t.length + 1) c9, by rw [decide_eq_true hlen]; rfl, by rw [hset]; exact hF.mono (by omega) (Nat.le_refl _), hB9⟩
end Go.Proofs.YtfpneepnnoldeaaDoor
