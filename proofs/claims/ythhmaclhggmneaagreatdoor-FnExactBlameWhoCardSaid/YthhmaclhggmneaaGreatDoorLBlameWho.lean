/-
  The walk of the law 'FnExactBlameWho'.
-/
import Derived.Test.YthhmaclhggmneaaGreatDoorVG
import Derived.Test.YthhmaclhggmneaaGreatDoorVF
import Derived.Test.YthhmaclhggmneaaGreatDoorVH
import Derived.Deep.RegionHeld3
import Derived.Test.YthhmaclhggmneaaGreatDoorVW2
set_option linter.unusedVariables false
namespace Go.Proofs.YthhmaclhggmneaaGreatDoor
open Go.RowKit Go.Vc
open Go.Vc.Rep (rd)
open Go.Vc.Own (own)

set_option maxHeartbeats 4000000 in
set_option maxRecDepth 100000 in
theorem lawBlameWho (x0 : Repo) (v00 v01 : Value) (x1 : Int) (x2 : ByteArray) (w : World) (h00 : rd (fun b => b < w.heap.size) w [v00] x0.commits) (h01 : rd (fun b => b < w.heap.size) w [v01] x0.heads) (h1 : I64 x1) (h2 : x2.size ≤ maxLen) (hM : ML w) :
    Calls Tryz.prog 3 #[.agg #[v00, v01], .int .i64 x1, .string x2] w fun e w' => e = .returned (.bool true) ∧ Below w.heap.size w w' := by
  have HB : Below w.heap.size w (w.alloc (.cells #[v00, v01] 25)) := ((Below.refl _ _).alloc (by simp <;> omega) _)
  have q0 : (w.alloc (.cells #[v00, v01] 25)).cell? ⟨w.heap.size, 0, none⟩ = some v00 := by rw [cell_of_row _ _ 0 _ _ (0, 0) (heap_alloc_new _ _)]; rfl
  have q1 : (w.alloc (.cells #[v00, v01] 25)).cell? ⟨w.heap.size, 1, none⟩ = some v01 := by rw [cell_of_row _ _ 1 _ _ (0, 0) (heap_alloc_new _ _)]; rfl
  have h00 := Rep.below h00 (Nat.le_refl _) HB
  have h01 := Rep.below h01 (Nat.le_refl _) HB
  have hs0 : (w.alloc (.cells #[v00, v01] 25)).heap.size = w.heap.size + 1 := by simp
  have hM0 := hM
  have hM := hM.keep HB
  go_enter Tryz.func3, Tryz.ntmps3
  by_cases hn2 : 1048576 < x2.size
  · go_wp2
    go_ret
    exact ⟨rfl, HB⟩
  · have hx2 : x2.size ≤ 1048576 := by omega
    go_wp2_with fail
    refine (sz1_repo x0 v00 v01 1048576 _ h00 h01 (by decide) (by decide)).mono ?_
    rintro e w1 ⟨rfl, hb1⟩
    have hs1 := hb1.size
    have h00 := Rep.below h00 (Nat.le_refl _) hb1
    have h01 := Rep.below h01 (Nat.le_refl _) hb1
    have hM := ML.keep hM hb1
    have q0 := keepc q0 hb1
    have q1 := keepc q1 hb1
    have HB := HB.trans (Below.mono hb1 HB.size)
    by_cases hn : sub 1048576 (bulk1_repo x0) < 0
    · go_wp2
      go_ret
      exact ⟨rfl, HB⟩
    · obtain ⟨hz1, hz2, hz3⟩ := sub_facts (by decide) hn
      have hl : bulk_C x0.commits + bulk_H x0.heads ≤ 1048576 := by have e : bulk1_repo x0 = bulk_C x0.commits + bulk_H x0.heads := rfl; omega
      have hlc : bulk_C x0.commits ≤ 1048576 := by omega
      have hlh : bulk_H x0.heads ≤ 1048576 := by omega
      have hS := repo_short hlc
      clear hz1 hz2 hz3
      go_wp2_with fail
      refine (to1_repo x0 _ _ _ h00 h01 hlc hlh).mono ?_
      rintro e w2 ⟨Aa0, Ac0, Aa1, Ac1, Am, rfl, AC, AH, Ag1, Ag2, hb2⟩
      have hs2 := hb2.size
      have h00 := Rep.below h00 (Nat.le_refl _) hb2
      have h01 := Rep.below h01 (Nat.le_refl _) hb2
      have hM := ML.keep hM hb2
      have q0 := keepc q0 hb2
      have q1 := keepc q1 hb2
      have HB := HB.trans (Below.mono hb2 HB.size)
      go_wp2_with fail
      refine (specBlameWho x0 _ _ x1 x2 _ AC.rd AH.rd h1 hx2 hS hM).mono ?_
      rintro e w3 ⟨Wv0, rfl, W0, hb3⟩
      have hs3 := hb3.size
      have h00 := Rep.below h00 (Nat.le_refl _) hb3
      have h01 := Rep.below h01 (Nat.le_refl _) hb3
      have hM := ML.keep hM hb3
      have q0 := keepc q0 hb3
      have q1 := keepc q1 hb3
      have AC := Fresh.below AC (Nat.le_refl _) hb3
      have AH := Fresh.below AH (Nat.le_refl _) hb3
      have HB := HB.trans (Below.mono hb3 HB.size)
      clear AC AH
      go_wp2_with fail
      refine (to1_repo x0 _ _ _ h00 h01 hlc hlh).mono ?_
      rintro e w4 ⟨Xa0, Xc0, Xa1, Xc1, Xm, rfl, XC, XH, Xg1, Xg2, hb4⟩
      have hs4 := hb4.size
      have h00 := Rep.below h00 (Nat.le_refl _) hb4
      have h01 := Rep.below h01 (Nat.le_refl _) hb4
      have hM := ML.keep hM hb4
      have q0 := keepc q0 hb4
      have q1 := keepc q1 hb4
      have W0 := Fresh.below W0 (Nat.le_refl _) hb4
      have HB := HB.trans (Below.mono hb4 HB.size)
      have p0 : (w4.alloc (.cells #[.slice Xa0 x0.commits.length Xc0, .slice Xa1 x0.heads.length Xc1] 32)).cell? ⟨w4.heap.size, 0, none⟩ = some (.slice Xa0 x0.commits.length Xc0) := by rw [cell_of_row _ _ 0 _ _ (0, 0) (heap_alloc_new _ _)]; rfl
      have p1 : (w4.alloc (.cells #[.slice Xa0 x0.commits.length Xc0, .slice Xa1 x0.heads.length Xc1] 32)).cell? ⟨w4.heap.size, 1, none⟩ = some (.slice Xa1 x0.heads.length Xc1) := by rw [cell_of_row _ _ 1 _ _ (0, 0) (heap_alloc_new _ _)]; rfl
      have hbx := (Below.refl w4.heap.size w4).alloc (Nat.le_refl _) (.cells #[.slice Xa0 x0.commits.length Xc0, .slice Xa1 x0.heads.length Xc1] 32)
      have hsx := hbx.size
      have h00 := Rep.below h00 (Nat.le_refl _) hbx
      have h01 := Rep.below h01 (Nat.le_refl _) hbx
      have hM := ML.keep hM hbx
      have q0 := keepc q0 hbx
      have q1 := keepc q1 hbx
      have W0 := Fresh.below W0 (Nat.le_refl _) hbx
      have XC := Fresh.below XC (Nat.le_refl _) hbx
      have XH := Fresh.below XH (Nat.le_refl _) hbx
      have HB := HB.trans (Below.mono hbx HB.size)
      go_wp2_with fail
      refine (implBlameWho x0 _ _ x1 x2 _ XC.rd XH.rd h1 hx2 hS hM).mono ?_
      rintro e w5 ⟨Gv0, rfl, G0, hb5⟩
      have hs5 := hb5.size
      have h00 := Rep.below h00 (Nat.le_refl _) hb5
      have h01 := Rep.below h01 (Nat.le_refl _) hb5
      have hM := ML.keep hM hb5
      have q0 := keepc q0 hb5
      have q1 := keepc q1 hb5
      have W0 := Fresh.below W0 (Nat.le_refl _) hb5
      have XC := Fresh.below XC (Nat.le_refl _) hb5
      have XH := Fresh.below XH (Nat.le_refl _) hb5
      have p0 := keepc p0 hb5
      have p1 := keepc p1 hb5
      have HB := HB.trans (Below.mono hb5 HB.size)
      have hee : decide (x0 = x0) = true := decide_eq_true rfl
      go_wp2_with fail
      refine (eq_Sh _ _ _ _ _ G0.rd W0.rd).mono ?_
      rintro e w6 ⟨rfl, hb6⟩
      have hs6 := hb6.size
      have h00 := Rep.below h00 (Nat.le_refl _) hb6
      have h01 := Rep.below h01 (Nat.le_refl _) hb6
      have hM := ML.keep hM hb6
      have q0 := keepc q0 hb6
      have q1 := keepc q1 hb6
      have W0 := Fresh.below W0 (Nat.le_refl _) hb6
      have XC := Fresh.below XC (Nat.le_refl _) hb6
      have XH := Fresh.below XH (Nat.le_refl _) hb6
      have p0 := keepc p0 hb6
      have p1 := keepc p1 hb6
      have G0 := Fresh.below G0 (Nat.le_refl _) hb6
      have HB := HB.trans (Below.mono hb6 HB.size)
      go_wp2
      go_region_held3 (fun w' => w'.cell? ⟨w.heap.size, 0, none⟩ = some (v00) ∧ w'.cell? ⟨w.heap.size, 1, none⟩ = some (v01) ∧ w'.cell? ⟨w4.heap.size, 0, none⟩ = some (.slice Xa0 x0.commits.length Xc0) ∧ w'.cell? ⟨w4.heap.size, 1, none⟩ = some (.slice Xa1 x0.heads.length Xc1))
        (first | go_keep | exact K7 | exact K6 | exact ⟨q0, q1, p0, p1⟩)
        (first
          | (go_at_call 6; refine (to1_repo x0 _ _ _ (Rep.drew h00) (Rep.drew h01) hlc hlh).mono ?_; rintro e wa ⟨Ya0, Yc0, Ya1, Yc1, Ym, rfl, YC, YH, Yg1, Yg2, hba⟩; have K6 := And.intro (BW.cell (w := w6.drew) q0 ⟨wa, hba⟩) (And.intro (BW.cell (w := w6.drew) q1 ⟨wa, hba⟩) (And.intro (BW.cell (w := w6.drew) p0 ⟨wa, hba⟩) (BW.cell (w := w6.drew) p1 ⟨wa, hba⟩))))
          | (go_at_call 9; refine (eq1_repo x0 x0 _ _ _ _ _ (Rep.lt (XC.drew.below (Nat.le_refl _) hba).rd) (Rep.lt (YC.below (Nat.le_refl _) (Below.refl _ _)).rd) (Rep.lt (XH.drew.below (Nat.le_refl _) hba).rd) (Rep.lt YH.rd)).mono ?_; rintro e wc ⟨rfl, hbc⟩; have K7 := And.intro (BW.cell (w := wa) K6.1 ⟨wc, hbc⟩) (And.intro (BW.cell (w := wa) K6.2.1 ⟨wc, hbc⟩) (And.intro (BW.cell (w := wa) K6.2.2.1 ⟨wc, hbc⟩) (BW.cell (w := wa) K6.2.2.2 ⟨wc, hbc⟩)))))
      all_goals
        have hb9 : Below w6.heap.size w6 wc := (Below.refl _ _).drew.trans ((hba.mono (by simp)).trans (hbc.mono (by have := hba.size; simp at *; omega)))
        have h00 := Rep.below h00 (Nat.le_refl _) hb9
        have h01 := Rep.below h01 (Nat.le_refl _) hb9
        have hM := ML.keep hM hb9
        have q0 := keepc q0 hb9
        have q1 := keepc q1 hb9
        have W0 := Fresh.below W0 (Nat.le_refl _) hb9
        have XC := Fresh.below XC (Nat.le_refl _) hb9
        have XH := Fresh.below XH (Nat.le_refl _) hb9
        have p0 := keepc p0 hb9
        have p1 := keepc p1 hb9
        have G0 := Fresh.below G0 (Nat.le_refl _) hb9
        have HB := HB.trans (Below.mono hb9 HB.size)
        have hs9 := hb9.size
        clear K6 K7
        have hcC := cnt_C_le x0.commits
        have hcH := cnt_H_le x0.heads
        obtain ⟨FXC, oXC, nXC, rXC⟩ := XC
        obtain ⟨FXH, oXH, nXH, rXH⟩ := XH
        have rX : ∀ b, b ∈ FXC ++ FXH → w3.heap.size ≤ b ∧ b < w4.heap.size := fun b hb => by rcases List.mem_append.1 hb with h | h; have := rXC b h; omega; have := rXH b h; omega
        have hdX : ∀ b, b ∈ FXC → b ∉ FXH := fun b h1 h2 => by have := rXC b h1; have := rXH b h2; omega
        go_wp2_with fail
        refine (mark1_repo x0 _ _ (1) _ oXC nXC oXH nXH hdX (by omega) (by omega)).mono ?_
        rintro e w7 ⟨rfl, MXC, MXH, SX⟩
        have h00 := TouchF.args SX rX h00 (by omega)
        have h01 := TouchF.args SX rX h01 (by omega)
        have hM := hM0.keep (HB.trans (SX.below HB.size (fun b hb => by have := (rX b hb).1; omega)))
        have q0 := TouchF.cellAt SX rX q0 (by omega)
        have q1 := TouchF.cellAt SX rX q1 (by omega)
        have W0 := TouchF.fresh SX rX W0 (by omega)
        have p0 := TouchF.cellAt SX rX p0 (by omega)
        have p1 := TouchF.cellAt SX rX p1 (by omega)
        have G0 := TouchF.fresh SX rX G0 (by omega)
        have hs7 := SX.size
        have HB := HB.trans (SX.below HB.size (fun b hb => by have := (rX b hb).1; omega))
        clear oXC oXH nXC nXH hdX
        clear MXC MXH SX
        clear p0 p1
        go_wp2_with fail
        refine (eq_Sh _ _ _ _ _ G0.rd W0.rd).mono ?_
        rintro e w8 ⟨rfl, hb8⟩
        have hs8 := hb8.size
        have h00 := Rep.below h00 (Nat.le_refl _) hb8
        have h01 := Rep.below h01 (Nat.le_refl _) hb8
        have hM := ML.keep hM hb8
        have q0 := keepc q0 hb8
        have q1 := keepc q1 hb8
        have W0 := Fresh.below W0 (Nat.le_refl _) hb8
        have G0 := Fresh.below G0 (Nat.le_refl _) hb8
        have HB := HB.trans (Below.mono hb8 HB.size)
        have hr0 : cnt_Sh (blameWho x0 x1 x2) ≤ 1000000 := by have := blameWho_cnt x0 x1 x2; omega
        obtain ⟨FG0, oG0, nG0, rG0⟩ := G0
        go_wp2_with fail
        refine (mark_Sh _ _ (1) _ oG0 nG0 (by omega) (by omega)).mono ?_
        rintro e w9 ⟨rfl, SG0⟩
        have h00 := TouchF.args SG0.touch rG0 h00 (by omega)
        have h01 := TouchF.args SG0.touch rG0 h01 (by omega)
        have hM := hM0.keep (HB.trans (SG0.touch.below HB.size (fun b hb => by have := (rG0 b hb).1; omega)))
        have q0 := TouchF.cellAt SG0.touch rG0 q0 (by omega)
        have q1 := TouchF.cellAt SG0.touch rG0 q1 (by omega)
        have W0 := TouchF.fresh SG0.touch rG0 W0 (by omega)
        have hs9 := SG0.touch.size
        have HB := HB.trans (SG0.touch.below HB.size (fun b hb => by have := (rG0 b hb).1; omega))
        have H0 := SG0.rdlt
        clear oG0 nG0 SG0
        go_wp2_with fail
        refine (held_Sh _ (blameWho x0 x1 x2) (1) _ H0 (by omega) (by omega)).mono ?_
        rintro e w10 ⟨rfl, hb10⟩
        have hs10 := hb10.size
        have h00 := Rep.below h00 (Nat.le_refl _) hb10
        have h01 := Rep.below h01 (Nat.le_refl _) hb10
        have hM := ML.keep hM hb10
        have q0 := keepc q0 hb10
        have q1 := keepc q1 hb10
        have W0 := Fresh.below W0 (Nat.le_refl _) hb10
        have H0 := Rep.below H0 (Nat.le_refl _) hb10
        have HB := HB.trans (Below.mono hb10 HB.size)
        go_wp2_with fail
        refine (to1_repo x0 _ _ _ h00 h01 hlc hlh).mono ?_
        rintro e w11 ⟨Ba0, Bc0, Ba1, Bc1, Bm, rfl, BC, BH, Bg1, Bg2, hb11⟩
        have hs11 := hb11.size
        have h00 := Rep.below h00 (Nat.le_refl _) hb11
        have h01 := Rep.below h01 (Nat.le_refl _) hb11
        have hM := ML.keep hM hb11
        have q0 := keepc q0 hb11
        have q1 := keepc q1 hb11
        have W0 := Fresh.below W0 (Nat.le_refl _) hb11
        have H0 := Rep.below H0 (Nat.le_refl _) hb11
        have HB := HB.trans (Below.mono hb11 HB.size)
        go_wp2_with fail
        refine (implBlameWho x0 _ _ x1 x2 _ BC.rd BH.rd h1 hx2 hS hM).mono ?_
        rintro e w12 ⟨Kv0, rfl, K0, hb12⟩
        have hs12 := hb12.size
        have h00 := Rep.below h00 (Nat.le_refl _) hb12
        have h01 := Rep.below h01 (Nat.le_refl _) hb12
        have hM := ML.keep hM hb12
        have q0 := keepc q0 hb12
        have q1 := keepc q1 hb12
        have W0 := Fresh.below W0 (Nat.le_refl _) hb12
        have H0 := Rep.below H0 (Nat.le_refl _) hb12
        have BC := Fresh.below BC (Nat.le_refl _) hb12
        have BH := Fresh.below BH (Nat.le_refl _) hb12
        have HB := HB.trans (Below.mono hb12 HB.size)
        clear BC BH
        go_wp2_with fail
        refine (eq_Sh _ _ _ _ _ K0.rd W0.rd).mono ?_
        rintro e w13 ⟨rfl, hb13⟩
        have hs13 := hb13.size
        have h00 := Rep.below h00 (Nat.le_refl _) hb13
        have h01 := Rep.below h01 (Nat.le_refl _) hb13
        have hM := ML.keep hM hb13
        have q0 := keepc q0 hb13
        have q1 := keepc q1 hb13
        have W0 := Fresh.below W0 (Nat.le_refl _) hb13
        have H0 := Rep.below H0 (Nat.le_refl _) hb13
        have K0 := Fresh.below K0 (Nat.le_refl _) hb13
        have HB := HB.trans (Below.mono hb13 HB.size)
        go_wp2_with fail
        refine (held_Sh _ (blameWho x0 x1 x2) (1) _ H0 (by omega) (by omega)).mono ?_
        rintro e w14 ⟨rfl, hb14⟩
        have hs14 := hb14.size
        have h00 := Rep.below h00 (Nat.le_refl _) hb14
        have h01 := Rep.below h01 (Nat.le_refl _) hb14
        have hM := ML.keep hM hb14
        have q0 := keepc q0 hb14
        have q1 := keepc q1 hb14
        have W0 := Fresh.below W0 (Nat.le_refl _) hb14
        have H0 := Rep.below H0 (Nat.le_refl _) hb14
        have K0 := Fresh.below K0 (Nat.le_refl _) hb14
        have HB := HB.trans (Below.mono hb14 HB.size)
        go_wp2
        go_ret
        exact ⟨rfl, HB⟩
end Go.Proofs.YthhmaclhggmneaaGreatDoor
