/-
  The walk of the law 'FnExactKeepOnly'. / PROVED: 'laws.FnExactKeepOnly': for every input the call returns true, and each argument reads behind it as it read before. Conditions: none but the given row's own.
-/
import Derived.Test.YthhmaclhggmneaaDoorVG
import Derived.Test.YthhmaclhggmneaaDoorVF
import Derived.Test.YthhmaclhggmneaaDoorVH
import Derived.Deep.RegionHeld3
import Derived.Test.YthhmaclhggmneaaDoorWOnly
import Derived.Test.YthhmaclhggmneaaDoorPlCnt
import Derived.Test.YthhmaclhggmneaaDoorVN
set_option linter.unusedVariables false
namespace Go.Proofs.YthhmaclhggmneaaDoor
open Go.RowKit Go.Vc
open Go.Vc.Rep (rd)
open Go.Vc.Own (own)

set_option maxHeartbeats 4000000 in
set_option maxRecDepth 100000 in
theorem lawKeepOnly (x0 : Repo) (v00 v01 : Value)  (w : World) (h00 : rd (fun b => b < w.heap.size) w [v00] x0.commits) (h01 : rd (fun b => b < w.heap.size) w [v01] x0.heads)  (hM : ML w) :
    Calls Tryd.prog 3 #[.agg #[v00, v01]] w fun e w' => e = .returned (.bool true) ∧ Below w.heap.size w w' := by
  have HB : Below w.heap.size w (w.alloc (.cells #[v00, v01] 25)) := ((Below.refl _ _).alloc (by simp <;> omega) _)
  have q0 : (w.alloc (.cells #[v00, v01] 25)).cell? ⟨w.heap.size, 0, none⟩ = some v00 := by rw [cell_of_row _ _ 0 _ _ (0, 0) (heap_alloc_new _ _)]; rfl
  have q1 : (w.alloc (.cells #[v00, v01] 25)).cell? ⟨w.heap.size, 1, none⟩ = some v01 := by rw [cell_of_row _ _ 1 _ _ (0, 0) (heap_alloc_new _ _)]; rfl
  have h00 := Rep.below h00 (Nat.le_refl _) HB
  have h01 := Rep.below h01 (Nat.le_refl _) HB
  have hs0 : (w.alloc (.cells #[v00, v01] 25)).heap.size = w.heap.size + 1 := by simp
  have hM0 := hM
  have hM := hM.keep HB
  go_enter Tryd.func3, Tryd.ntmps3
  go_wp2_with fail
  refine (sz1_repo x0 v00 v01 1048576 _ h00 h01 (by decide) (by decide)).mono ?_
  rintro e w1 ⟨rfl, hb1⟩
  have hs1 := hb1.size
  have h00 := Rep.below h00 (Nat.le_refl _) hb1
  have h01 := Rep.below h01 (Nat.le_refl _) hb1
  have hM := ML.keep hM hb1
  have q0 := keepc q0 hb1
  have q1 := keepc q1 hb1
  have HB := HB.trans (Below.mono hb1 HB.size)
  by_cases hn : sub 1048576 (bulk1_repo x0) < 0
  · go_wp2
    go_ret
    exact ⟨rfl, HB⟩
  · obtain ⟨hz1, hz2, hz3⟩ := sub_facts (by decide) hn
    have hl : bulk_C x0.commits + bulk_H x0.heads ≤ 1048576 := by have e : bulk1_repo x0 = bulk_C x0.commits + bulk_H x0.heads := rfl; omega
    have hlc : bulk_C x0.commits ≤ 1048576 := by omega
    have hlh : bulk_H x0.heads ≤ 1048576 := by omega
    have hS := repo_short hlc
    clear hz1 hz2 hz3
    go_wp2_with fail
    refine (to1_repo x0 _ _ _ h00 h01 hlc hlh).mono ?_
    rintro e w2 ⟨Aa0, Ac0, Aa1, Ac1, Am, rfl, AC, AH, Ag1, Ag2, hb2⟩
    have hs2 := hb2.size
    have h00 := Rep.below h00 (Nat.le_refl _) hb2
    have h01 := Rep.below h01 (Nat.le_refl _) hb2
    have hM := ML.keep hM hb2
    have q0 := keepc q0 hb2
    have q1 := keepc q1 hb2
    have HB := HB.trans (Below.mono hb2 HB.size)
    go_wp2_with fail
    refine (specKeepOnly x0 _ _  _ AC.rd AH.rd  hS hM).mono ?_
    rintro e w3 ⟨Wa0, Wc0, Wa1, Wc1, Wm, rfl, WC, WH, Wg1, Wg2, hb3⟩
    have hs3 := hb3.size
    have h00 := Rep.below h00 (Nat.le_refl _) hb3
    have h01 := Rep.below h01 (Nat.le_refl _) hb3
    have hM := ML.keep hM hb3
    have q0 := keepc q0 hb3
    have q1 := keepc q1 hb3
    have AC := Fresh.below AC (Nat.le_refl _) hb3
    have AH := Fresh.below AH (Nat.le_refl _) hb3
    have HB := HB.trans (Below.mono hb3 HB.size)
    clear AC AH
    have r0 : (w3.alloc (.cells #[.slice Wa0 (keepOnly x0).commits.length Wc0, .slice Wa1 (keepOnly x0).heads.length Wc1] 30)).cell? ⟨w3.heap.size, 0, none⟩ = some (.slice Wa0 (keepOnly x0).commits.length Wc0) := by rw [cell_of_row _ _ 0 _ _ (0, 0) (heap_alloc_new _ _)]; rfl
    have r1 : (w3.alloc (.cells #[.slice Wa0 (keepOnly x0).commits.length Wc0, .slice Wa1 (keepOnly x0).heads.length Wc1] 30)).cell? ⟨w3.heap.size, 1, none⟩ = some (.slice Wa1 (keepOnly x0).heads.length Wc1) := by rw [cell_of_row _ _ 1 _ _ (0, 0) (heap_alloc_new _ _)]; rfl
    have hbx := (Below.refl w3.heap.size w3).alloc (Nat.le_refl _) (.cells #[.slice Wa0 (keepOnly x0).commits.length Wc0, .slice Wa1 (keepOnly x0).heads.length Wc1] 30)
    have hsx := hbx.size
    have hsr : w3.heap.size < (w3.alloc (.cells #[.slice Wa0 (keepOnly x0).commits.length Wc0, .slice Wa1 (keepOnly x0).heads.length Wc1] 30)).heap.size := by simp
    have h00 := Rep.below h00 (Nat.le_refl _) hbx
    have h01 := Rep.below h01 (Nat.le_refl _) hbx
    have hM := ML.keep hM hbx
    have q0 := keepc q0 hbx
    have q1 := keepc q1 hbx
    have WC := Fresh.below WC (Nat.le_refl _) hbx
    have WH := Fresh.below WH (Nat.le_refl _) hbx
    have HB := HB.trans (Below.mono hbx HB.size)
    go_wp2_with fail
    refine (to1_repo x0 _ _ _ h00 h01 hlc hlh).mono ?_
    rintro e w4 ⟨Xa0, Xc0, Xa1, Xc1, Xm, rfl, XC, XH, Xg1, Xg2, hb4⟩
    have hs4 := hb4.size
    have h00 := Rep.below h00 (Nat.le_refl _) hb4
    have h01 := Rep.below h01 (Nat.le_refl _) hb4
    have hM := ML.keep hM hb4
    have q0 := keepc q0 hb4
    have q1 := keepc q1 hb4
    have WC := Fresh.below WC (Nat.le_refl _) hb4
    have WH := Fresh.below WH (Nat.le_refl _) hb4
    have r0 := keepc r0 hb4
    have r1 := keepc r1 hb4
    have HB := HB.trans (Below.mono hb4 HB.size)
    have p0 : (w4.alloc (.cells #[.slice Xa0 x0.commits.length Xc0, .slice Xa1 x0.heads.length Xc1] 30)).cell? ⟨w4.heap.size, 0, none⟩ = some (.slice Xa0 x0.commits.length Xc0) := by rw [cell_of_row _ _ 0 _ _ (0, 0) (heap_alloc_new _ _)]; rfl
    have p1 : (w4.alloc (.cells #[.slice Xa0 x0.commits.length Xc0, .slice Xa1 x0.heads.length Xc1] 30)).cell? ⟨w4.heap.size, 1, none⟩ = some (.slice Xa1 x0.heads.length Xc1) := by rw [cell_of_row _ _ 1 _ _ (0, 0) (heap_alloc_new _ _)]; rfl
    have hbx := (Below.refl w4.heap.size w4).alloc (Nat.le_refl _) (.cells #[.slice Xa0 x0.commits.length Xc0, .slice Xa1 x0.heads.length Xc1] 30)
    have hsx := hbx.size
    have hsp : w4.heap.size < (w4.alloc (.cells #[.slice Xa0 x0.commits.length Xc0, .slice Xa1 x0.heads.length Xc1] 30)).heap.size := by simp
    have h00 := Rep.below h00 (Nat.le_refl _) hbx
    have h01 := Rep.below h01 (Nat.le_refl _) hbx
    have hM := ML.keep hM hbx
    have q0 := keepc q0 hbx
    have q1 := keepc q1 hbx
    have WC := Fresh.below WC (Nat.le_refl _) hbx
    have WH := Fresh.below WH (Nat.le_refl _) hbx
    have r0 := keepc r0 hbx
    have r1 := keepc r1 hbx
    have XC := Fresh.below XC (Nat.le_refl _) hbx
    have XH := Fresh.below XH (Nat.le_refl _) hbx
    have HB := HB.trans (Below.mono hbx HB.size)
    go_wp2_with fail
    refine (implKeepOnly x0 _ _  _ XC.rd XH.rd  hS hM).mono ?_
    rintro e w5 ⟨Ga0, Gc0, Ga1, Gc1, Gm, rfl, GC, GH, Gg1, Gg2, hb5⟩
    have hs5 := hb5.size
    have h00 := Rep.below h00 (Nat.le_refl _) hb5
    have h01 := Rep.below h01 (Nat.le_refl _) hb5
    have hM := ML.keep hM hb5
    have q0 := keepc q0 hb5
    have q1 := keepc q1 hb5
    have WC := Fresh.below WC (Nat.le_refl _) hb5
    have WH := Fresh.below WH (Nat.le_refl _) hb5
    have r0 := keepc r0 hb5
    have r1 := keepc r1 hb5
    have XC := Fresh.below XC (Nat.le_refl _) hb5
    have XH := Fresh.below XH (Nat.le_refl _) hb5
    have p0 := keepc p0 hb5
    have p1 := keepc p1 hb5
    have HB := HB.trans (Below.mono hb5 HB.size)
    have s0 : (w5.alloc (.cells #[.slice Ga0 (keepOnly x0).commits.length Gc0, .slice Ga1 (keepOnly x0).heads.length Gc1] 30)).cell? ⟨w5.heap.size, 0, none⟩ = some (.slice Ga0 (keepOnly x0).commits.length Gc0) := by rw [cell_of_row _ _ 0 _ _ (0, 0) (heap_alloc_new _ _)]; rfl
    have s1 : (w5.alloc (.cells #[.slice Ga0 (keepOnly x0).commits.length Gc0, .slice Ga1 (keepOnly x0).heads.length Gc1] 30)).cell? ⟨w5.heap.size, 1, none⟩ = some (.slice Ga1 (keepOnly x0).heads.length Gc1) := by rw [cell_of_row _ _ 1 _ _ (0, 0) (heap_alloc_new _ _)]; rfl
    have hbx := (Below.refl w5.heap.size w5).alloc (Nat.le_refl _) (.cells #[.slice Ga0 (keepOnly x0).commits.length Gc0, .slice Ga1 (keepOnly x0).heads.length Gc1] 30)
    have hsx := hbx.size
    have hss : w5.heap.size < (w5.alloc (.cells #[.slice Ga0 (keepOnly x0).commits.length Gc0, .slice Ga1 (keepOnly x0).heads.length Gc1] 30)).heap.size := by simp
    have h00 := Rep.below h00 (Nat.le_refl _) hbx
    have h01 := Rep.below h01 (Nat.le_refl _) hbx
    have hM := ML.keep hM hbx
    have q0 := keepc q0 hbx
    have q1 := keepc q1 hbx
    have WC := Fresh.below WC (Nat.le_refl _) hbx
    have WH := Fresh.below WH (Nat.le_refl _) hbx
    have r0 := keepc r0 hbx
    have r1 := keepc r1 hbx
    have XC := Fresh.below XC (Nat.le_refl _) hbx
    have XH := Fresh.below XH (Nat.le_refl _) hbx
    have p0 := keepc p0 hbx
    have p1 := keepc p1 hbx
    have GC := Fresh.below GC (Nat.le_refl _) hbx
    have GH := Fresh.below GH (Nat.le_refl _) hbx
    have HB := HB.trans (Below.mono hbx HB.size)
    have hef : decide (keepOnly x0 = keepOnly x0) = true := decide_eq_true rfl
    have hee : decide (x0 = x0) = true := decide_eq_true rfl
    go_wp2_with fail
    refine (eq1_repo (keepOnly x0) (keepOnly x0) _ _ _ _ _ (Rep.lt GC.rd) (Rep.lt WC.rd) (Rep.lt GH.rd) (Rep.lt WH.rd)).mono ?_
    rintro e w6 ⟨rfl, hb6⟩
    have hs6 := hb6.size
    have h00 := Rep.below h00 (Nat.le_refl _) hb6
    have h01 := Rep.below h01 (Nat.le_refl _) hb6
    have hM := ML.keep hM hb6
    have q0 := keepc q0 hb6
    have q1 := keepc q1 hb6
    have WC := Fresh.below WC (Nat.le_refl _) hb6
    have WH := Fresh.below WH (Nat.le_refl _) hb6
    have r0 := keepc r0 hb6
    have r1 := keepc r1 hb6
    have XC := Fresh.below XC (Nat.le_refl _) hb6
    have XH := Fresh.below XH (Nat.le_refl _) hb6
    have p0 := keepc p0 hb6
    have p1 := keepc p1 hb6
    have GC := Fresh.below GC (Nat.le_refl _) hb6
    have GH := Fresh.below GH (Nat.le_refl _) hb6
    have s0 := keepc s0 hb6
    have s1 := keepc s1 hb6
    have HB := HB.trans (Below.mono hb6 HB.size)
    go_wp2
    go_region_held3 (fun w' => w'.cell? ⟨w.heap.size, 0, none⟩ = some (v00) ∧ w'.cell? ⟨w.heap.size, 1, none⟩ = some (v01) ∧ w'.cell? ⟨w4.heap.size, 0, none⟩ = some (.slice Xa0 x0.commits.length Xc0) ∧ w'.cell? ⟨w4.heap.size, 1, none⟩ = some (.slice Xa1 x0.heads.length Xc1))
      (first | go_keep | exact K7 | exact K6 | exact ⟨q0, q1, p0, p1⟩)
      (first
        | (go_at_call 8; refine (to1_repo x0 _ _ _ (Rep.drew h00) (Rep.drew h01) hlc hlh).mono ?_; rintro e wa ⟨Ya0, Yc0, Ya1, Yc1, Ym, rfl, YC, YH, Yg1, Yg2, hba⟩; have K6 := And.intro (BW.cell (w := w6.drew) q0 ⟨wa, hba⟩) (And.intro (BW.cell (w := w6.drew) q1 ⟨wa, hba⟩) (And.intro (BW.cell (w := w6.drew) p0 ⟨wa, hba⟩) (BW.cell (w := w6.drew) p1 ⟨wa, hba⟩))))
        | (go_at_call 10; refine (eq1_repo x0 x0 _ _ _ _ _ (Rep.lt (XC.drew.below (Nat.le_refl _) hba).rd) (Rep.lt (YC.below (Nat.le_refl _) (Below.refl _ _)).rd) (Rep.lt (XH.drew.below (Nat.le_refl _) hba).rd) (Rep.lt YH.rd)).mono ?_; rintro e wc ⟨rfl, hbc⟩; have K7 := And.intro (BW.cell (w := wa) K6.1 ⟨wc, hbc⟩) (And.intro (BW.cell (w := wa) K6.2.1 ⟨wc, hbc⟩) (And.intro (BW.cell (w := wa) K6.2.2.1 ⟨wc, hbc⟩) (BW.cell (w := wa) K6.2.2.2 ⟨wc, hbc⟩)))))
    all_goals
      have hb9 : Below w6.heap.size w6 wc := (Below.refl _ _).drew.trans ((hba.mono (by simp)).trans (hbc.mono (by have := hba.size; simp at *; omega)))
      have h00 := Rep.below h00 (Nat.le_refl _) hb9
      have h01 := Rep.below h01 (Nat.le_refl _) hb9
      have hM := ML.keep hM hb9
      have q0 := keepc q0 hb9
      have q1 := keepc q1 hb9
      have WC := Fresh.below WC (Nat.le_refl _) hb9
      have WH := Fresh.below WH (Nat.le_refl _) hb9
      have r0 := keepc r0 hb9
      have r1 := keepc r1 hb9
      have XC := Fresh.below XC (Nat.le_refl _) hb9
      have XH := Fresh.below XH (Nat.le_refl _) hb9
      have p0 := keepc p0 hb9
      have p1 := keepc p1 hb9
      have GC := Fresh.below GC (Nat.le_refl _) hb9
      have GH := Fresh.below GH (Nat.le_refl _) hb9
      have s0 := keepc s0 hb9
      have s1 := keepc s1 hb9
      have HB := HB.trans (Below.mono hb9 HB.size)
      have hs9 := hb9.size
      clear K6 K7
      have hcC := cnt_C_le x0.commits
      have hcH := cnt_H_le x0.heads
      obtain ⟨FXC, oXC, nXC, rXC⟩ := XC
      obtain ⟨FXH, oXH, nXH, rXH⟩ := XH
      have rX : ∀ b, b ∈ FXC ++ FXH → (w3.alloc (.cells #[.slice Wa0 (keepOnly x0).commits.length Wc0, .slice Wa1 (keepOnly x0).heads.length Wc1] 30)).heap.size ≤ b ∧ b < w4.heap.size := fun b hb => by rcases List.mem_append.1 hb with h | h; have := rXC b h; omega; have := rXH b h; omega
      have hdX : ∀ b, b ∈ FXC → b ∉ FXH := fun b h1 h2 => by have := rXC b h1; have := rXH b h2; omega
      go_wp2_with fail
      refine (mark1_repo x0 _ _ (1) _ oXC nXC oXH nXH hdX (by omega) (by omega)).mono ?_
      rintro e w7 ⟨rfl, MXC, MXH, SX⟩
      have h00 := TouchF.args SX rX h00 (by omega)
      have h01 := TouchF.args SX rX h01 (by omega)
      have hM := hM0.keep (HB.trans (SX.below HB.size (fun b hb => by have := (rX b hb).1; omega)))
      have q0 := TouchF.cellAt SX rX q0 (by omega)
      have q1 := TouchF.cellAt SX rX q1 (by omega)
      have WC := TouchF.fresh SX rX WC (by omega)
      have WH := TouchF.fresh SX rX WH (by omega)
      have r0 := TouchF.cellAt SX rX r0 (by omega)
      have r1 := TouchF.cellAt SX rX r1 (by omega)
      have p0 := TouchF.cellAt SX rX p0 (by omega)
      have p1 := TouchF.cellAt SX rX p1 (by omega)
      have GC := TouchF.fresh SX rX GC (by omega)
      have GH := TouchF.fresh SX rX GH (by omega)
      have s0 := TouchF.cellAt SX rX s0 (by omega)
      have s1 := TouchF.cellAt SX rX s1 (by omega)
      have hs7 := SX.size
      have HB := HB.trans (SX.below HB.size (fun b hb => by have := (rX b hb).1; omega))
      clear oXC oXH nXC nXH hdX
      clear MXC MXH SX
      clear p0 p1
      go_wp2_with fail
      refine (eq1_repo (keepOnly x0) (keepOnly x0) _ _ _ _ _ (Rep.lt GC.rd) (Rep.lt WC.rd) (Rep.lt GH.rd) (Rep.lt WH.rd)).mono ?_
      rintro e w8 ⟨rfl, hb8⟩
      have hs8 := hb8.size
      have h00 := Rep.below h00 (Nat.le_refl _) hb8
      have h01 := Rep.below h01 (Nat.le_refl _) hb8
      have hM := ML.keep hM hb8
      have q0 := keepc q0 hb8
      have q1 := keepc q1 hb8
      have WC := Fresh.below WC (Nat.le_refl _) hb8
      have WH := Fresh.below WH (Nat.le_refl _) hb8
      have r0 := keepc r0 hb8
      have r1 := keepc r1 hb8
      have GC := Fresh.below GC (Nat.le_refl _) hb8
      have GH := Fresh.below GH (Nat.le_refl _) hb8
      have s0 := keepc s0 hb8
      have s1 := keepc s1 hb8
      have HB := HB.trans (Below.mono hb8 HB.size)
      obtain ⟨hr0, hr1⟩ := keepOnly_cnt x0
      obtain ⟨FGC, oGC, nGC, rGC⟩ := GC
      obtain ⟨FGH, oGH, nGH, rGH⟩ := GH
      have rG : ∀ b, b ∈ FGC ++ FGH → (w4.alloc (.cells #[.slice Xa0 x0.commits.length Xc0, .slice Xa1 x0.heads.length Xc1] 30)).heap.size ≤ b ∧ b < w5.heap.size := fun b hb => by rcases List.mem_append.1 hb with h | h; have := rGC b h; omega; have := rGH b h; omega
      have hdG : ∀ b, b ∈ FGC → b ∉ FGH := fun b h1 h2 => by have := rGC b h1; have := rGH b h2; omega
      go_wp2_with fail
      refine (mark1_repo (keepOnly x0) _ _ (1) _ oGC nGC oGH nGH hdG (by omega) (by omega)).mono ?_
      rintro e w9 ⟨rfl, MGC, MGH, SG⟩
      have h00 := TouchF.args SG rG h00 (by omega)
      have h01 := TouchF.args SG rG h01 (by omega)
      have hM := hM0.keep (HB.trans (SG.below HB.size (fun b hb => by have := (rG b hb).1; omega)))
      have q0 := TouchF.cellAt SG rG q0 (by omega)
      have q1 := TouchF.cellAt SG rG q1 (by omega)
      have WC := TouchF.fresh SG rG WC (by omega)
      have WH := TouchF.fresh SG rG WH (by omega)
      have r0 := TouchF.cellAt SG rG r0 (by omega)
      have r1 := TouchF.cellAt SG rG r1 (by omega)
      have s0 := TouchF.cellAt SG rG s0 (by omega)
      have s1 := TouchF.cellAt SG rG s1 (by omega)
      have hs9 := SG.size
      have HB := HB.trans (SG.below HB.size (fun b hb => by have := (rG b hb).1; omega))
      clear oGC oGH nGC nGH hdG
      go_wp2_with fail
      refine (held1_repo (keepOnly x0) _ _ 1 _ MGC MGH (by omega) (by omega)).mono ?_
      rintro e w10 ⟨rfl, hb10⟩
      have hs10 := hb10.size
      have h00 := Rep.below h00 (Nat.le_refl _) hb10
      have h01 := Rep.below h01 (Nat.le_refl _) hb10
      have hM := ML.keep hM hb10
      have q0 := keepc q0 hb10
      have q1 := keepc q1 hb10
      have WC := Fresh.below WC (Nat.le_refl _) hb10
      have WH := Fresh.below WH (Nat.le_refl _) hb10
      have r0 := keepc r0 hb10
      have r1 := keepc r1 hb10
      have s0 := keepc s0 hb10
      have s1 := keepc s1 hb10
      have MGC := Rep.below MGC (Nat.le_refl _) hb10
      have MGH := Rep.below MGH (Nat.le_refl _) hb10
      have HB := HB.trans (Below.mono hb10 HB.size)
      go_wp2_with fail
      refine (to1_repo x0 _ _ _ h00 h01 hlc hlh).mono ?_
      rintro e w11 ⟨Ba0, Bc0, Ba1, Bc1, Bm, rfl, BC, BH, Bg1, Bg2, hb11⟩
      have hs11 := hb11.size
      have h00 := Rep.below h00 (Nat.le_refl _) hb11
      have h01 := Rep.below h01 (Nat.le_refl _) hb11
      have hM := ML.keep hM hb11
      have q0 := keepc q0 hb11
      have q1 := keepc q1 hb11
      have WC := Fresh.below WC (Nat.le_refl _) hb11
      have WH := Fresh.below WH (Nat.le_refl _) hb11
      have r0 := keepc r0 hb11
      have r1 := keepc r1 hb11
      have s0 := keepc s0 hb11
      have s1 := keepc s1 hb11
      have MGC := Rep.below MGC (Nat.le_refl _) hb11
      have MGH := Rep.below MGH (Nat.le_refl _) hb11
      have HB := HB.trans (Below.mono hb11 HB.size)
      go_wp2_with fail
      refine (implKeepOnly x0 _ _  _ BC.rd BH.rd  hS hM).mono ?_
      rintro e w12 ⟨Ka0, Kc0, Ka1, Kc1, Km, rfl, KC, KH, Kg1, Kg2, hb12⟩
      have hs12 := hb12.size
      have h00 := Rep.below h00 (Nat.le_refl _) hb12
      have h01 := Rep.below h01 (Nat.le_refl _) hb12
      have hM := ML.keep hM hb12
      have q0 := keepc q0 hb12
      have q1 := keepc q1 hb12
      have WC := Fresh.below WC (Nat.le_refl _) hb12
      have WH := Fresh.below WH (Nat.le_refl _) hb12
      have r0 := keepc r0 hb12
      have r1 := keepc r1 hb12
      have s0 := keepc s0 hb12
      have s1 := keepc s1 hb12
      have MGC := Rep.below MGC (Nat.le_refl _) hb12
      have MGH := Rep.below MGH (Nat.le_refl _) hb12
      have BC := Fresh.below BC (Nat.le_refl _) hb12
      have BH := Fresh.below BH (Nat.le_refl _) hb12
      have HB := HB.trans (Below.mono hb12 HB.size)
      clear BC BH
      have u0 : (w12.alloc (.cells #[.slice Ka0 (keepOnly x0).commits.length Kc0, .slice Ka1 (keepOnly x0).heads.length Kc1] 30)).cell? ⟨w12.heap.size, 0, none⟩ = some (.slice Ka0 (keepOnly x0).commits.length Kc0) := by rw [cell_of_row _ _ 0 _ _ (0, 0) (heap_alloc_new _ _)]; rfl
      have u1 : (w12.alloc (.cells #[.slice Ka0 (keepOnly x0).commits.length Kc0, .slice Ka1 (keepOnly x0).heads.length Kc1] 30)).cell? ⟨w12.heap.size, 1, none⟩ = some (.slice Ka1 (keepOnly x0).heads.length Kc1) := by rw [cell_of_row _ _ 1 _ _ (0, 0) (heap_alloc_new _ _)]; rfl
      have hbx := (Below.refl w12.heap.size w12).alloc (Nat.le_refl _) (.cells #[.slice Ka0 (keepOnly x0).commits.length Kc0, .slice Ka1 (keepOnly x0).heads.length Kc1] 30)
      have hsx := hbx.size
      have hsu : w12.heap.size < (w12.alloc (.cells #[.slice Ka0 (keepOnly x0).commits.length Kc0, .slice Ka1 (keepOnly x0).heads.length Kc1] 30)).heap.size := by simp
      have h00 := Rep.below h00 (Nat.le_refl _) hbx
      have h01 := Rep.below h01 (Nat.le_refl _) hbx
      have hM := ML.keep hM hbx
      have q0 := keepc q0 hbx
      have q1 := keepc q1 hbx
      have WC := Fresh.below WC (Nat.le_refl _) hbx
      have WH := Fresh.below WH (Nat.le_refl _) hbx
      have r0 := keepc r0 hbx
      have r1 := keepc r1 hbx
      have s0 := keepc s0 hbx
      have s1 := keepc s1 hbx
      have MGC := Rep.below MGC (Nat.le_refl _) hbx
      have MGH := Rep.below MGH (Nat.le_refl _) hbx
      have KC := Fresh.below KC (Nat.le_refl _) hbx
      have KH := Fresh.below KH (Nat.le_refl _) hbx
      have HB := HB.trans (Below.mono hbx HB.size)
      go_wp2_with fail
      refine (eq1_repo (keepOnly x0) (keepOnly x0) _ _ _ _ _ (Rep.lt KC.rd) (Rep.lt WC.rd) (Rep.lt KH.rd) (Rep.lt WH.rd)).mono ?_
      rintro e w13 ⟨rfl, hb13⟩
      have hs13 := hb13.size
      have h00 := Rep.below h00 (Nat.le_refl _) hb13
      have h01 := Rep.below h01 (Nat.le_refl _) hb13
      have hM := ML.keep hM hb13
      have q0 := keepc q0 hb13
      have q1 := keepc q1 hb13
      have WC := Fresh.below WC (Nat.le_refl _) hb13
      have WH := Fresh.below WH (Nat.le_refl _) hb13
      have r0 := keepc r0 hb13
      have r1 := keepc r1 hb13
      have s0 := keepc s0 hb13
      have s1 := keepc s1 hb13
      have MGC := Rep.below MGC (Nat.le_refl _) hb13
      have MGH := Rep.below MGH (Nat.le_refl _) hb13
      have KC := Fresh.below KC (Nat.le_refl _) hb13
      have KH := Fresh.below KH (Nat.le_refl _) hb13
      have u0 := keepc u0 hb13
      have u1 := keepc u1 hb13
      have HB := HB.trans (Below.mono hb13 HB.size)
      go_wp2_with fail
      refine (held1_repo (keepOnly x0) _ _ 1 _ MGC MGH (by omega) (by omega)).mono ?_
      rintro e w14 ⟨rfl, hb14⟩
      have hs14 := hb14.size
      have h00 := Rep.below h00 (Nat.le_refl _) hb14
      have h01 := Rep.below h01 (Nat.le_refl _) hb14
      have hM := ML.keep hM hb14
      have q0 := keepc q0 hb14
      have q1 := keepc q1 hb14
      have WC := Fresh.below WC (Nat.le_refl _) hb14
      have WH := Fresh.below WH (Nat.le_refl _) hb14
      have r0 := keepc r0 hb14
      have r1 := keepc r1 hb14
      have s0 := keepc s0 hb14
      have s1 := keepc s1 hb14
      have MGC := Rep.below MGC (Nat.le_refl _) hb14
      have MGH := Rep.below MGH (Nat.le_refl _) hb14
      have KC := Fresh.below KC (Nat.le_refl _) hb14
      have KH := Fresh.below KH (Nat.le_refl _) hb14
      have u0 := keepc u0 hb14
      have u1 := keepc u1 hb14
      have HB := HB.trans (Below.mono hb14 HB.size)
      go_wp2
      go_ret
      exact ⟨rfl, HB⟩
end Go.Proofs.YthhmaclhggmneaaDoor
namespace Go.Proofs.YthhmaclhggmneaaDoor.fnExactKeepOnly
open Go.ChangeShapes Go.WideShapes Go.ChangeAt Go.RowKit Go.Vc
set_option linter.unusedVariables false

set_option maxRecDepth 100000 in
theorem contract (H : Type) (enc : TypeId × Value → H) (W : World) (base : Nat) (args : Array Value) (ds gs : List (DataW H)) (before : List MemPlace)
    (hval : ∀ (j : Nat) t v, Tryd.f3.params[j]? = some t → args[j]? = some v → Value.okWide Tryd.prog W .any base t v)
    (hW : DataW.Whole enc Tryd.prog Tryd.f3.params.toList Rows.fnExactKeepOnlySpec.vars false W args.toList ds gs before) (hM : ML W) :
    Calls Tryd.prog 3 args W fun e W' => ∃ v, e = .returned v ∧ Rows.fnExactKeepOnlySpec.post enc Tryd.prog Tryd.f3 false true false false W args v W' := by
  have hW' := hW
  obtain ⟨p, q, hA0, hV, rfl, hfz, hnd⟩ := hW
  have hA : DataW.TrodAll enc Tryd.prog W 0 (fun _ => true) true Tryd.f3.params.toList args.toList ds p := hA0
  rw [Tryd.params3] at hA hval
  obtain ⟨v0, vs0, d0, ds0, p0, q0, hargs, rfl, rfl, h0, r0⟩ := trodAll_cons hA
  obtain ⟨rfl, rfl, rfl⟩ := trodAll_nil r0
  obtain rfl : args = #[v0] := by cases args; simp_all
  obtain ⟨rfl, rfl⟩ := trodVars_none hV
  obtain ⟨x0, hx0⟩ := opn_lawRepo.arg h0
  obtain ⟨a00, c00, a01, c01, hv0, g00, g01⟩ := rd_repo hx0
  obtain rfl := agg_of_cells hv0 (by simp)
  have hlt := hW'.lt
  refine (lawKeepOnly x0 _ _ W g00.rd g01.rd hM).mono fun e W' ⟨he, hb⟩ => ?_
  subst he
  refine ⟨_, rfl, _, _, _, _, _, _, hW', trodAll_cons_mk (shut_bool Tryd.underlying4 _) trodAll_mk0, trodAll_cons_mk (Below.trod laid (by kernel_rfl) (of_decide_eq_true (by kernel_rfl)) h0 hb (fun x hx => hlt x (by simp [hx]))) (trodAll_mk0), rfl, hb.frame _, fun h => by cases h⟩

set_option maxRecDepth 100000 in
theorem lifted (os : Os) (started : os.Started) (H : Type) (enc : TypeId × Value → H) :
    ReturnsInHanded {} Tryd.checked os 3 .any (fun w args => (Rows.fnExactKeepOnlySpec.pre enc Tryd.prog Tryd.f3 Rows.fnExactKeepOnlyRow.domain false w args ∧ laidMetH Tryd.prog Rows.fnExactKeepOnlyRow.laid w) ∧ sizedMet enc Tryd.prog Tryd.f3 (OpenSpec.ofChange Rows.fnExactKeepOnlySpec) false w args) (Rows.fnExactKeepOnlySpec.post enc Tryd.prog Tryd.f3 false true false false) := by
  refine returnsInHanded_laid (C := Tryd.checked) (X := fun w _ => laidMetH Tryd.prog Rows.fnExactKeepOnlyRow.laid w) own started (by kernel_rfl) Tryd.func3
    (ChangeSpec.witness_shaped (enc := enc) (C := Tryd.checked) (os := os) (X := fun w _ => laidMetH Tryd.prog Rows.fnExactKeepOnlyRow.laid w) false (World.laidAll Tryd.prog os Rows.fnExactKeepOnlyRow.laid) #[.agg #[.slice none 0 0, .slice none 0 0]] 8 (World.laidAll_os _ _ _)
      (World.shaped_of_ZipB (by kernel_rfl) (by kernel_rfl)) (by kernel_rfl) (by kernel_rfl) (by kernel_rfl)
      (by rw [MakeChecks.laidMetH_plain _ _ _ (by kernel_rfl)]; exact laidMet_laidAll _ (by kernel_rfl) (by kernel_rfl))) ?_
  intro W base args ds gs before hval hW hsh
  exact contract H enc W base args ds gs before hval hW (ml_of_shape hsh)

theorem row : Rows.FnExactKeepOnlySaid :=
  OpenClaim.holds_of_wide 3 Tryd.f3 rfl rfl rfl rfl rfl rfl rfl ⟨rfl, rfl, rfl, rfl, rfl⟩ rfl rfl rfl rfl rfl (by kernel_rfl) Tryd.func3 (by kernel_rfl)
    (of_decide_eq_true (by kernel_rfl)) (by unfold Func.isWrapper; first | (rw [if_pos (by decide +kernel)]; kernel_rfl) | (rw [if_neg (by decide +kernel)]; exact ⟨rfl, rfl⟩))
    (fun os started H enc _ => lifted os started H enc)

theorem proved : Rows.FnExactKeepOnlyCardSaid :=
  Claim7.holds_tied_plain_at .later [] Rows.fnExactKeepOnlyCard.laidKinds true Rows.fnExactKeepOnlyCard.stood.harness Rows.fnExactKeepOnlyCard.stood.looks row (fun _ h => by cases h) (by kernel_rfl) (fun _ h => by cases h) fnExactKeepOnly_row_tie rfl ⟨rfl, rfl⟩ (by kernel_rfl) rfl
    (fun f fn hf hfn => by
      obtain rfl : f = 3 := Option.some.inj ((show Tryd.prog.funcNamed Rows.fnExactKeepOnlyRow.func = some 3 by kernel_rfl).symm.trans hf) |>.symm
      obtain rfl : fn = Tryd.f3 := (Option.some.inj (Tryd.func3.symm.trans hfn)).symm
      exact ⟨by kernel_rfl, fun j t ht => by
        rw [Tryd.params3] at ht
        have hm : t ∈ [25] := by simpa using Array.mem_of_getElem? ht
        have hall : ([25].all fun u => !Tryd.prog.wantsStandIn u) = true := by kernel_rfl
        exact (show Tryd.prog.wantsStandIn t = false by simpa using List.all_eq_true.1 hall t hm)⟩)
    (by kernel_rfl)
end Go.Proofs.YthhmaclhggmneaaDoor.fnExactKeepOnly
