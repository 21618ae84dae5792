/-
  The walk of the law 'FnExactLogNext'.
-/
import Derived.Test.YtmblockojnaffaaDoorVG
import Derived.Test.YtmblockojnaffaaDoorVF
import Derived.Test.YtmblockojnaffaaDoorVH
import Derived.Deep.RegionHeld3
import Derived.Test.YtmblockojnaffaaDoorWNext
import Derived.Test.YtmblockojnaffaaDoorWNextI
set_option linter.unusedVariables false
namespace Go.Proofs.YtmblockojnaffaaDoor
open Go.RowKit Go.Vc
open Go.Vc.Rep (rd)
open Go.Vc.Own (own)

set_option maxHeartbeats 4000000 in
set_option maxRecDepth 100000 in
theorem lawLogNext (x0 : Repo) (v00 v01 : Value) (v1 : Value) (x1 : List Int) (x2 : Int) (w : World) (h00 : rd (fun b => b < w.heap.size) w [v00] x0.commits) (h01 : rd (fun b => b < w.heap.size) w [v01] x0.heads) (h1 : rd (fun b => b < w.heap.size) w [v1] x1) (h2 : I64 x2) (hM : ML w) :
    Calls Tryd.prog 4 #[.agg #[v00, v01], v1, .int .i64 x2] w fun e w' => e = .returned (.bool true) ∧ Below w.heap.size w w' := by
  obtain ⟨a1, c1, rfl, _⟩ := rd_slice_elim h1
  have HB : Below w.heap.size w (w.alloc (.cells #[v00, v01] 25)) := ((Below.refl _ _).alloc (by simp <;> omega) _)
  have q0 : (w.alloc (.cells #[v00, v01] 25)).cell? ⟨w.heap.size, 0, none⟩ = some v00 := by rw [cell_of_row _ _ 0 _ _ (0, 0) (heap_alloc_new _ _)]; rfl
  have q1 : (w.alloc (.cells #[v00, v01] 25)).cell? ⟨w.heap.size, 1, none⟩ = some v01 := by rw [cell_of_row _ _ 1 _ _ (0, 0) (heap_alloc_new _ _)]; rfl
  have h00 := Rep.below h00 (Nat.le_refl _) HB
  have h01 := Rep.below h01 (Nat.le_refl _) HB
  have h1 := Rep.below h1 (Nat.le_refl _) HB
  have hs0 : (w.alloc (.cells #[v00, v01] 25)).heap.size = w.heap.size + 1 := by simp
  have hM0 := hM
  have hM := hM.keep HB
  go_enter Tryd.func4, Tryd.ntmps4
  by_cases hn1 : 1048576 < x1.length
  · go_wp2
    go_ret
    exact ⟨rfl, HB⟩
  · have hx1 : x1.length ≤ 1048576 := by omega
    go_wp2_with fail
    refine (sz1_repo x0 v00 v01 1048576 _ h00 h01 (by decide) (by decide)).mono ?_
    rintro e w1 ⟨rfl, hb1⟩
    have hs1 := hb1.size
    have h00 := Rep.below h00 (Nat.le_refl _) hb1
    have h01 := Rep.below h01 (Nat.le_refl _) hb1
    have h1 := Rep.below h1 (Nat.le_refl _) hb1
    have hM := ML.keep hM hb1
    have q0 := keepc q0 hb1
    have q1 := keepc q1 hb1
    have HB := HB.trans (Below.mono hb1 HB.size)
    by_cases hn : sub 1048576 (bulk1_repo x0) < 0
    · go_wp2
      go_ret
      exact ⟨rfl, HB⟩
    · obtain ⟨hz1, hz2, hz3⟩ := sub_facts (by decide) hn
      have hl : bulk_C x0.commits + bulk_H x0.heads ≤ 1048576 := by have e : bulk1_repo x0 = bulk_C x0.commits + bulk_H x0.heads := rfl; omega
      have hlc : bulk_C x0.commits ≤ 1048576 := by omega
      have hlh : bulk_H x0.heads ≤ 1048576 := by omega
      have hS := repo_short hlc
      clear hz1 hz2 hz3
      go_wp2_with fail
      refine (to1_repo x0 _ _ _ h00 h01 hlc hlh).mono ?_
      rintro e w2 ⟨Aa0, Ac0, Aa1, Ac1, Am, rfl, AC, AH, Ag1, Ag2, hb2⟩
      have hs2 := hb2.size
      have h00 := Rep.below h00 (Nat.le_refl _) hb2
      have h01 := Rep.below h01 (Nat.le_refl _) hb2
      have h1 := Rep.below h1 (Nat.le_refl _) hb2
      have hM := ML.keep hM hb2
      have q0 := keepc q0 hb2
      have q1 := keepc q1 hb2
      have HB := HB.trans (Below.mono hb2 HB.size)
      go_wp2_with fail
      refine (to_I _ x1 _ h1 hx1).mono ?_
      rintro e w3 ⟨Av1, rfl, A1, hb3⟩
      have hs3 := hb3.size
      have h00 := Rep.below h00 (Nat.le_refl _) hb3
      have h01 := Rep.below h01 (Nat.le_refl _) hb3
      have h1 := Rep.below h1 (Nat.le_refl _) hb3
      have hM := ML.keep hM hb3
      have q0 := keepc q0 hb3
      have q1 := keepc q1 hb3
      have AC := Fresh.below AC (Nat.le_refl _) hb3
      have AH := Fresh.below AH (Nat.le_refl _) hb3
      have HB := HB.trans (Below.mono hb3 HB.size)
      go_wp2_with fail
      refine (specLogNext x0 _ _ _ x1 x2 _ AC.rd AH.rd A1.rd hS hM).mono ?_
      rintro e w4 ⟨rfl, hb4⟩
      have hs4 := hb4.size
      have h00 := Rep.below h00 (Nat.le_refl _) hb4
      have h01 := Rep.below h01 (Nat.le_refl _) hb4
      have h1 := Rep.below h1 (Nat.le_refl _) hb4
      have hM := ML.keep hM hb4
      have q0 := keepc q0 hb4
      have q1 := keepc q1 hb4
      have AC := Fresh.below AC (Nat.le_refl _) hb4
      have AH := Fresh.below AH (Nat.le_refl _) hb4
      have A1 := Fresh.below A1 (Nat.le_refl _) hb4
      have HB := HB.trans (Below.mono hb4 HB.size)
      clear AC AH A1
      go_wp2_with fail
      refine (to1_repo x0 _ _ _ h00 h01 hlc hlh).mono ?_
      rintro e w5 ⟨Xa0, Xc0, Xa1, Xc1, Xm, rfl, XC, XH, Xg1, Xg2, hb5⟩
      have hs5 := hb5.size
      have h00 := Rep.below h00 (Nat.le_refl _) hb5
      have h01 := Rep.below h01 (Nat.le_refl _) hb5
      have h1 := Rep.below h1 (Nat.le_refl _) hb5
      have hM := ML.keep hM hb5
      have q0 := keepc q0 hb5
      have q1 := keepc q1 hb5
      have HB := HB.trans (Below.mono hb5 HB.size)
      have p0 : (w5.alloc (.cells #[.slice Xa0 x0.commits.length Xc0, .slice Xa1 x0.heads.length Xc1] 32)).cell? ⟨w5.heap.size, 0, none⟩ = some (.slice Xa0 x0.commits.length Xc0) := by rw [cell_of_row _ _ 0 _ _ (0, 0) (heap_alloc_new _ _)]; rfl
      have p1 : (w5.alloc (.cells #[.slice Xa0 x0.commits.length Xc0, .slice Xa1 x0.heads.length Xc1] 32)).cell? ⟨w5.heap.size, 1, none⟩ = some (.slice Xa1 x0.heads.length Xc1) := by rw [cell_of_row _ _ 1 _ _ (0, 0) (heap_alloc_new _ _)]; rfl
      have hbx := (Below.refl w5.heap.size w5).alloc (Nat.le_refl _) (.cells #[.slice Xa0 x0.commits.length Xc0, .slice Xa1 x0.heads.length Xc1] 32)
      have hsx := hbx.size
      have h00 := Rep.below h00 (Nat.le_refl _) hbx
      have h01 := Rep.below h01 (Nat.le_refl _) hbx
      have h1 := Rep.below h1 (Nat.le_refl _) hbx
      have hM := ML.keep hM hbx
      have q0 := keepc q0 hbx
      have q1 := keepc q1 hbx
      have XC := Fresh.below XC (Nat.le_refl _) hbx
      have XH := Fresh.below XH (Nat.le_refl _) hbx
      have HB := HB.trans (Below.mono hbx HB.size)
      go_wp2_with fail
      refine (to_I _ x1 _ h1 hx1).mono ?_
      rintro e w6 ⟨Xv1, rfl, X1, hb6⟩
      have hs6 := hb6.size
      have h00 := Rep.below h00 (Nat.le_refl _) hb6
      have h01 := Rep.below h01 (Nat.le_refl _) hb6
      have h1 := Rep.below h1 (Nat.le_refl _) hb6
      have hM := ML.keep hM hb6
      have q0 := keepc q0 hb6
      have q1 := keepc q1 hb6
      have XC := Fresh.below XC (Nat.le_refl _) hb6
      have XH := Fresh.below XH (Nat.le_refl _) hb6
      have p0 := keepc p0 hb6
      have p1 := keepc p1 hb6
      have HB := HB.trans (Below.mono hb6 HB.size)
      go_wp2_with fail
      refine (implLogNext x0 _ _ _ x1 x2 _ XC.rd XH.rd X1.rd hS hM).mono ?_
      rintro e w7 ⟨rfl, hb7⟩
      have hs7 := hb7.size
      have h00 := Rep.below h00 (Nat.le_refl _) hb7
      have h01 := Rep.below h01 (Nat.le_refl _) hb7
      have h1 := Rep.below h1 (Nat.le_refl _) hb7
      have hM := ML.keep hM hb7
      have q0 := keepc q0 hb7
      have q1 := keepc q1 hb7
      have XC := Fresh.below XC (Nat.le_refl _) hb7
      have XH := Fresh.below XH (Nat.le_refl _) hb7
      have p0 := keepc p0 hb7
      have p1 := keepc p1 hb7
      have X1 := Fresh.below X1 (Nat.le_refl _) hb7
      have HB := HB.trans (Below.mono hb7 HB.size)
      have hbb : ((logNext x0 x1 x2) != (logNext x0 x1 x2)) = false := by simp
      have hee : decide (x0 = x0) = true := decide_eq_true rfl
      go_wp2
      go_region_held3 (fun w' => w'.cell? ⟨w.heap.size, 0, none⟩ = some (v00) ∧ w'.cell? ⟨w.heap.size, 1, none⟩ = some (v01) ∧ w'.cell? ⟨w5.heap.size, 0, none⟩ = some (.slice Xa0 x0.commits.length Xc0) ∧ w'.cell? ⟨w5.heap.size, 1, none⟩ = some (.slice Xa1 x0.heads.length Xc1))
        (first | go_keep | exact K7 | exact K6 | exact ⟨q0, q1, p0, p1⟩)
        (first
          | (go_at_call 16; refine (to1_repo x0 _ _ _ (Rep.drew h00) (Rep.drew h01) hlc hlh).mono ?_; rintro e wa ⟨Ya0, Yc0, Ya1, Yc1, Ym, rfl, YC, YH, Yg1, Yg2, hba⟩; have K6 := And.intro (BW.cell (w := w7.drew) q0 ⟨wa, hba⟩) (And.intro (BW.cell (w := w7.drew) q1 ⟨wa, hba⟩) (And.intro (BW.cell (w := w7.drew) p0 ⟨wa, hba⟩) (BW.cell (w := w7.drew) p1 ⟨wa, hba⟩))))
          | (go_at_call 19; refine (eq1_repo x0 x0 _ _ _ _ _ (Rep.lt (XC.drew.below (Nat.le_refl _) hba).rd) (Rep.lt (YC.below (Nat.le_refl _) (Below.refl _ _)).rd) (Rep.lt (XH.drew.below (Nat.le_refl _) hba).rd) (Rep.lt YH.rd)).mono ?_; rintro e wc ⟨rfl, hbc⟩; have K7 := And.intro (BW.cell (w := wa) K6.1 ⟨wc, hbc⟩) (And.intro (BW.cell (w := wa) K6.2.1 ⟨wc, hbc⟩) (And.intro (BW.cell (w := wa) K6.2.2.1 ⟨wc, hbc⟩) (BW.cell (w := wa) K6.2.2.2 ⟨wc, hbc⟩)))))
      all_goals
        have hb9 : Below w7.heap.size w7 wc := (Below.refl _ _).drew.trans ((hba.mono (by simp)).trans (hbc.mono (by have := hba.size; simp at *; omega)))
        have h00 := Rep.below h00 (Nat.le_refl _) hb9
        have h01 := Rep.below h01 (Nat.le_refl _) hb9
        have h1 := Rep.below h1 (Nat.le_refl _) hb9
        have hM := ML.keep hM hb9
        have q0 := keepc q0 hb9
        have q1 := keepc q1 hb9
        have XC := Fresh.below XC (Nat.le_refl _) hb9
        have XH := Fresh.below XH (Nat.le_refl _) hb9
        have p0 := keepc p0 hb9
        have p1 := keepc p1 hb9
        have X1 := Fresh.below X1 (Nat.le_refl _) hb9
        have HB := HB.trans (Below.mono hb9 HB.size)
        have hs9 := hb9.size
        clear K6 K7
        go_wp2_with fail
        refine (to_I _ x1 _ h1 hx1).mono ?_
        rintro e w8 ⟨Yv1, rfl, Y1, hb8⟩
        have hs8 := hb8.size
        have h00 := Rep.below h00 (Nat.le_refl _) hb8
        have h01 := Rep.below h01 (Nat.le_refl _) hb8
        have h1 := Rep.below h1 (Nat.le_refl _) hb8
        have hM := ML.keep hM hb8
        have q0 := keepc q0 hb8
        have q1 := keepc q1 hb8
        have XC := Fresh.below XC (Nat.le_refl _) hb8
        have XH := Fresh.below XH (Nat.le_refl _) hb8
        have p0 := keepc p0 hb8
        have p1 := keepc p1 hb8
        have X1 := Fresh.below X1 (Nat.le_refl _) hb8
        have HB := HB.trans (Below.mono hb8 HB.size)
        go_wp2_with fail
        refine (eq_I _ _ _ _ _ X1.rd Y1.rd).mono ?_
        rintro e w9 ⟨rfl, hb9⟩
        have hs9 := hb9.size
        have h00 := Rep.below h00 (Nat.le_refl _) hb9
        have h01 := Rep.below h01 (Nat.le_refl _) hb9
        have h1 := Rep.below h1 (Nat.le_refl _) hb9
        have hM := ML.keep hM hb9
        have q0 := keepc q0 hb9
        have q1 := keepc q1 hb9
        have XC := Fresh.below XC (Nat.le_refl _) hb9
        have XH := Fresh.below XH (Nat.le_refl _) hb9
        have p0 := keepc p0 hb9
        have p1 := keepc p1 hb9
        have X1 := Fresh.below X1 (Nat.le_refl _) hb9
        have Y1 := Fresh.below Y1 (Nat.le_refl _) hb9
        have HB := HB.trans (Below.mono hb9 HB.size)
        clear Y1
        go_wp2
        go_ret
        exact ⟨rfl, HB⟩
end Go.Proofs.YtmblockojnaffaaDoor
