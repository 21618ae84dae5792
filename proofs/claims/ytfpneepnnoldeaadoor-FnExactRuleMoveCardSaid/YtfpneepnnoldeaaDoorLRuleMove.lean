/-
  The walk of the law 'FnExactRuleMove'.
-/
import Derived.Test.YtfpneepnnoldeaaDoorVLS
import Derived.Test.YtfpneepnnoldeaaDoorRMx
set_option linter.unusedVariables false
namespace Go.Proofs.YtfpneepnnoldeaaDoor
open Go.RowKit Go.Vc
open Go.Vc.Rep (rd)
open Go.Vc.Own (own)

set_option maxHeartbeats 4000000 in
set_option maxRecDepth 100000 in
theorem lawRuleMove (v0 : Value) (x0 : List File) (x1 : ByteArray) (x2 : ByteArray) (w : World) (h0 : rd (fun b => b < w.heap.size) w [v0] x0) (h1 : x1.size ≤ maxLen) (h2 : x2.size ≤ maxLen) (hM : ML w) :
    Calls Tryd.prog 8 #[v0, .string x1, .string x2] w fun e w' => e = .returned (.bool true) ∧ Below w.heap.size w w' := by
  have HB := Below.refl w.heap.size w
  have hM0 := hM
  go_enter Tryd.func8, Tryd.ntmps8
  by_cases hn1 : 1048576 < x1.size
  · go_wp2
    go_ret
    exact ⟨rfl, HB⟩
  · have hx1 : x1.size ≤ 1048576 := by omega
    by_cases hn2 : 1048576 < x2.size
    · go_wp2
      go_ret
      exact ⟨rfl, HB⟩
    · have hx2 : x2.size ≤ 1048576 := by omega
      go_wp2_with fail
      refine (sz_F _ x0 (1048576) _ h0 (by omega) (by omega)).mono ?_
      rintro e w1 ⟨rfl, hb1⟩
      have hs1 := hb1.size
      have hM := ML.keep hM hb1
      have h0 := Rep.below h0 (Nat.le_refl _) hb1
      have HB := HB.trans (Below.mono hb1 HB.size)
      by_cases hn0 : sub (1048576) (bulk_F x0) < 0
      · go_wp2
        go_ret
        exact ⟨rfl, HB⟩
      · have hp0 := sub_pos (show 0 ≤ sub (1048576) (bulk_F x0) by omega)
        have hq0 := hp0.1
        have hle0 := sub_le (l := 1048576) (bulk_F x0) (by omega)
        have hx0 : bulk_F x0 ≤ 1048576 := by omega
        clear hp0
        go_wp2_with fail
        refine (to_F _ x0 _ h0 hx0).mono ?_
        rintro e w2 ⟨Av0, rfl, A0, hb2⟩
        have hs2 := hb2.size
        have hM := ML.keep hM hb2
        have h0 := Rep.below h0 (Nat.le_refl _) hb2
        have HB := HB.trans (Below.mono hb2 HB.size)
        go_wp2_with fail
        refine (specRuleMoveX _ x0 x1 x2 _ (A0.rd) h1 h2 hx1 hx2 (files_1m hx0)).mono ?_
        rintro e w3 ⟨Wv0, rfl, W0, hb3⟩
        have hs3 := hb3.size
        have hM := ML.keep hM hb3
        have h0 := Rep.below h0 (Nat.le_refl _) hb3
        have A0 := Fresh.below A0 (Nat.le_refl _) hb3
        have HB := HB.trans (Below.mono hb3 HB.size)
        clear A0
        go_wp2_with fail
        refine (to_F _ x0 _ h0 hx0).mono ?_
        rintro e w4 ⟨Xv0, rfl, X0, hb4⟩
        have hs4 := hb4.size
        have hM := ML.keep hM hb4
        have h0 := Rep.below h0 (Nat.le_refl _) hb4
        have W0 := Fresh.below W0 (Nat.le_refl _) hb4
        have HB := HB.trans (Below.mono hb4 HB.size)
        go_wp2_with fail
        refine (implRuleMoveX _ x0 x1 x2 _ (X0.rd) h1 h2 hx1 hx2 (files_1m hx0) hM).mono ?_
        rintro e w5 ⟨Gv0, rfl, G0, hb5⟩
        have hs5 := hb5.size
        have hM := ML.keep hM hb5
        have h0 := Rep.below h0 (Nat.le_refl _) hb5
        have W0 := Fresh.below W0 (Nat.le_refl _) hb5
        have X0 := Fresh.below X0 (Nat.le_refl _) hb5
        have HB := HB.trans (Below.mono hb5 HB.size)
        go_wp2_with fail
        refine (eq_F _ _ _ _ _ G0.rd W0.rd).mono ?_
        rintro e w6 ⟨rfl, hb6⟩
        have hs6 := hb6.size
        have hM := ML.keep hM hb6
        have h0 := Rep.below h0 (Nat.le_refl _) hb6
        have W0 := Fresh.below W0 (Nat.le_refl _) hb6
        have X0 := Fresh.below X0 (Nat.le_refl _) hb6
        have G0 := Fresh.below G0 (Nat.le_refl _) hb6
        have HB := HB.trans (Below.mono hb6 HB.size)
        go_wp2_with fail
        refine (to_F _ x0 _ h0 hx0).mono ?_
        rintro e w7 ⟨Yv0, rfl, Y0, hb7⟩
        have hs7 := hb7.size
        have hM := ML.keep hM hb7
        have h0 := Rep.below h0 (Nat.le_refl _) hb7
        have W0 := Fresh.below W0 (Nat.le_refl _) hb7
        have X0 := Fresh.below X0 (Nat.le_refl _) hb7
        have G0 := Fresh.below G0 (Nat.le_refl _) hb7
        have HB := HB.trans (Below.mono hb7 HB.size)
        go_wp2_with fail
        refine (eq_F _ _ _ _ _ X0.rd Y0.rd).mono ?_
        rintro e w8 ⟨rfl, hb8⟩
        have hs8 := hb8.size
        have hM := ML.keep hM hb8
        have h0 := Rep.below h0 (Nat.le_refl _) hb8
        have W0 := Fresh.below W0 (Nat.le_refl _) hb8
        have X0 := Fresh.below X0 (Nat.le_refl _) hb8
        have G0 := Fresh.below G0 (Nat.le_refl _) hb8
        have Y0 := Fresh.below Y0 (Nat.le_refl _) hb8
        have HB := HB.trans (Below.mono hb8 HB.size)
        clear Y0
        have hc0 := cnt_F_le x0
        obtain ⟨FX0, oX0, nX0, rX0⟩ := X0
        go_wp2_with fail
        refine (mark_F _ _ (1) _ oX0 nX0 (by omega) (by omega)).mono ?_
        rintro e w9 ⟨rfl, SX0⟩
        have hM := hM0.keep (HB.trans (SX0.touch.below HB.size (fun b hb => by have := (rX0 b hb).1; omega)))
        have h0 := Still.args SX0 rX0 h0 (by omega)
        have W0 := Still.fresh SX0 rX0 W0 (by omega)
        have G0 := Still.fresh SX0 rX0 G0 (by omega)
        have hs9 := SX0.touch.size
        have HB := HB.trans (SX0.touch.below HB.size (fun b hb => by have := (rX0 b hb).1; omega))
        clear oX0 nX0 SX0
        go_wp2_with fail
        refine (eq_F _ _ _ _ _ G0.rd W0.rd).mono ?_
        rintro e w10 ⟨rfl, hb10⟩
        have hs10 := hb10.size
        have hM := ML.keep hM hb10
        have h0 := Rep.below h0 (Nat.le_refl _) hb10
        have W0 := Fresh.below W0 (Nat.le_refl _) hb10
        have G0 := Fresh.below G0 (Nat.le_refl _) hb10
        have HB := HB.trans (Below.mono hb10 HB.size)
        have hr0 : cnt_F (ruleMove x0 x1 x2) ≤ 1000000 := rm_cnt x0 x1 x2
        obtain ⟨FG0, oG0, nG0, rG0⟩ := G0
        go_wp2_with fail
        refine (mark_F _ _ (1) _ oG0 nG0 (by omega) (by omega)).mono ?_
        rintro e w11 ⟨rfl, SG0⟩
        have hM := hM0.keep (HB.trans (SG0.touch.below HB.size (fun b hb => by have := (rG0 b hb).1; omega)))
        have h0 := Still.args SG0 rG0 h0 (by omega)
        have W0 := Still.fresh SG0 rG0 W0 (by omega)
        have hs11 := SG0.touch.size
        have HB := HB.trans (SG0.touch.below HB.size (fun b hb => by have := (rG0 b hb).1; omega))
        have H0 := SG0.rdlt
        clear oG0 nG0 SG0
        go_wp2_with fail
        refine (held_F _ (ruleMove x0 x1 x2) (1) _ H0 (by omega) (by omega)).mono ?_
        rintro e w12 ⟨rfl, hb12⟩
        have hs12 := hb12.size
        have hM := ML.keep hM hb12
        have h0 := Rep.below h0 (Nat.le_refl _) hb12
        have W0 := Fresh.below W0 (Nat.le_refl _) hb12
        have H0 := Rep.below H0 (Nat.le_refl _) hb12
        have HB := HB.trans (Below.mono hb12 HB.size)
        go_wp2_with fail
        refine (to_F _ x0 _ h0 hx0).mono ?_
        rintro e w13 ⟨Bv0, rfl, B0, hb13⟩
        have hs13 := hb13.size
        have hM := ML.keep hM hb13
        have h0 := Rep.below h0 (Nat.le_refl _) hb13
        have W0 := Fresh.below W0 (Nat.le_refl _) hb13
        have H0 := Rep.below H0 (Nat.le_refl _) hb13
        have HB := HB.trans (Below.mono hb13 HB.size)
        go_wp2_with fail
        refine (implRuleMoveX _ x0 x1 x2 _ (B0.rd) h1 h2 hx1 hx2 (files_1m hx0) hM).mono ?_
        rintro e w14 ⟨Kv0, rfl, K0, hb14⟩
        have hs14 := hb14.size
        have hM := ML.keep hM hb14
        have h0 := Rep.below h0 (Nat.le_refl _) hb14
        have W0 := Fresh.below W0 (Nat.le_refl _) hb14
        have H0 := Rep.below H0 (Nat.le_refl _) hb14
        have B0 := Fresh.below B0 (Nat.le_refl _) hb14
        have HB := HB.trans (Below.mono hb14 HB.size)
        clear B0
        go_wp2_with fail
        refine (eq_F _ _ _ _ _ K0.rd W0.rd).mono ?_
        rintro e w15 ⟨rfl, hb15⟩
        have hs15 := hb15.size
        have hM := ML.keep hM hb15
        have h0 := Rep.below h0 (Nat.le_refl _) hb15
        have W0 := Fresh.below W0 (Nat.le_refl _) hb15
        have H0 := Rep.below H0 (Nat.le_refl _) hb15
        have K0 := Fresh.below K0 (Nat.le_refl _) hb15
        have HB := HB.trans (Below.mono hb15 HB.size)
        go_wp2_with fail
        refine (held_F _ (ruleMove x0 x1 x2) (1) _ H0 (by omega) (by omega)).mono ?_
        rintro e w16 ⟨rfl, hb16⟩
        have hs16 := hb16.size
        have hM := ML.keep hM hb16
        have h0 := Rep.below h0 (Nat.le_refl _) hb16
        have W0 := Fresh.below W0 (Nat.le_refl _) hb16
        have H0 := Rep.below H0 (Nat.le_refl _) hb16
        have K0 := Fresh.below K0 (Nat.le_refl _) hb16
        have HB := HB.trans (Below.mono hb16 HB.size)
        go_wp2
        go_ret
        exact ⟨rfl, HB⟩
end Go.Proofs.YtfpneepnnoldeaaDoor
