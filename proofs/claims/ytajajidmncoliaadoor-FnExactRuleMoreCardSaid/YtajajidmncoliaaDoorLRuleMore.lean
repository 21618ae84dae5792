/-
  The walk of the law 'FnExactRuleMore'.
-/
import Derived.Test.YtajajidmncoliaaDoorFilesS
import Derived.Test.YtajajidmncoliaaDoorWMore
import Derived.Test.YtajajidmncoliaaDoorWMoreS
import Derived.Test.YtajajidmncoliaaDoorLost2
set_option linter.unusedVariables false
namespace Go.Proofs.YtajajidmncoliaaDoor
open Go.RowKit Go.Vc
open Go.Vc.Rep (rd)
open Go.Vc.Own (own)

set_option maxHeartbeats 4000000 in
set_option maxRecDepth 100000 in
theorem lawRuleMore (v0 : Value) (x0 : List File) (v1 : Value) (x1 : List File) (w : World) (h0 : rd (fun b => b < w.heap.size) w [v0] x0) (h1 : rd (fun b => b < w.heap.size) w [v1] x1) (hM : ML w) :
    Calls Tryd.prog 11 #[v0, v1] w fun e w' => e = .returned (.bool true) ∧ Below w.heap.size w w' := by
  have HB := Below.refl w.heap.size w
  have hM0 := hM
  go_enter Tryd.func11, Tryd.ntmps11
  go_wp2_with fail
  refine (sz_F _ x0 (1048576) _ h0 (by omega) (by omega)).mono ?_
  rintro e w1 ⟨rfl, hb1⟩
  have hs1 := hb1.size
  have hM := ML.keep hM hb1
  have h0 := Rep.below h0 (Nat.le_refl _) hb1
  have h1 := Rep.below h1 (Nat.le_refl _) hb1
  have HB := HB.trans (Below.mono hb1 HB.size)
  by_cases hn0 : sub (1048576) (bulk_F x0) < 0
  · go_wp2
    go_ret
    exact ⟨rfl, HB⟩
  · have hp0 := sub_pos (show 0 ≤ sub (1048576) (bulk_F x0) by omega)
    have hq0 := hp0.1
    have hle0 := sub_le (l := 1048576) (bulk_F x0) (by omega)
    have hx0 : bulk_F x0 ≤ 1048576 := by omega
    clear hp0
    go_wp2_with fail
    refine (sz_F _ x1 (sub (1048576) (bulk_F x0)) _ h1 (by omega) (by omega)).mono ?_
    rintro e w2 ⟨rfl, hb2⟩
    have hs2 := hb2.size
    have hM := ML.keep hM hb2
    have h0 := Rep.below h0 (Nat.le_refl _) hb2
    have h1 := Rep.below h1 (Nat.le_refl _) hb2
    have HB := HB.trans (Below.mono hb2 HB.size)
    by_cases hn1 : sub (sub (1048576) (bulk_F x0)) (bulk_F x1) < 0
    · go_wp2
      go_ret
      exact ⟨rfl, HB⟩
    · have hp1 := sub_pos (show 0 ≤ sub (sub (1048576) (bulk_F x0)) (bulk_F x1) by omega)
      have hq1 := hp1.1
      have hle1 := sub_le (l := sub (1048576) (bulk_F x0)) (bulk_F x1) (by omega)
      have hx1 : bulk_F x1 ≤ 1048576 := by omega
      clear hp1
      go_wp2_with fail
      refine (to_F _ x0 _ h0 hx0).mono ?_
      rintro e w3 ⟨Av0, rfl, A0, hb3⟩
      have hs3 := hb3.size
      have hM := ML.keep hM hb3
      have h0 := Rep.below h0 (Nat.le_refl _) hb3
      have h1 := Rep.below h1 (Nat.le_refl _) hb3
      have HB := HB.trans (Below.mono hb3 HB.size)
      go_wp2_with fail
      refine (to_F _ x1 _ h1 hx1).mono ?_
      rintro e w4 ⟨Av1, rfl, A1, hb4⟩
      have hs4 := hb4.size
      have hM := ML.keep hM hb4
      have h0 := Rep.below h0 (Nat.le_refl _) hb4
      have h1 := Rep.below h1 (Nat.le_refl _) hb4
      have A0 := Fresh.below A0 (Nat.le_refl _) hb4
      have HB := HB.trans (Below.mono hb4 HB.size)
      go_wp2_with fail
      refine (specRuleMore _ x0 _ x1 _ (A0.rd) (A1.rd)).mono ?_
      rintro e w5 ⟨Wv0, rfl, W0, hb5⟩
      have hs5 := hb5.size
      have hM := ML.keep hM hb5
      have h0 := Rep.below h0 (Nat.le_refl _) hb5
      have h1 := Rep.below h1 (Nat.le_refl _) hb5
      have A0 := Fresh.below A0 (Nat.le_refl _) hb5
      have A1 := Fresh.below A1 (Nat.le_refl _) hb5
      have HB := HB.trans (Below.mono hb5 HB.size)
      clear A0 A1
      go_wp2_with fail
      refine (to_F _ x0 _ h0 hx0).mono ?_
      rintro e w6 ⟨Xv0, rfl, X0, hb6⟩
      have hs6 := hb6.size
      have hM := ML.keep hM hb6
      have h0 := Rep.below h0 (Nat.le_refl _) hb6
      have h1 := Rep.below h1 (Nat.le_refl _) hb6
      have W0 := Fresh.below W0 (Nat.le_refl _) hb6
      have HB := HB.trans (Below.mono hb6 HB.size)
      go_wp2_with fail
      refine (to_F _ x1 _ h1 hx1).mono ?_
      rintro e w7 ⟨Xv1, rfl, X1, hb7⟩
      have hs7 := hb7.size
      have hM := ML.keep hM hb7
      have h0 := Rep.below h0 (Nat.le_refl _) hb7
      have h1 := Rep.below h1 (Nat.le_refl _) hb7
      have W0 := Fresh.below W0 (Nat.le_refl _) hb7
      have X0 := Fresh.below X0 (Nat.le_refl _) hb7
      have HB := HB.trans (Below.mono hb7 HB.size)
      go_wp2_with fail
      refine (implRuleMore _ x0 _ x1 _ (X0.rd) (X1.rd) (files_short hx0) (files_short hx1) hM).mono ?_
      rintro e w8 ⟨Gv0, rfl, G0, hb8⟩
      have hs8 := hb8.size
      have hM := ML.keep hM hb8
      have h0 := Rep.below h0 (Nat.le_refl _) hb8
      have h1 := Rep.below h1 (Nat.le_refl _) hb8
      have W0 := Fresh.below W0 (Nat.le_refl _) hb8
      have X0 := Fresh.below X0 (Nat.le_refl _) hb8
      have X1 := Fresh.below X1 (Nat.le_refl _) hb8
      have HB := HB.trans (Below.mono hb8 HB.size)
      go_wp2_with fail
      refine (eq_L _ _ _ _ _ G0.rd W0.rd).mono ?_
      rintro e w9 ⟨rfl, hb9⟩
      have hs9 := hb9.size
      have hM := ML.keep hM hb9
      have h0 := Rep.below h0 (Nat.le_refl _) hb9
      have h1 := Rep.below h1 (Nat.le_refl _) hb9
      have W0 := Fresh.below W0 (Nat.le_refl _) hb9
      have X0 := Fresh.below X0 (Nat.le_refl _) hb9
      have X1 := Fresh.below X1 (Nat.le_refl _) hb9
      have G0 := Fresh.below G0 (Nat.le_refl _) hb9
      have HB := HB.trans (Below.mono hb9 HB.size)
      go_wp2_with fail
      refine (to_F _ x0 _ h0 hx0).mono ?_
      rintro e w10 ⟨Yv0, rfl, Y0, hb10⟩
      have hs10 := hb10.size
      have hM := ML.keep hM hb10
      have h0 := Rep.below h0 (Nat.le_refl _) hb10
      have h1 := Rep.below h1 (Nat.le_refl _) hb10
      have W0 := Fresh.below W0 (Nat.le_refl _) hb10
      have X0 := Fresh.below X0 (Nat.le_refl _) hb10
      have X1 := Fresh.below X1 (Nat.le_refl _) hb10
      have G0 := Fresh.below G0 (Nat.le_refl _) hb10
      have HB := HB.trans (Below.mono hb10 HB.size)
      go_wp2_with fail
      refine (eq_F _ _ _ _ _ X0.rd Y0.rd).mono ?_
      rintro e w11 ⟨rfl, hb11⟩
      have hs11 := hb11.size
      have hM := ML.keep hM hb11
      have h0 := Rep.below h0 (Nat.le_refl _) hb11
      have h1 := Rep.below h1 (Nat.le_refl _) hb11
      have W0 := Fresh.below W0 (Nat.le_refl _) hb11
      have X0 := Fresh.below X0 (Nat.le_refl _) hb11
      have X1 := Fresh.below X1 (Nat.le_refl _) hb11
      have G0 := Fresh.below G0 (Nat.le_refl _) hb11
      have Y0 := Fresh.below Y0 (Nat.le_refl _) hb11
      have HB := HB.trans (Below.mono hb11 HB.size)
      clear Y0
      go_wp2_with fail
      refine (to_F _ x1 _ h1 hx1).mono ?_
      rintro e w12 ⟨Yv1, rfl, Y1, hb12⟩
      have hs12 := hb12.size
      have hM := ML.keep hM hb12
      have h0 := Rep.below h0 (Nat.le_refl _) hb12
      have h1 := Rep.below h1 (Nat.le_refl _) hb12
      have W0 := Fresh.below W0 (Nat.le_refl _) hb12
      have X0 := Fresh.below X0 (Nat.le_refl _) hb12
      have X1 := Fresh.below X1 (Nat.le_refl _) hb12
      have G0 := Fresh.below G0 (Nat.le_refl _) hb12
      have HB := HB.trans (Below.mono hb12 HB.size)
      go_wp2_with fail
      refine (eq_F _ _ _ _ _ X1.rd Y1.rd).mono ?_
      rintro e w13 ⟨rfl, hb13⟩
      have hs13 := hb13.size
      have hM := ML.keep hM hb13
      have h0 := Rep.below h0 (Nat.le_refl _) hb13
      have h1 := Rep.below h1 (Nat.le_refl _) hb13
      have W0 := Fresh.below W0 (Nat.le_refl _) hb13
      have X0 := Fresh.below X0 (Nat.le_refl _) hb13
      have X1 := Fresh.below X1 (Nat.le_refl _) hb13
      have G0 := Fresh.below G0 (Nat.le_refl _) hb13
      have Y1 := Fresh.below Y1 (Nat.le_refl _) hb13
      have HB := HB.trans (Below.mono hb13 HB.size)
      clear Y1
      have hc0 := cnt_F_le x0
      obtain ⟨FX0, oX0, nX0, rX0⟩ := X0
      go_wp2_with fail
      refine (mark_F _ _ (1) _ oX0 nX0 (by omega) (by omega)).mono ?_
      rintro e w14 ⟨rfl, SX0⟩
      have hM := hM0.keep (HB.trans (SX0.touch.below HB.size (fun b hb => by have := (rX0 b hb).1; omega)))
      have h0 := Still.args SX0 rX0 h0 (by omega)
      have h1 := Still.args SX0 rX0 h1 (by omega)
      have W0 := Still.fresh SX0 rX0 W0 (by omega)
      have X1 := Still.fresh SX0 rX0 X1 (by omega)
      have G0 := Still.fresh SX0 rX0 G0 (by omega)
      have hs14 := SX0.touch.size
      have HB := HB.trans (SX0.touch.below HB.size (fun b hb => by have := (rX0 b hb).1; omega))
      clear oX0 nX0 SX0
      have hc1 := cnt_F_le x1
      obtain ⟨FX1, oX1, nX1, rX1⟩ := X1
      go_wp2_with fail
      refine (mark_F _ _ (1 + cnt_F x0) _ oX1 nX1 (by omega) (by omega)).mono ?_
      rintro e w15 ⟨rfl, SX1⟩
      have hM := hM0.keep (HB.trans (SX1.touch.below HB.size (fun b hb => by have := (rX1 b hb).1; omega)))
      have h0 := Still.args SX1 rX1 h0 (by omega)
      have h1 := Still.args SX1 rX1 h1 (by omega)
      have W0 := Still.fresh SX1 rX1 W0 (by omega)
      have G0 := Still.fresh SX1 rX1 G0 (by omega)
      have hs15 := SX1.touch.size
      have HB := HB.trans (SX1.touch.below HB.size (fun b hb => by have := (rX1 b hb).1; omega))
      clear oX1 nX1 SX1
      go_wp2_with fail
      refine (eq_L _ _ _ _ _ G0.rd W0.rd).mono ?_
      rintro e w16 ⟨rfl, hb16⟩
      have hs16 := hb16.size
      have hM := ML.keep hM hb16
      have h0 := Rep.below h0 (Nat.le_refl _) hb16
      have h1 := Rep.below h1 (Nat.le_refl _) hb16
      have W0 := Fresh.below W0 (Nat.le_refl _) hb16
      have G0 := Fresh.below G0 (Nat.le_refl _) hb16
      have HB := HB.trans (Below.mono hb16 HB.size)
      have hr0 : cnt_L (ruleMore x0 x1) ≤ 1000000 := by have := cnt_few (ruleMore_len x0 x1); omega
      obtain ⟨FG0, oG0, nG0, rG0⟩ := G0
      go_wp2_with fail
      refine (mark_L _ _ (1) _ oG0 nG0 (by omega) (by omega)).mono ?_
      rintro e w17 ⟨rfl, SG0⟩
      have hM := hM0.keep (HB.trans (SG0.touch.below HB.size (fun b hb => by have := (rG0 b hb).1; omega)))
      have h0 := Still.args SG0 rG0 h0 (by omega)
      have h1 := Still.args SG0 rG0 h1 (by omega)
      have W0 := Still.fresh SG0 rG0 W0 (by omega)
      have hs17 := SG0.touch.size
      have HB := HB.trans (SG0.touch.below HB.size (fun b hb => by have := (rG0 b hb).1; omega))
      have H0 := SG0.rdlt
      clear oG0 nG0 SG0
      go_wp2_with fail
      refine (held_L _ (ruleMore x0 x1) (1) _ H0 (by omega) (by omega)).mono ?_
      rintro e w18 ⟨rfl, hb18⟩
      have hs18 := hb18.size
      have hM := ML.keep hM hb18
      have h0 := Rep.below h0 (Nat.le_refl _) hb18
      have h1 := Rep.below h1 (Nat.le_refl _) hb18
      have W0 := Fresh.below W0 (Nat.le_refl _) hb18
      have H0 := Rep.below H0 (Nat.le_refl _) hb18
      have HB := HB.trans (Below.mono hb18 HB.size)
      go_wp2_with fail
      refine (to_F _ x0 _ h0 hx0).mono ?_
      rintro e w19 ⟨Bv0, rfl, B0, hb19⟩
      have hs19 := hb19.size
      have hM := ML.keep hM hb19
      have h0 := Rep.below h0 (Nat.le_refl _) hb19
      have h1 := Rep.below h1 (Nat.le_refl _) hb19
      have W0 := Fresh.below W0 (Nat.le_refl _) hb19
      have H0 := Rep.below H0 (Nat.le_refl _) hb19
      have HB := HB.trans (Below.mono hb19 HB.size)
      go_wp2_with fail
      refine (to_F _ x1 _ h1 hx1).mono ?_
      rintro e w20 ⟨Bv1, rfl, B1, hb20⟩
      have hs20 := hb20.size
      have hM := ML.keep hM hb20
      have h0 := Rep.below h0 (Nat.le_refl _) hb20
      have h1 := Rep.below h1 (Nat.le_refl _) hb20
      have W0 := Fresh.below W0 (Nat.le_refl _) hb20
      have H0 := Rep.below H0 (Nat.le_refl _) hb20
      have B0 := Fresh.below B0 (Nat.le_refl _) hb20
      have HB := HB.trans (Below.mono hb20 HB.size)
      go_wp2_with fail
      refine (implRuleMore _ x0 _ x1 _ (B0.rd) (B1.rd) (files_short hx0) (files_short hx1) hM).mono ?_
      rintro e w21 ⟨Kv0, rfl, K0, hb21⟩
      have hs21 := hb21.size
      have hM := ML.keep hM hb21
      have h0 := Rep.below h0 (Nat.le_refl _) hb21
      have h1 := Rep.below h1 (Nat.le_refl _) hb21
      have W0 := Fresh.below W0 (Nat.le_refl _) hb21
      have H0 := Rep.below H0 (Nat.le_refl _) hb21
      have B0 := Fresh.below B0 (Nat.le_refl _) hb21
      have B1 := Fresh.below B1 (Nat.le_refl _) hb21
      have HB := HB.trans (Below.mono hb21 HB.size)
      clear B0 B1
      go_wp2_with fail
      refine (eq_L _ _ _ _ _ K0.rd W0.rd).mono ?_
      rintro e w22 ⟨rfl, hb22⟩
      have hs22 := hb22.size
      have hM := ML.keep hM hb22
      have h0 := Rep.below h0 (Nat.le_refl _) hb22
      have h1 := Rep.below h1 (Nat.le_refl _) hb22
      have W0 := Fresh.below W0 (Nat.le_refl _) hb22
      have H0 := Rep.below H0 (Nat.le_refl _) hb22
      have K0 := Fresh.below K0 (Nat.le_refl _) hb22
      have HB := HB.trans (Below.mono hb22 HB.size)
      go_wp2_with fail
      refine (held_L _ (ruleMore x0 x1) (1) _ H0 (by omega) (by omega)).mono ?_
      rintro e w23 ⟨rfl, hb23⟩
      have hs23 := hb23.size
      have hM := ML.keep hM hb23
      have h0 := Rep.below h0 (Nat.le_refl _) hb23
      have h1 := Rep.below h1 (Nat.le_refl _) hb23
      have W0 := Fresh.below W0 (Nat.le_refl _) hb23
      have H0 := Rep.below H0 (Nat.le_refl _) hb23
      have K0 := Fresh.below K0 (Nat.le_refl _) hb23
      have HB := HB.trans (Below.mono hb23 HB.size)
      go_wp2
      go_ret
      exact ⟨rfl, HB⟩
end Go.Proofs.YtajajidmncoliaaDoor
