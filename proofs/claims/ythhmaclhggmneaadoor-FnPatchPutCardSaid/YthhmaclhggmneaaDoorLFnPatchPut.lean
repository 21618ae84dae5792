/-
  The walk of a law: FnPatchPut.
-/
import Derived.Test.YthhmaclhggmneaaDoorDrawPP
import Derived.Test.YthhmaclhggmneaaDoorWPut2
import Derived.Test.YthhmaclhggmneaaDoorWGetP
import Derived.Test.YthhmaclhggmneaaDoorSmCh
set_option linter.unusedVariables false
namespace Go.Proofs.YthhmaclhggmneaaDoor
open Go.RowKit Go.Vc
open Go.Vc.Rep (rd)
open Go.Vc.Own (own)
set_option maxHeartbeats 8000000 in
set_option maxRecDepth 100000 in
theorem lawFnPatchPut (v0 : Value) (bs : List UInt8) (w : World) (h0 : rd (fun b => b < w.heap.size) w [v0] bs) (hM : ML w) (hV : NumV w) :
    Calls Tryd.prog 4 #[v0] w fun e w' => e = .returned (.bool true) ∧ Below w.heap.size w w' := by
  obtain ⟨a0, c0, rfl, hs0⟩ := rd_slice_elim h0
  have hle := hs0.le
  by_cases hbig : 1048576 < bs.length
  · go_enter Tryd.func4, Tryd.ntmps4
    go_wp2
    go_ret
    exact ⟨rfl, Below.refl _ _⟩
  go_enter Tryd.func4, Tryd.ntmps4
  go_wp2_with fail
  refine (drawPatchPut_any _ bs w h0 (by omega)).mono ?_
  rintro e w1 ⟨v, d, rfl, hd, hb1⟩
  have hM1 := hM.keep hb1
  have hV1 := hV.keep hb1
  obtain ⟨ad, cd, hdv, _⟩ := rd_slice_elim hd
  subst hdv
  have hd := Rep.lt hd
  clear h0 hs0 hle hbig hM hV
  have hpz := patchPut_size d
  obtain ⟨u, hu⟩ : ∃ u, u = patchPut d := ⟨_, rfl⟩
  have I1 := Lib.hid (fun (q : World) (hq : rd (fun b => b < w1.heap.size) q [.slice ad d.length cd] d) => implPatchPut _ d q hq)
  have I2 := Lib.hid (fun (q : World) (hq : rd (fun b => b < w1.heap.size) q [.slice ad d.length cd] d) => specPatchPut _ d q hq)
  rw [← hu] at I1 I2 hpz
  have HU := Lib.hid hu
  clear hu
  go_wp2_with fail
  refine (I1.out _ hd).mono ?_
  rintro e w2 ⟨rfl, hb2⟩
  have hd2 := Rep.keep hd hb2
  go_wp2_with fail
  refine (I2.out _ hd2).mono ?_
  rintro e w3 ⟨rfl, hb3⟩
  have hd3 := Rep.keep (Rep.lt hd2) hb3
  have hB3 := hb1.trans ((hb2.mono hb1.size).trans (hb3.mono (by have := hb1.size; have := hb2.size; omega)))
  have hM3 := (hM1.keep hb2).keep hb3
  have hV3 := (hV1.keep hb2).keep hb3
  clear hd hd2 hb1 hb2 hb3 hM1 hV1
  cases hpb : patchB d with
  | false =>
    have HPB := Lib.hid hpb
    clear hpb
    go_wp2_with fail
    refine (patchOk_is _ d _ hd3 HPB.out).mono ?_
    rintro e w4 ⟨rfl, hb4⟩
    have hd4 := Rep.keep (Rep.lt hd3) hb4
    have hB4 := hB3.trans (hb4.mono hB3.size)
    go_wp2_with fail
    refine (specPatchOk_is _ d _ hd4 HPB.out).mono ?_
    rintro e w5 ⟨rfl, hb5⟩
    have hd5 := Rep.keep (Rep.lt hd4) hb5
    have hB5 := hB4.trans (hb5.mono hB4.size)
    go_wp2_with fail
    refine (patchOk_is _ d _ hd5 HPB.out).mono ?_
    rintro e w6 ⟨rfl, hb6⟩
    have hd6 := Rep.keep (Rep.lt hd5) hb6
    have hB6 := hB5.trans (hb6.mono hB5.size)
    have I3 := specPatchPut _ d w6 hd6
    rw [← HU.out] at I3
    go_wp2_with fail
    refine I3.mono ?_
    rintro e w7 ⟨rfl, hb7⟩
    have hd7 := Rep.keep (Rep.lt hd6) hb7
    have hB7 := hB6.trans (hb7.mono hB6.size)
    go_wp2_with fail
    refine (patchOk_is _ d _ hd7 HPB.out).mono ?_
    rintro e w8 ⟨rfl, hb8⟩
    have hd8 := Rep.keep (Rep.lt hd7) hb8
    have hB8 := hB7.trans (hb8.mono hB7.size)
    go_wp2_with fail
    refine (specPatchOk_is _ d _ hd8 HPB.out).mono ?_
    rintro e w9 ⟨rfl, hb9⟩
    have hB9 := hB8.trans (hb9.mono hB8.size)
    go_wp2
    go_ret
    exact ⟨rfl, hB9⟩
  | true =>
    have HPB := Lib.hid hpb
    have HG : Hid (getI u = some d) := by
      show _ = _
      rw [HU.out]
      unfold patchPut
      rw [if_pos hpb]
      exact getI_put hpb
    clear hpb
    go_wp2_with fail
    refine (patchOk_is _ d _ hd3 HPB.out).mono ?_
    rintro e w4 ⟨rfl, hb4⟩
    have hd4 := Rep.keep (Rep.lt hd3) hb4
    have hB4 := hB3.trans (hb4.mono hB3.size)
    go_wp2_with fail
    refine (specPatchOk_is _ d _ hd4 HPB.out).mono ?_
    rintro e w5 ⟨rfl, hb5⟩
    have hd5 := Rep.keep (Rep.lt hd4) hb5
    have hB5 := hB4.trans (hb5.mono hB4.size)
    go_wp2_with fail
    refine (patchOk_is _ d _ hd5 HPB.out).mono ?_
    rintro e w6 ⟨rfl, hb6⟩
    have hd6 := Rep.keep (Rep.lt hd5) hb6
    have hB6 := hB5.trans (hb6.mono hB5.size)
    have hM6 := ((hM3.keep hb4).keep hb5).keep hb6
    have hV6 := ((hV3.keep hb4).keep hb5).keep hb6
    have I4 := implPatchGet u w6 (by omega) hM6 hV6
    rw [HG.out] at I4
    go_wp2_with fail
    refine I4.mono ?_
    rintro e w7 ⟨x, rfl, hx, hb7⟩
    have hx : Fresh w6.heap.size w7.heap.size w7 [x] d := hx
    obtain ⟨ax, cx, hxv, _⟩ := hx.shape
    subst hxv
    have hd7 := Rep.keep (Rep.lt hd6) hb7
    have hB7 := hB6.trans (hb7.mono hB6.size)
    go_wp2_with fail
    refine (smHunks_ch _ _ d _ hx.rd hd7).mono ?_
    rintro e w8 ⟨rfl, hb8⟩
    have hB8 := hB7.trans (hb8.mono hB7.size)
    go_wp2
    go_ret
    exact ⟨rfl, hB8⟩
end Go.Proofs.YthhmaclhggmneaaDoor
