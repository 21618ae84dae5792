/-
  The walk of a law: FnPatchGet.
-/
import Derived.Test.YthhmaclhggmneaaDoorDrawPP
import Derived.Test.YthhmaclhggmneaaDoorWPut2
import Derived.Test.YthhmaclhggmneaaDoorWGetP
import Derived.Test.YthhmaclhggmneaaDoorWGetS
import Derived.Test.YthhmaclhggmneaaDoorSmCh
set_option linter.unusedVariables false
namespace Go.Proofs.YthhmaclhggmneaaDoor
open Go.RowKit Go.Vc
open Go.Vc.Rep (rd)
open Go.Vc.Own (own)
set_option maxHeartbeats 8000000 in
set_option maxRecDepth 100000 in
theorem lawFnPatchGet (v0 : Value) (bs : List UInt8) (w : World) (h0 : rd (fun b => b < w.heap.size) w [v0] bs) (hM : ML w) (hV : NumV w) :
    Calls Tryd.prog 5 #[v0] w fun e w' => e = .returned (.bool true) ∧ Below w.heap.size w w' := by
  obtain ⟨a0, c0, rfl, hs0⟩ := rd_slice_elim h0
  have hle := hs0.le
  by_cases hbig : 1048576 < bs.length
  · go_enter Tryd.func5, Tryd.ntmps5
    go_wp2
    go_ret
    exact ⟨rfl, Below.refl _ _⟩
  go_enter Tryd.func5, Tryd.ntmps5
  go_wp2_with fail
  refine (drawPatchGet_any _ bs w h0 (by omega)).mono ?_
  rintro e w1 ⟨s, rfl, hsz, hb1⟩
  have hM1 := hM.keep hb1
  have hV1 := hV.keep hb1
  clear h0 hs0 hle hbig hM hV
  have HSN := Lib.hid (fun d (h : getI s = some d) => getI_sound h)
  have I1 := Lib.hid (implPatchGet s w1 (by omega) hM1 hV1)
  have I2 := Lib.hid (fun q => specPatchGet s q (by omega))
  rw [← get_same s] at I2
  obtain ⟨G, hG⟩ : ∃ G, G = getI s := ⟨_, rfl⟩
  rw [← hG] at I1 I2 HSN
  clear hG
  go_wp2_with fail
  refine I1.out.mono ?_
  rintro e w2 ⟨x, rfl, hx, hb2⟩
  obtain ⟨ax, cx, hxv, _⟩ := hx.shape
  subst hxv
  have hB2 := hb1.trans (hb2.mono hb1.size)
  go_wp2_with fail
  refine (I2.out _).mono ?_
  rintro e w3 ⟨y, rfl, hy, hb3⟩
  obtain ⟨ay, cy, hyv, _⟩ := hy.shape
  subst hyv
  have hx3 := hx.below (Nat.le_refl _) hb3
  have hB3 := hB2.trans (hb3.mono hB2.size)
  have hz23 : w2.heap.size ≤ w3.heap.size := hb3.size
  clear I1 I2 hb1 hb2 hb3 hB2 hx hM1 hV1
  cases G with
  | none =>
    clear HSN
    have hx3 : Fresh w1.heap.size w2.heap.size w3 [.slice ax (([] : List Hunk)).length cx] ([] : List Hunk) := hx3
    have hy : Fresh w2.heap.size w3.heap.size w3 [.slice ay (([] : List Hunk)).length cy] ([] : List Hunk) := hy
    go_wp2_with fail
    refine (smHunks_ch _ _ [] _ hx3.rd hy.rd).mono ?_
    rintro e w4 ⟨rfl, hb4⟩
    have hx4 := hx3.belowm hz23 hb4
    have hy4 := hy.below (Nat.le_refl _) hb4
    have hB4 := hB3.trans (hb4.mono hB3.size)
    go_wp2_with fail
    refine (smHunks_ch _ _ [] _ hx4.rd hy4.rd).mono ?_
    rintro e w5 ⟨rfl, hb5⟩
    have hB5 := hB4.trans (hb5.mono hB4.size)
    go_wp2
    go_ret
    exact ⟨rfl, hB5⟩
  | some d =>
    obtain ⟨k1, k2⟩ := HSN.out d rfl
    have HPB := Lib.hid k1
    have HPS : Hid (patchPut d = s) := by show _ = _; unfold patchPut; rw [if_pos k1]; exact k2
    clear HSN k1 k2
    have hx3 : Fresh w1.heap.size w2.heap.size w3 [.slice ax d.length cx] d := hx3
    have hy : Fresh w2.heap.size w3.heap.size w3 [.slice ay d.length cy] d := hy
    go_wp2_with fail
    refine (smHunks_ch _ _ d _ hx3.rd hy.rd).mono ?_
    rintro e w4 ⟨rfl, hb4⟩
    have hx4 := hx3.belowm hz23 hb4
    have hB4 := hB3.trans (hb4.mono hB3.size)
    have hs4 := hb4.size
    have I5 := implPatchPut _ d w4 hx4.rd
    rw [HPS.out] at I5
    go_wp2_with fail
    refine I5.mono ?_
    rintro e w5 ⟨rfl, hb5⟩
    have hx5 := hx4.belowm (Nat.le_trans hz23 hs4) hb5
    have hB5 := hB4.trans (hb5.mono hB4.size)
    go_wp2_with fail
    refine (patchOk_is _ d _ hx5.rd HPB.out).mono ?_
    rintro e w6 ⟨rfl, hb6⟩
    have hB6 := hB5.trans (hb6.mono hB5.size)
    go_wp2
    go_ret
    exact ⟨rfl, hB6⟩
end Go.Proofs.YthhmaclhggmneaaDoor
