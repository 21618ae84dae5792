/-
  The walk of a law: FnTreeDrop.
-/
import Derived.Test.YtfpneepnnoldeaaDoorDrawTL
import Derived.Test.YtfpneepnnoldeaaDoorWTreeG
import Derived.Test.YtfpneepnnoldeaaDoorWTreeD
import Derived.Test.YtfpneepnnoldeaaDoorVSM
set_option linter.unusedVariables false
namespace Go.Proofs.YtfpneepnnoldeaaDoor
open Go.RowKit Go.Vc
open Go.Vc.Rep (rd)
open Go.Vc.Own (own)

set_option maxHeartbeats 8000000 in
set_option maxRecDepth 100000 in
theorem lawFnTreeDrop (v0 : Value) (bs : List UInt8) (w : World) (h0 : rd (fun b => b < w.heap.size) w [v0] bs) (hM : ML w) :
    Calls Tryd.prog 4 #[v0] w fun e w' => e = .returned (.bool true) ∧ Below w.heap.size w w' := by
  obtain ⟨a0, c0, rfl, hs0⟩ := rd_slice_elim h0
  have hle := hs0.le
  by_cases hbig : 1048576 < bs.length
  · go_enter Tryd.func4, Tryd.ntmps4
    go_wp2
    go_ret
    exact ⟨rfl, Below.refl _ _⟩
  · go_enter Tryd.func4, Tryd.ntmps4
    go_wp2_with fail
    refine (drawTreeDrop_any _ bs w h0 (by omega)).mono ?_
    rintro e w0 ⟨v, t, path, rfl, hSm, hz, ht, HB⟩
    have ht := Rep.lt ht
    have hM := hM.keep HB
    have hS := hSm.short
    have hz9 : path.size ≤ maxLen := by unfold maxLen; omega
    have hzS : ShortS path := short_of (by omega)
    have h9 := hSm.1
    have hx18 : ∀ f, f ∈ t → f.text.length ≤ 18 := fun f hf => (hSm.2 f hf).2
    clear h0 hs0 hle hbig hSm
    obtain ⟨x, hx⟩ : ∃ x, treeDrop t path = x := ⟨_, rfl⟩
    obtain ⟨b, hb⟩ : ∃ b, dropB t path = b := ⟨_, rfl⟩
    have HX := Lib.hid hx
    have HBB := Lib.hid hb
    clear hx hb
    go_wp2_with fail
    refine (implTreeDrop _ t path _ ht (by omega) hS hM HBB.out HX.out).mono ?_
    rintro e w1 ⟨p, rfl, hP, hb1⟩
    have ht := Rep.lt (Rep.keep ht hb1)
    have hM := ML.keep hM hb1
    have HB := HB.trans (hb1.mono HB.size)
    go_wp2_with fail
    refine (specTreeDrop _ t path _ ht hz9 HBB.out HX.out).mono ?_
    rintro e w2 ⟨q, rfl, hQ, hb2⟩
    have ht := Rep.lt (Rep.keep ht hb2)
    have hM := ML.keep hM hb2
    have HB := HB.trans (hb2.mono HB.size)
    have hP := Rep.lt (Rep.keep hP hb2)
    have hbb : (b != b) = false := by simp
    have hbe : (b == b) = true := by simp
    go_wp2_with fail
    refine (smTree_is _ _ x x _ hP hQ (decide_eq_true rfl)).mono ?_
    rintro e w3 ⟨rfl, hb3⟩
    have ht := Rep.lt (Rep.keep ht hb3)
    have hM := ML.keep hM hb3
    have HB := HB.trans (hb3.mono HB.size)
    have hP := Rep.lt (Rep.keep hP hb3)
    have hQ := Rep.lt (Rep.keep hQ hb3)
    cases hT : treeB t with
    | false =>
      go_wp2_with fail
      refine (treeOk_is _ t _ ht hS hM hT).mono ?_
      rintro e w4 ⟨rfl, hb4⟩
      have ht := Rep.lt (Rep.keep ht hb4)
      have hM := ML.keep hM hb4
      have HB := HB.trans (hb4.mono HB.size)
      have hP := Rep.lt (Rep.keep hP hb4)
      have hQ := Rep.lt (Rep.keep hQ hb4)
      go_wp2_with fail
      refine (smTree_is _ _ x x _ hP hQ (decide_eq_true rfl)).mono ?_
      rintro e w5 ⟨rfl, hb5⟩
      have ht := Rep.lt (Rep.keep ht hb5)
      have hM := ML.keep hM hb5
      have HB := HB.trans (hb5.mono HB.size)
      have hP := Rep.lt (Rep.keep hP hb5)
      have hQ := Rep.lt (Rep.keep hQ hb5)
      go_wp2
      go_ret
      exact ⟨rfl, HB⟩
    | true =>
      go_wp2_with fail
      refine (treeOk_is _ t _ ht hS hM hT).mono ?_
      rintro e w6 ⟨rfl, hb6⟩
      have ht := Rep.lt (Rep.keep ht hb6)
      have hM := ML.keep hM hb6
      have HB := HB.trans (hb6.mono HB.size)
      have hP := Rep.lt (Rep.keep hP hb6)
      have hQ := Rep.lt (Rep.keep hQ hb6)
      have hxd : dropT t path = x := by rw [← treeDrop_ok hT]; exact HX.out
      have hTx : treeB x = true := by rw [← hxd]; exact drop_tree hT path
      have hSx : ∀ f, f ∈ x → ShortS f.path := fun f hf => by rw [← hxd] at hf; exact hS f (List.mem_filter.1 hf).1
      have HX2 : Hid (treeDrop x path = x) := by show _ = _; rw [treeDrop_ok hTx, ← hxd, drop_drop]
      have HB2 : Hid (dropB x path = false) := by
        show _ = _
        rw [dropB_ok hTx, show dropT x path = x by rw [← hxd, drop_drop]]
        exact decide_eq_false (by omega)
      have HB3 : Hid (b = decide (x.length < t.length)) := by show _ = _; rw [← HBB.out, dropB_ok hT, hxd]
      have hU : treeUnder x path = [] := by rw [treeUnder_ok hTx, ← hxd, drop_under]
      have hU2 : x.length + (treeUnder t path).length = t.length := by rw [treeUnder_ok hT, ← hxd]; exact drop_sum t path
      have IU := fun (q : World) (v' : Value) (hv : rd (fun b => b < q.heap.size) q [v'] x) (hM : ML q) => implTreeUnder v' x path q hv (by omega) hSx hM
      rw [hU] at IU
      obtain ⟨un, hun⟩ : ∃ un, treeUnder t path = un := ⟨_, rfl⟩
      have IT := fun (q : World) (v' : Value) (hv : rd (fun b => b < q.heap.size) q [v'] t) (hM : ML q) => implTreeUnder v' t path q hv (by omega) hS hM
      rw [hun] at IT hU2
      have hsum : (((x.length : Int) + (un.length : Int)) == (t.length : Int)) = true := by rw [beq_iff_eq]; omega
      have e1 : IntKind.i64.wrap ((x.length : Int) + (un.length : Int)) = (x.length : Int) + (un.length : Int) := IntWalk.i64_in _ (by omega)
      clear hxd hU hun hT hbb hbe
      go_wp2_with fail
      refine (implTreeDrop _ x path _ hP (by omega) hSx hM HB2.out HX2.out).mono ?_
      rintro e w7 ⟨y, rfl, hY, hb7⟩
      have ht := Rep.lt (Rep.keep ht hb7)
      have hM := ML.keep hM hb7
      have HB := HB.trans (hb7.mono HB.size)
      have hP := Rep.lt (Rep.keep hP hb7)
      obtain ⟨ay, cy, hyv, _⟩ := rd_slice_elim hY
      subst hyv
      obtain ⟨ap, cp, hpv, _⟩ := rd_slice_elim hP
      subst hpv
      obtain ⟨at_, ct, htv, _⟩ := rd_slice_elim ht
      subst htv
      go_wp2_with fail
      refine (treeOk_is _ x _ hP hSx hM hTx).mono ?_
      rintro e w8 ⟨rfl, hb8⟩
      have ht := Rep.lt (Rep.keep ht hb8)
      have hM := ML.keep hM hb8
      have HB := HB.trans (hb8.mono HB.size)
      have hP := Rep.lt (Rep.keep hP hb8)
      have hY := Rep.lt (Rep.keep hY hb8)
      go_wp2_with fail
      refine (IU _ _ hP hM).mono ?_
      rintro e w9 ⟨u, rfl, hUv, hb9⟩
      have ht := Rep.lt (Rep.keep ht hb9)
      have hM := ML.keep hM hb9
      have HB := HB.trans (hb9.mono HB.size)
      have hP := Rep.lt (Rep.keep hP hb9)
      have hY := Rep.lt (Rep.keep hY hb9)
      obtain ⟨au, cu, huv, _⟩ := hUv.shape
      subst huv
      clear hUv
      go_wp2_with fail
      refine (IT _ _ ht hM).mono ?_
      rintro e w10 ⟨u2, rfl, hUv, hb10⟩
      have ht := Rep.lt (Rep.keep ht hb10)
      have hM := ML.keep hM hb10
      have HB := HB.trans (hb10.mono HB.size)
      have hP := Rep.lt (Rep.keep hP hb10)
      have hY := Rep.lt (Rep.keep hY hb10)
      obtain ⟨au2, cu2, huv2, _⟩ := hUv.shape
      subst huv2
      clear hUv
      go_wp2_with fail
      refine (smTree_is _ _ x x _ hY hP (decide_eq_true rfl)).mono ?_
      rintro e w11 ⟨rfl, hb11⟩
      have ht := Rep.lt (Rep.keep ht hb11)
      have hM := ML.keep hM hb11
      have HB := HB.trans (hb11.mono HB.size)
      have hP := Rep.lt (Rep.keep hP hb11)
      have hY := Rep.lt (Rep.keep hY hb11)
      have HB3 := HB3.out
      subst HB3
      go_wp2
      go_ret
      exact ⟨by simp, HB⟩
end Go.Proofs.YtfpneepnnoldeaaDoor
