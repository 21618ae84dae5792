/-
  The walk of a law: FnTreeGet.
-/
import Derived.Test.YtajajidmncoliaaDoorDrawTL
import Derived.Test.YtajajidmncoliaaDoorWTreeG
import Derived.Test.YtajajidmncoliaaDoorVSM
set_option linter.unusedVariables false
namespace Go.Proofs.YtajajidmncoliaaDoor
open Go.RowKit Go.Vc
open Go.Vc.Rep (rd)
open Go.Vc.Own (own)

set_option maxHeartbeats 8000000 in
set_option maxRecDepth 100000 in
theorem lawFnTreeGet (v0 : Value) (bs : List UInt8) (w : World) (h0 : rd (fun b => b < w.heap.size) w [v0] bs) (hM : ML w) :
    Calls Tryd.prog 5 #[v0] w fun e w' => e = .returned (.bool true) ∧ Below w.heap.size w w' := by
  obtain ⟨a0, c0, rfl, hs0⟩ := rd_slice_elim h0
  have hle := hs0.le
  by_cases hbig : 1048576 < bs.length
  · go_enter Tryd.func5, Tryd.ntmps5
    go_wp2
    go_ret
    exact ⟨rfl, Below.refl _ _⟩
  · go_enter Tryd.func5, Tryd.ntmps5
    go_wp2_with fail
    refine (drawTreeGet_any _ bs w h0 (by omega)).mono ?_
    rintro e w0 ⟨v, t, path, rfl, hSm, hz, ht, HB⟩
    have ht := Rep.lt ht
    have hM := hM.keep HB
    have hS := hSm.short
    have hz9 : path.size ≤ maxLen := by unfold maxLen; omega
    have hzS : ShortS path := short_of (by omega)
    have h9 := hSm.1
    have hx18 : ∀ f, f ∈ t → f.text.length ≤ 18 := fun f hf => (hSm.2 f hf).2
    clear h0 hs0 hle hbig hSm
    obtain ⟨M, hMM⟩ : ∃ M, treeGet t path = M := ⟨_, rfl⟩
    obtain ⟨b, hb⟩ : ∃ b, M.isSome = b := ⟨_, rfl⟩
    obtain ⟨x, hx⟩ : ∃ x, M.getD [] = x := ⟨_, rfl⟩
    have HMM := Lib.hid hMM
    have IG := fun (q : World) (v' : Value) (hv : rd (fun b => b < q.heap.size) q [v'] t) (hM : ML q) => implTreeGet v' t path q hv hS hM hMM
    have SG := fun (q : World) (v' : Value) (hv : rd (fun b => b < q.heap.size) q [v'] t) => specTreeGet v' t path q hv hMM
    rw [hb, hx] at IG SG
    have HX := Lib.hid hx
    have HBB := Lib.hid hb
    clear hMM hb hx
    go_wp2_with fail
    refine (IG _ _ ht hM).mono ?_
    rintro e w1 ⟨p, rfl, hP, hb1⟩
    have ht := Rep.lt (Rep.keep ht hb1)
    have hM := ML.keep hM hb1
    have HB := HB.trans (hb1.mono HB.size)
    have hP := Rep.lt hP.rd
    go_wp2_with fail
    refine (SG _ _ ht).mono ?_
    rintro e w2 ⟨q, rfl, hQ, hb2⟩
    have ht := Rep.lt (Rep.keep ht hb2)
    have hM := ML.keep hM hb2
    have HB := HB.trans (hb2.mono HB.size)
    have hP := Rep.lt (Rep.keep hP hb2)
    have hQ := Rep.lt hQ.rd
    have hbb : (b != b) = false := by simp
    have hbe : (b == b) = true := by simp
    go_wp2_with fail
    refine (smTexts_c _ _ x x _ hP hQ (decide_eq_true rfl)).mono ?_
    rintro e w3 ⟨rfl, hb3⟩
    have ht := Rep.lt (Rep.keep ht hb3)
    have hM := ML.keep hM hb3
    have HB := HB.trans (hb3.mono HB.size)
    have hP := Rep.lt (Rep.keep hP hb3)
    have hQ := Rep.lt (Rep.keep hQ hb3)
    cases hT : treeB t with
    | false =>
      go_wp2_with fail
      refine (treeOk_is _ t _ ht hS hM hT).mono ?_
      rintro e w4 ⟨rfl, hb4⟩
      have ht := Rep.lt (Rep.keep ht hb4)
      have hM := ML.keep hM hb4
      have HB := HB.trans (hb4.mono HB.size)
      have hP := Rep.lt (Rep.keep hP hb4)
      have hQ := Rep.lt (Rep.keep hQ hb4)
      go_wp2_with fail
      refine (smTexts_c _ _ x x _ hP hQ (decide_eq_true rfl)).mono ?_
      rintro e w5 ⟨rfl, hb5⟩
      have ht := Rep.lt (Rep.keep ht hb5)
      have hM := ML.keep hM hb5
      have HB := HB.trans (hb5.mono HB.size)
      have hP := Rep.lt (Rep.keep hP hb5)
      have hQ := Rep.lt (Rep.keep hQ hb5)
      go_wp2
      go_ret
      exact ⟨rfl, HB⟩
    | true =>
      have HG : Hid (getT t path = M) := by show _ = _; rw [← treeGet_ok hT]; exact HMM.out
      go_wp2_with fail
      refine (treeOk_is _ t _ ht hS hM hT).mono ?_
      rintro e w6 ⟨rfl, hb6⟩
      have ht := Rep.lt (Rep.keep ht hb6)
      have hM := ML.keep hM hb6
      have HB := HB.trans (hb6.mono HB.size)
      have hP := Rep.lt (Rep.keep hP hb6)
      have hQ := Rep.lt (Rep.keep hQ hb6)
      obtain ⟨a, c, rfl, hs⟩ := rd_slice_elim ht
      obtain ⟨ap, cp, rfl, hps⟩ := rd_slice_elim hP
      clear hbb hbe
      have hsz := HB.size
      go_wp2
      go_loopw [9] (fun i wr => (∃ k : Nat, k ≤ t.length ∧ i = .int .i64 k ∧ Hid (getT t path = getT (t.drop k) path)) ∧ Below w6.heap.size w6 wr) (fun i _ => t.length - (intOf i).toNat)
      case atStart => exact ⟨⟨0, by omega, rfl, rfl⟩, Below.refl _ _⟩
      case round =>
        obtain ⟨⟨k, hk, rfl, HA⟩, hbr⟩ := hrel
        by_cases hlt : k < t.length
        · obtain ⟨g, off, a1, c1, rfl, hc1, hc2, hz1, hft⟩ := (hs.keep hbr).file hlt
          by_cases he : t[k].path = path
          · have hM9 := HG.out.symm.trans (getT_hit HA.out hlt he)
            have hb9 : b = true := by rw [← HBB.out, hM9]; rfl
            have hx9 : x = t[k].text := by rw [← HX.out, hM9]; rfl
            have hd : decide (t[k].path = path) = true := decide_eq_true he
            have hdd : decide (x = t[k].text) = true := decide_eq_true hx9
            have HXX := Lib.hid hx9
            subst hb9
            clear he hM9 hx9
            go_wp2_with fail
            refine (smTexts_c _ _ x t[k].text _ (hps.keep hbr).rd hft.rd hdd).mono ?_
            rintro e w9 ⟨rfl, hb9⟩
            go_wp2
            go_ret
            exact ⟨rfl, HB.trans ((hbr.trans (hb9.mono hbr.size)).mono hsz)⟩
          · have HN := Lib.hid (getT_next HA.out hlt he)
            have hd : decide (t[k].path = path) = false := decide_eq_false he
            clear he
            go_wp2
            go_roundw
            case rel => exact ⟨⟨k + 1, by omega, by go_num, HN.out⟩, hbr⟩
            case measure => simp [intOf] <;> omega
        · have hM9 := HG.out.symm.trans (getT_end HA.out hlt)
          have hb9 : b = false := by rw [← HBB.out, hM9]; rfl
          have hx9 : x.length = 0 := by rw [← HX.out, hM9]; rfl
          have hx8 : ((x.length : Int) == 0) = true := by simp [hx9]
          subst hb9
          clear hM9 hx9
          go_wp2
          go_ret
          exact ⟨rfl, HB.trans (hbr.mono hsz)⟩
end Go.Proofs.YtajajidmncoliaaDoor
