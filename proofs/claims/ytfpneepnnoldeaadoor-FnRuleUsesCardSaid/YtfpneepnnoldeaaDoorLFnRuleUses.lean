/-
  The walk of a law: FnRuleUses.
-/
import Derived.Test.YtfpneepnnoldeaaDoorDrawTL
import Derived.Test.YtfpneepnnoldeaaDoorWUses
import Derived.Test.YtfpneepnnoldeaaDoorWUsesS
import Derived.Test.YtfpneepnnoldeaaDoorVSM
import Derived.Test.YtfpneepnnoldeaaDoorVPB
set_option linter.unusedVariables false
namespace Go.Proofs.YtfpneepnnoldeaaDoor
open Go.RowKit Go.Vc
open Go.Vc.Rep (rd)
open Go.Vc.Own (own)

set_option maxHeartbeats 8000000 in
set_option maxRecDepth 100000 in
theorem lawFnRuleUses (v0 : Value) (bs : List UInt8) (w : World) (h0 : rd (fun b => b < w.heap.size) w [v0] bs) (hM : ML w) :
    Calls Tryd.prog 5 #[v0] w fun e w' => e = .returned (.bool true) ∧ Below w.heap.size w w' := by
  obtain ⟨a0, c0, rfl, hs0⟩ := rd_slice_elim h0
  have hle := hs0.le
  by_cases hbig : 1048576 < bs.length
  · go_enter Tryd.func5, Tryd.ntmps5
    go_wp2
    go_ret
    exact ⟨rfl, Below.refl _ _⟩
  · go_enter Tryd.func5, Tryd.ntmps5
    go_wp2_with fail
    refine (drawRuleUses_any _ bs w h0 (by omega)).mono ?_
    rintro e w0 ⟨v, t, path, rfl, hSm, hz, ht, HB⟩
    have ht := Rep.lt ht
    have hM := hM.keep HB
    have hS := hSm.short
    have hz9 : path.size ≤ maxLen := by unfold maxLen; omega
    have hzS : ShortS path := short_of (by omega)
    have h9 := hSm.1
    have hx18 : ∀ f, f ∈ t → f.text.length ≤ 18 := fun f hf => (hSm.2 f hf).2
    clear h0 hs0 hle hbig hSm
    obtain ⟨x, hx⟩ : ∃ x, ruleUses t path = x := ⟨_, rfl⟩
    have hx8 := ruleUses_len t path
    have IG := fun (q : World) (v' : Value) (hv : rd (fun b => b < q.heap.size) q [v'] t) (hM : ML q) => implRuleUses v' t path q hv hz9 hS hM
    have SG := fun (q : World) (v' : Value) (hv : rd (fun b => b < q.heap.size) q [v'] t) => specRuleUses v' t path q hv hz9
    rw [hx] at IG SG hx8
    have HX := Lib.hid hx
    clear hx
    go_wp2_with fail
    refine (IG _ _ ht hM).mono ?_
    rintro e w1 ⟨p, rfl, hP, hb1⟩
    have ht := Rep.lt (Rep.keep ht hb1)
    have hM := ML.keep hM hb1
    have HB := HB.trans (hb1.mono HB.size)
    have hP := Rep.lt hP.rd
    go_wp2_with fail
    refine (SG _ _ ht).mono ?_
    rintro e w2 ⟨q, rfl, hQ, hb2⟩
    have ht := Rep.lt (Rep.keep ht hb2)
    have hM := ML.keep hM hb2
    have HB := HB.trans (hb2.mono HB.size)
    have hP := Rep.lt (Rep.keep hP hb2)
    have hQ := Rep.lt hQ.rd
    go_wp2_with fail
    refine (smTexts_c _ _ x x _ hP hQ (decide_eq_true rfl)).mono ?_
    rintro e w3 ⟨rfl, hb3⟩
    have ht := Rep.lt (Rep.keep ht hb3)
    have hM := ML.keep hM hb3
    have HB := HB.trans (hb3.mono HB.size)
    have hP := Rep.lt (Rep.keep hP hb3)
    have hQ := Rep.lt (Rep.keep hQ hb3)
    cases hT : treeB t with
    | false =>
      go_wp2_with fail
      refine (treeOk_is _ t _ ht hS hM hT).mono ?_
      rintro e w4 ⟨rfl, hb4⟩
      have ht := Rep.lt (Rep.keep ht hb4)
      have hM := ML.keep hM hb4
      have HB := HB.trans (hb4.mono HB.size)
      have hP := Rep.lt (Rep.keep hP hb4)
      have hQ := Rep.lt (Rep.keep hQ hb4)
      go_wp2_with fail
      refine (SG _ _ ht).mono ?_
      rintro e w5 ⟨q2, rfl, hQ2, hb5⟩
      have ht := Rep.lt (Rep.keep ht hb5)
      have hM := ML.keep hM hb5
      have HB := HB.trans (hb5.mono HB.size)
      have hP := Rep.lt (Rep.keep hP hb5)
      have hQ2 := Rep.lt hQ2.rd
      go_wp2_with fail
      refine (smTexts_c _ _ x x _ hP hQ2 (decide_eq_true rfl)).mono ?_
      rintro e w6 ⟨rfl, hb6⟩
      have ht := Rep.lt (Rep.keep ht hb6)
      have hM := ML.keep hM hb6
      have HB := HB.trans (hb6.mono HB.size)
      have hP := Rep.lt (Rep.keep hP hb6)
      have hQ2 := Rep.lt (Rep.keep hQ2 hb6)
      go_wp2
      go_ret
      exact ⟨rfl, HB⟩
    | true =>
      go_wp2_with fail
      refine (treeOk_is _ t _ ht hS hM hT).mono ?_
      rintro e w7 ⟨rfl, hb7⟩
      have ht := Rep.lt (Rep.keep ht hb7)
      have hM := ML.keep hM hb7
      have HB := HB.trans (hb7.mono HB.size)
      have hP := Rep.lt (Rep.keep hP hb7)
      have hQ := Rep.lt (Rep.keep hQ hb7)
      by_cases hPE : path = ⟨#[]⟩
      · have hpe := empty_t hPE
        clear hPE
        go_wp2_with fail
        refine (SG _ _ ht).mono ?_
        rintro e w8 ⟨q2, rfl, hQ2, hb8⟩
        have ht := Rep.lt (Rep.keep ht hb8)
        have hM := ML.keep hM hb8
        have HB := HB.trans (hb8.mono HB.size)
        have hP := Rep.lt (Rep.keep hP hb8)
        have hQ2 := Rep.lt hQ2.rd
        go_wp2_with fail
        refine (smTexts_c _ _ x x _ hP hQ2 (decide_eq_true rfl)).mono ?_
        rintro e w9 ⟨rfl, hb9⟩
        have ht := Rep.lt (Rep.keep ht hb9)
        have hM := ML.keep hM hb9
        have HB := HB.trans (hb9.mono HB.size)
        have hP := Rep.lt (Rep.keep hP hb9)
        have hQ2 := Rep.lt (Rep.keep hQ2 hb9)
        go_wp2
        go_ret
        exact ⟨rfl, HB⟩
      · have hpe := empty_f hPE
        have HS0 : Hid (SeenP x (usesB path) (t.drop 0) 0) := by
          show SeenP _ _ _ _
          rw [← HX.out, ruleUses, if_pos hT]
          exact ⟨Nat.zero_le _, rfl⟩
        have HUS := Lib.hid (show ∀ f, usesB path f = hasS (seeT ++ path) f.text from fun f => uses_see hPE f)
        obtain ⟨a, c, rfl, hs⟩ := rd_slice_elim ht
        obtain ⟨ap, cp, rfl, hps⟩ := rd_slice_elim hP
        have hsz := HB.size
        have hleP := hps.le
        have hno : ¬ 9223372036854775807 < 4 + path.size := by omega
        have hzs : (seeT ++ path).size ≤ maxLen := by rw [append_size]; unfold maxLen; show 4 + path.size ≤ _; omega
        clear hT hPE
        go_wp2
        go_loopw [6, 7] (fun n i wr => (∃ k m : Nat, k ≤ t.length ∧ m ≤ k ∧ i = .int .i64 k ∧ n = .int .i64 m ∧ Hid (SeenP x (usesB path) (t.drop k) m)) ∧ Below w7.heap.size w7 wr) (fun _ i _ => t.length - (intOf i).toNat)
        case atStart => exact ⟨⟨0, 0, by omega, by omega, rfl, rfl, HS0.out⟩, Below.refl _ _⟩
        case round =>
          obtain ⟨⟨k, m, hk, hm, rfl, rfl, HA⟩, hbr⟩ := hrel
          have hsr := hbr.size
          by_cases hlt : k < t.length
          · obtain ⟨g, off, a1, c1, rfl, hc1, hc2, hz1, hft⟩ := (hs.keep hbr).file hlt
            have HYY := fun hp => seen_yes (P := usesB path) HA.out hlt hp
            have HNN := fun hp => seen_no (P := usesB path) HA.out hlt hp
            obtain ⟨f, hf⟩ : ∃ f, f = t[k] := ⟨_, rfl⟩
            rw [← hf] at hc1 hc2 hz1 hft HYY HNN
            have HU := Lib.hid (HUS.out f)
            have HY := Lib.hid HYY
            have HN := Lib.hid HNN
            clear hf HYY HNN
            cases hu : hasS (seeT ++ path) f.text with
            | true =>
              obtain ⟨hn, hxm, hseen⟩ := HY.out (by rw [HU.out]; exact hu)
              have HSE := Lib.hid hseen
              obtain ⟨g2, off2, rfl, hcx, _⟩ := (hps.keep hbr).str hn
              rw [hxm] at hcx
              go_wp2_with fail
              refine (smHas_is _ f.text (seeT ++ path) _ hft.rd hu).mono ?_
              rintro e w8 ⟨rfl, hb8⟩
              have hbr := hbr.trans (hb8.mono hsr)
              have hsr := hbr.size
              have hc1 := keepc hc1 hb8
              have hcx := keepc hcx hb8
              have hnx : decide (x.length ≤ m) = false := decide_eq_false (by omega)
              have hc1b := BW.cell hc1
              have hcxb := BW.cell hcx
              have hq : decide (f.path = f.path) = true := decide_eq_true rfl
              have hn' : (m : Int) < (x.length : Int) := by omega
              go_wp2
              refine wp_region_bw (by kernel_rfl) (by kernel_rfl) ?_
              repeat (go_big_quiet_step (fail))
              refine wpQuiet_nil ?_
              rintro w1 ⟨⟨_, hbw⟩, rfl⟩
              go_wp2
              go_roundw
              case rel => exact ⟨⟨k + 1, m + 1, by omega, by omega, by go_num, by go_num, HSE.out⟩, hbr.trans (hbw.mono hsr)⟩
              case measure => simp [intOf] <;> omega
            | false =>
              have HSE := Lib.hid (HN.out (by rw [HU.out]; exact hu))
              go_wp2_with fail
              refine (smHas_is _ f.text (seeT ++ path) _ hft.rd hu).mono ?_
              rintro e w8 ⟨rfl, hb8⟩
              have hbr := hbr.trans (hb8.mono hsr)
              go_wp2
              go_roundw
              case rel => exact ⟨⟨k + 1, m, by omega, by omega, by go_num, rfl, HSE.out⟩, hbr⟩
              case measure => simp [intOf] <;> omega
          · have hmx := seen_end HA.out hlt
            have hmm : ((m : Int) == (x.length : Int)) = true := by simp [hmx]
            clear hmx
            go_wp2
            go_ret
            exact ⟨rfl, HB.trans (hbr.mono hsz)⟩
end Go.Proofs.YtfpneepnnoldeaaDoor
