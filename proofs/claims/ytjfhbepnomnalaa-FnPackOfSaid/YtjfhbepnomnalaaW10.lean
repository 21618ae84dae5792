/-
  Walks: a text made of another one.
-/
import Derived.Test.YtjfhbepnomnalaaW7
import Derived.Test.YtjfhbepnomnalaaTail
import Derived.Test.YtjfhbepnomnalaaPlain4
namespace Go.Proofs.Ytjfhbepnomnalaa
open Go.RowKit Go.Vc
open Go.Vc.Rep (rd)
open Go.Vc.Own (own)

/-- s[f:h], the bounds integers that are not negative -/
theorem cut_int (a : Option Addr) (n cap : Nat) (f m : Int) (hf : 0 ≤ f) (hm : 0 ≤ m) (h : f + m ≤ n) (hc : n ≤ cap) (w : World) :
    (Instr.slice 29 (.slice a n cap) (some (.int .i64 f)) (some (.int .i64 (f + m))) none).run Try.prog w = .ok (.slice (cutA a cap f.toNat 1) m.toNat (cap - f.toNat)) w := by
  have := run_cut2 slz_string.slt a n cap f.toNat (f + m).toNat (by omega) (by omega) w
  rw [Int.toNat_of_nonneg hf, Int.toNat_of_nonneg (by omega : 0 ≤ f + m)] at this
  rw [show (f + m).toNat - f.toNat = m.toNat by omega] at this
  exact this
theorem cut_len (xs : List ByteArray) (f m : Int) (hf : 0 ≤ f) (hm : 0 ≤ m) (h : f + m ≤ xs.length) : ((xs.drop f.toNat).take m.toNat).length = m.toNat := by simp; omega

set_option maxHeartbeats 2000000 in
set_option maxRecDepth 100000 in
theorem l13Do_any {S T : Nat → Prop} (v u : Value) (xs : List ByteArray) (ds : List Delta) (w : World) (hv : rd S w [v] xs) (hu : rd T w [u] ds) (hd : deltaB ds = true) :
    Calls Try.prog 66 #[v, u] w fun e w' => ∃ v', e = .returned (.tuple #[v', .bool (doB xs ds).2]) ∧ Fresh w.heap.size w'.heap.size w' [v'] (doB xs ds).1 ∧ Below w.heap.size w w' := by
  obtain ⟨a, cap, rfl, hs⟩ := rd_slice_elim (Rep.lt hv)
  obtain ⟨b, cbp, rfl, ht⟩ := rd_slice_elim (Rep.lt hu)
  have hdl := deltaB_len hd
  have hcap := hs.1
  go_enter Try.func66, Try.ntmps66
  go_wp2
  go_loopw [6, 7] (fun out i wr => (∃ (k : Nat) (ol : List ByteArray), k ≤ ds.length ∧ i = .int .i64 k ∧ Fresh w.heap.size wr.heap.size wr [out] ol ∧ ol.length ≤ 20 * k ∧ Hid (applyD xs ds [] = applyD xs (ds.drop k) ol)) ∧ Below w.heap.size w wr) (fun _ i _ => ds.length - (intOf i).toNat)
  case atStart => exact ⟨⟨0, [], by omega, rfl, (Fresh.empty (by decide) _ _ (Nat.le_refl _)).now, by simp, rfl⟩, (Below.refl _ _).alloc (Nat.le_refl _) _⟩
  case round =>
    obtain ⟨⟨k, ol, hk, rfl, hF, hol, HA⟩, hb⟩ := hrel
    obtain ⟨a2, c2, rfl, _⟩ := hF.shape
    by_cases hlt : k < ds.length
    · obtain ⟨hf0, hf1, hm0, hfm, hl0, hl1, hl2⟩ := piece_facts (deltaB_at hd hlt)
      obtain ⟨g, off, bl, nl, rfl, hx0, hx1, hx2, _, _, hl⟩ := ht.delta hlt
      have HX2 := Lib.hid hx2
      have hc0 := BW.cell (keepc hx0 hb)
      have hc1 := BW.cell (keepc hx1 hb)
      clear hx0 hx1 hx2
      have e1 : IntKind.i64.wrap (ds[k].fr + ds[k].many) = ds[k].fr + ds[k].many := IntWalk.i64_in _ (by omega)
      by_cases hc : (xs.length : Int) < ds[k].fr + ds[k].many
      · have hcd : decide ((xs.length : Int) < ds[k].fr + ds[k].many) = true := decide_eq_true hc
        have HN := Lib.hid (doB_none (applyD_bad HA.out hlt hc))
        clear hc hl1 hl2
        go_wp2
        refine wp_region_bw (by kernel_rfl) (by kernel_rfl) ?_
        repeat (go_big_quiet_step (fail))
        refine wpQuiet_nil ?_
        rintro w1 ⟨⟨_, hbw⟩, rfl⟩
        clear e1
        go_wp2
        go_ret2
        exact ⟨.slice none 0 0, by rw [HN.out]; rfl, by rw [HN.out]; exact Fresh.nil _ _ _ (by decide), hb.trans (hbw.mono hb.size)⟩
      · have hcd : decide ((xs.length : Int) < ds[k].fr + ds[k].many) = false := decide_eq_false hc
        have HN := Lib.hid (applyD_next HA.out hlt hc)
        obtain ⟨ys, hys⟩ : ∃ ys, ys = (xs.drop ds[k].fr.toNat).take ds[k].many.toNat := ⟨_, rfl⟩
        have hcl : ys.length = ds[k].many.toNat := by rw [hys]; exact cut_len xs ds[k].fr ds[k].many hf0 hm0 (by omega)
        have HCL := Lib.hid hcl
        have HYS := Lib.hid hys
        clear hys
        have hcut := cut_int a xs.length cap ds[k].fr ds[k].many hf0 hm0 (by omega) hcap
        clear hl1 hl2 hcl
        go_wp2
        refine wp_region_bw (by kernel_rfl) (by kernel_rfl) ?_
        repeat (go_big_quiet_step (fail))
        refine wpQuiet_nil ?_
        rintro w1 ⟨⟨_, hbw⟩, rfl⟩
        have hb1 := hb.trans (hbw.mono hb.size)
        have hF1 := hF.below (Nat.le_refl _) hbw
        have hc0 := BW.next hc0 hbw
        have hc1 := BW.next hc1 hbw
        have hsz1 := hbw.size
        clear hbw hcd
        obtain ⟨wo, rfl⟩ : ∃ wo : World, wo = w1 := ⟨_, rfl⟩
        go_wp2
        refine wp_region_tail 19 (by kernel_rfl) (by kernel_rfl) ?_
        simp only [List.take_succ_cons, List.take_zero, List.drop_succ_cons, List.drop_zero]
        repeat (go_big_quiet_step (fail))
        refine wpQuiet_nil ?_
        rintro w1 ⟨⟨_, hbw⟩, rfl⟩
        clear e1 hcut
        have hb2 := hb1.trans (hbw.mono hb1.size)
        have hF2 := hF1.below (Nat.le_refl _) hbw
        have hy := (((hs.keep hb2).cut (k := ds[k].fr.toNat) (by omega)).take ds[k].many.toNat)
        rw [← HYS.out] at hy
        have hyl : ys.length ≤ 10 := by rw [HCL.out]; omega
        go_wp2_with (first
          | (at_builtin; (with_reducible refine wpList_app_leaf slz_string.slt rfl (.tmp 29) (.tmp 47) rfl rfl hF2 hb2.size rfl HCL.out.symm hy (by omega) (by unfold maxLen; omega) ?_); intro a3 c3 w3 hG; have hb3 := hb2.trans hG.below; have hF3 := (show Fresh w.heap.size w3.heap.size w3 [.slice a3 (ol.length + ys.length) c3] (ol ++ ys) from hG.fresh); have hc2 := keepc HX2.out hb3; have hl3 := hl.keep hb3)
          | (at_builtin; go_must (refine wpList_app_leaf slz_string.slt rfl (.tmp 49) (.tmp 54) rfl rfl hF3 hb3.size rfl rfl hl3 (by simp <;> omega) (by unfold maxLen; simp <;> omega) ?_); intro a4 c4 w4 hG4))
        go_roundw
        case rel => exact ⟨⟨k + 1, ol ++ (ys ++ ds[k].lines), by omega, by go_num, by have := hG4.fresh; rw [List.length_append, List.append_assoc] at this; exact this, by simp; omega, by have := HN.out; rw [← HYS.out] at this; exact this⟩, hb3.trans hG4.below⟩
        case measure => simp [intOf]; omega
    · have HE := Lib.hid (applyD_end HA.out hlt)
      have hF' := hF.rd
      go_wp2_with fail
      refine (l1Ok_any _ _ _ hF').mono ?_
      rintro e w' ⟨rfl, rfl⟩
      cases htx : textB ol with
      | false =>
        have HN := Lib.hid (doB_long HE.out htx)
        clear htx
        go_wp2
        go_ret2
        exact ⟨.slice none 0 0, by rw [HN.out]; rfl, by rw [HN.out]; exact Fresh.nil _ _ _ (by decide), hb⟩
      | true =>
        have HN := Lib.hid (doB_some HE.out htx)
        clear htx
        go_wp2
        go_ret2
        exact ⟨.slice a2 ol.length c2, by rw [HN.out]; rfl, by rw [HN.out]; exact hF, hb⟩

set_option maxHeartbeats 2000000 in
set_option maxRecDepth 100000 in
theorem implDeltaDo {S T : Nat → Prop} (v : Value) (xs : List ByteArray) (u : Value) (ds : List Delta) (w : World) (hv : rd S w [v] xs) (hu : rd T w [u] ds) :
    Calls Try.prog 29 #[v, u] w fun e w' => ∃ v', e = .returned (.tuple #[v', .bool (dDo xs ds).2]) ∧ Fresh w.heap.size w'.heap.size w' [v'] (dDo xs ds).1 ∧ Below w.heap.size w w' := by
  obtain ⟨a, cap, rfl, hs⟩ := rd_slice_elim (Rep.lt hv)
  obtain ⟨b, cbp, rfl, ht⟩ := rd_slice_elim (Rep.lt hu)
  have hcap := hs.1
  cases h1 : textB xs with
  | false =>
    have HD := Lib.hid (dDo_bad1 (ds := ds) h1)
    go_enter Try.func29, Try.ntmps29
    go_wp2_with fail
    refine (textOk_any _ _ _ hs.rd).mono ?_
    rintro e w' ⟨rfl, rfl⟩
    go_wp2
    go_ret2
    exact ⟨.slice none 0 0, by rw [HD.out]; rfl, by rw [HD.out]; exact Fresh.nil _ _ _ (by decide), Below.refl _ _⟩
  | true =>
    cases h2 : deltaB ds with
    | false =>
      have HD := Lib.hid (dDo_bad2 (base := xs) h2)
      go_enter Try.func29, Try.ntmps29
      go_wp2_with fail
      refine (textOk_any _ _ _ hs.rd).mono ?_
      rintro e w' ⟨rfl, rfl⟩
      go_wp2_with fail
      refine (deltaOk_any _ _ _ ht.rd).mono ?_
      rintro e w1 ⟨rfl, hb1⟩
      go_wp2
      go_ret2
      exact ⟨.slice none 0 0, by rw [HD.out]; rfl, by rw [HD.out]; exact Fresh.nil _ _ _ (by decide), hb1⟩
    | true =>
      have HD := Lib.hid (dDo_ok h1 h2)
      have hx := textB_len h1
      have hdl := deltaB_len h2
      have hd := Lib.hid h2
      go_enter Try.func29, Try.ntmps29
      go_wp2_with fail
      refine (textOk_any _ _ _ hs.rd).mono ?_
      rintro e w' ⟨rfl, rfl⟩
      go_wp2_with fail
      refine (deltaOk_any _ _ _ ht.rd).mono ?_
      rintro e w0 ⟨rfl, hb0⟩
      go_wp2
      clear h1 h2
      go_loopw [6, 19] (fun out i wr => (∃ (k : Nat) (ol : List ByteArray), k ≤ ds.length ∧ i = .int .i64 k ∧ Fresh w.heap.size wr.heap.size wr [out] ol ∧ ol.length ≤ 20 * k ∧ Hid (applyD xs ds [] = applyD xs (ds.drop k) ol)) ∧ Below w.heap.size w wr) (fun _ i _ => ds.length - (intOf i).toNat)
      case atStart => exact ⟨⟨0, [], by omega, rfl, Fresh.nil _ _ _ (by decide), by simp, rfl⟩, hb0⟩
      case round =>
        obtain ⟨⟨k, ol, hk, rfl, hF, hol, HA⟩, hb⟩ := hrel
        obtain ⟨a2, c2, rfl, _⟩ := hF.shape
        by_cases hlt : k < ds.length
        · obtain ⟨hf0, hf1, hm0, hfm, hl0, hl1, hl2⟩ := piece_facts (deltaB_at hd.out hlt)
          obtain ⟨g, off, bl, nl, rfl, hx0, hx1, hx2, _, _, hl⟩ := ht.delta hlt
          have hc0 := keepc hx0 hb
          have hc1 := keepc hx1 hb
          have hc2 := keepc hx2 hb
          clear hx0 hx1 hx2
          have hsz := hb.size
          by_cases hL : 0 < ds[k].lines.length
          · obtain ⟨hfz, hmz⟩ := hl1 hL
            have HN := Lib.hid (applyD_next HA.out hlt (by rw [hfz, hmz]; simp <;> omega))
            have HE := Lib.hid (show ((xs.drop ds[k].fr.toNat).take ds[k].many.toNat) = [] by rw [hmz]; rfl)
            clear hfz hmz hl1 hl2
            go_wp2_with (at_builtin; go_must (refine wpList_app_leaf slz_string.slt rfl (.tmp 39) (.tmp 41) rfl rfl (hF.alloc _) (le_alloc hsz _) rfl rfl ((hl.keep hb).alloc _) (by omega) (by unfold maxLen; omega) ?_); intro a4 c4 w4 hG4)
            go_roundw
            case rel => exact ⟨⟨k + 1, ol ++ ds[k].lines, by omega, by go_num, hG4.fresh, by simp; omega, by have := HN.out; rw [HE.out, List.nil_append] at this; exact this⟩, (hb.alloc hsz _).trans hG4.below⟩
            case measure => simp [intOf]; omega
          · have hLd : decide (0 < ds[k].lines.length) = false := decide_eq_false hL
            have hle := hl2 hL
            by_cases hc : (xs.length : Int) < ds[k].fr + ds[k].many
            · have HN := Lib.hid (doB_none (applyD_bad HA.out hlt hc))
              clear hl1 hl2 hle
              go_wp2
              go_ret2
              exact ⟨.slice none 0 0, by rw [HD.out, HN.out]; rfl, by rw [HD.out, HN.out]; exact Fresh.nil _ _ _ (by decide), hb.alloc hsz _⟩
            · have HN := Lib.hid (applyD_next HA.out hlt hc)
              have HLE := Lib.hid hle
              obtain ⟨ys, hys⟩ : ∃ ys, ys = (xs.drop ds[k].fr.toNat).take ds[k].many.toNat := ⟨_, rfl⟩
              have hcl : ys.length = ds[k].many.toNat := by rw [hys]; exact cut_len xs ds[k].fr ds[k].many hf0 hm0 (by omega)
              have HCL := Lib.hid hcl
              have HYS := Lib.hid hys
              have hcut := cut_int a xs.length cap ds[k].fr ds[k].many hf0 hm0 (by omega) hcap
              have hy := ((((hs.keep hb).alloc (.cells #[.int .i64 ds[k].fr, .int .i64 ds[k].many, .slice bl ds[k].lines.length nl] 43)).cut (k := ds[k].fr.toNat) (by omega)).take ds[k].many.toNat)
              rw [← HYS.out] at hy
              have hyl : ys.length ≤ 10 := by rw [HCL.out]; omega
              clear hl1 hl2 hle hys hcl
              go_wp2_with (at_builtin; go_must (refine wpList_app_leaf slz_string.slt rfl (.tmp 23) (.tmp 32) rfl rfl (hF.alloc _) (le_alloc hsz _) rfl HCL.out.symm hy (by omega) (by unfold maxLen; omega) ?_); intro a4 c4 w4 hG4)
              go_roundw
              case rel => exact ⟨⟨k + 1, ol ++ ys, by omega, by go_num, hG4.fresh, by simp; omega, by have := HN.out; rw [← HYS.out, HLE.out, List.append_nil] at this; exact this⟩, (hb.alloc hsz _).trans hG4.below⟩
              case measure => simp [intOf]; omega
        · have HE := Lib.hid (applyD_end HA.out hlt)
          have hF' := hF.rd
          go_wp2_with fail
          refine (textOk_any _ _ _ hF').mono ?_
          rintro e w' ⟨rfl, rfl⟩
          cases htx : textB ol with
          | false =>
            have HN := Lib.hid (doB_long HE.out htx)
            clear htx
            go_wp2
            go_ret2
            exact ⟨.slice none 0 0, by rw [HD.out, HN.out]; rfl, by rw [HD.out, HN.out]; exact Fresh.nil _ _ _ (by decide), hb⟩
          | true =>
            have HN := Lib.hid (doB_some HE.out htx)
            clear htx
            go_wp2
            go_ret2
            exact ⟨.slice a2 ol.length c2, by rw [HD.out, HN.out]; rfl, by rw [HD.out, HN.out]; exact hF, hb⟩

set_option maxHeartbeats 2000000 in
theorem specDeltaDo {S T : Nat → Prop} (v : Value) (xs : List ByteArray) (u : Value) (ds : List Delta) (w : World) (hv : rd S w [v] xs) (hu : rd T w [u] ds) :
    Calls Try.prog 28 #[v, u] w fun e w' => ∃ v', e = .returned (.tuple #[v', .bool (dDo xs ds).2]) ∧ Fresh w.heap.size w'.heap.size w' [v'] (dDo xs ds).1 ∧ Below w.heap.size w w' := by
  obtain ⟨a, cap, rfl, hs⟩ := rd_slice_elim (Rep.lt hv)
  obtain ⟨b, cbp, rfl, ht⟩ := rd_slice_elim (Rep.lt hu)
  cases h1 : textB xs with
  | false =>
    have HD := Lib.hid (dDo_bad1 (ds := ds) h1)
    go_enter Try.func28, Try.ntmps28
    go_wp2_with fail
    refine (l1Ok_any _ _ _ hs.rd).mono ?_
    rintro e w' ⟨rfl, rfl⟩
    go_wp2
    go_ret2
    exact ⟨.slice none 0 0, by rw [HD.out]; rfl, by rw [HD.out]; exact Fresh.nil _ _ _ (by decide), Below.refl _ _⟩
  | true =>
    cases h2 : deltaB ds with
    | false =>
      have HD := Lib.hid (dDo_bad2 (base := xs) h2)
      go_enter Try.func28, Try.ntmps28
      go_wp2_with fail
      refine (l1Ok_any _ _ _ hs.rd).mono ?_
      rintro e w' ⟨rfl, rfl⟩
      go_wp2_with fail
      refine (l13Ok_any _ _ _ ht.rd).mono ?_
      rintro e w1 ⟨rfl, hb1⟩
      go_wp2
      go_ret2
      exact ⟨.slice none 0 0, by rw [HD.out]; rfl, by rw [HD.out]; exact Fresh.nil _ _ _ (by decide), hb1⟩
    | true =>
      have HD := Lib.hid (dDo_ok h1 h2)
      have hd := Lib.hid h2
      go_enter Try.func28, Try.ntmps28
      go_wp2_with fail
      refine (l1Ok_any _ _ _ hs.rd).mono ?_
      rintro e w' ⟨rfl, rfl⟩
      go_wp2_with fail
      refine (l13Ok_any _ _ _ ht.rd).mono ?_
      rintro e w0 ⟨rfl, hb0⟩
      go_wp2_with fail
      refine (l13Do_any _ _ _ _ _ (hs.keep hb0).rd (ht.keep hb0).rd hd.out).mono ?_
      rintro e w1 ⟨v', rfl, hF, hb1⟩
      go_wp2
      go_ret2
      exact ⟨v', by rw [HD.out]; rfl, by rw [HD.out]; exact hF.mono hb0.size (Nat.le_refl _), hb0.trans (hb1.mono hb0.size)⟩
end Go.Proofs.Ytjfhbepnomnalaa
