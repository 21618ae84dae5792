/-
  Walks: which files refer to a path, as the reference has it.
-/
import Derived.Test.YtfpneepnnoldeaaDoorWUses
set_option linter.unusedVariables false
namespace Go.Proofs.YtfpneepnnoldeaaDoor
open Go.RowKit Go.Vc
open Go.Vc.Rep (rd)
open Go.Vc.Own (own)

set_option maxHeartbeats 4000000 in
set_option maxRecDepth 100000 in
theorem specRuleUses {S : Nat → Prop} (v : Value) (t : List File) (path : ByteArray) (w : World) (hv : rd S w [v] t) (hzp : path.size ≤ maxLen) :
    Calls Tryd.prog 28 #[v, .string path] w fun e w' => ∃ v', e = .returned v' ∧ Fresh w.heap.size w'.heap.size w' [v'] (ruleUses t path) ∧ Below w.heap.size w w' := by
  have hv := Rep.lt hv
  obtain ⟨a, cap, rfl, hs⟩ := rd_slice_elim hv
  have hle := hs.le
  have hE := Fresh.empty (β := ByteArray) (by decide) w.heap.size w (Nat.le_refl _)
  cases hb : treeB t with
  | false =>
    have HD := Lib.hid (show ruleUses t path = [] by rw [ruleUses, hb]; rfl)
    go_enter Tryd.func28, Tryd.ntmps28
    go_wp2
    go_loopw [5, 6] (fun out i wr => (out = .slice (some ⟨w.heap.size, 0, none⟩) 0 0 ∧ i = .int .i64 0 ∧ Fresh w.heap.size wr.heap.size wr [.slice (some ⟨w.heap.size, 0, none⟩) 0 0] ([] : List ByteArray)) ∧ Below w.heap.size w wr) (fun _ i _ => 1)
    case atStart => exact ⟨⟨rfl, rfl, hE.now⟩, (Below.refl _ _).alloc (Nat.le_refl _) _⟩
    case round =>
      clear hE
      obtain ⟨⟨rfl, rfl, hF⟩, hbr⟩ := hrel
      by_cases h0 : 0 < t.length
      · have h0' : (0 : Int) < (t.length : Int) := by omega
        go_wp2_with fail
        refine (l4Ok_is _ t _ (hs.keep hbr).rd hb).mono ?_
        rintro e w1 ⟨rfl, hb1⟩
        go_wp2
        go_ret
        exact ⟨_, rfl, by rw [HD.out]; exact (hF.below (Nat.le_refl _) hb1).now, hbr.trans (hb1.mono hbr.size)⟩
      · have h0' : ¬ (0 : Int) < (t.length : Int) := by omega
        go_wp2
        go_ret
        exact ⟨_, rfl, by rw [HD.out]; exact hF, hbr⟩
  | true =>
    have HD := Lib.hid (show ruleUses t path = usesT t path by rw [ruleUses, hb]; rfl)
    obtain ⟨h8, h10⟩ := tree_files hb
    go_enter Tryd.func28, Tryd.ntmps28
    go_wp2
    go_loopw [5, 6] (fun out i wr => (∃ (k : Nat) (ol : List ByteArray), k ≤ t.length ∧ i = .int .i64 k ∧ ol.length ≤ k ∧ Fresh w.heap.size wr.heap.size wr [out] ol ∧ Hid (usesT t path = ol ++ usesT (t.drop k) path)) ∧ Below w.heap.size w wr) (fun _ i _ => t.length - (intOf i).toNat)
    case atStart => exact ⟨⟨0, [], by omega, rfl, by simp, hE.now, rfl⟩, (Below.refl _ _).alloc (Nat.le_refl _) _⟩
    case round =>
      clear hE
      obtain ⟨⟨k, ol, hk, rfl, hol, hF, HA⟩, hbr⟩ := hrel
      obtain ⟨a2, c2, rfl, _⟩ := hF.shape
      have hsr := hbr.size
      by_cases hlt : k < t.length
      · obtain ⟨g, off, a1, c1, rfl, hc1, hc2, hz1, hft⟩ := hs.file hlt
        have hx10 := h10 t[k] (List.getElem_mem hlt)
        obtain ⟨f, hf⟩ : ∃ f, f = t[k] := ⟨_, rfl⟩
        have HY := Lib.hid (show usesB path f = true → usesT t path = (ol ++ [f.path]) ++ usesT (t.drop (k + 1)) path from fun h => by subst hf; exact uses_yes HA.out hlt h)
        have HN := Lib.hid (show usesB path f = false → usesT t path = ol ++ usesT (t.drop (k + 1)) path from fun h => by subst hf; exact uses_no HA.out hlt h)
        have HU : Hid (usesB path f = (false || (f.text.drop 0).any (hitB path))) := by show _ = _; rw [Bool.false_or]; rfl
        rw [← hf] at hc1 hc2 hz1 hft hx10
        clear hf HA
        have hlt' : (k : Int) < (t.length : Int) := by omega
        go_wp2_with fail
        refine (l4Ok_is _ t _ (hs.keep hbr).rd hb).mono ?_
        rintro e w1 ⟨rfl, hb1⟩
        have hF := (hF.below (Nat.le_refl _) hb1).now
        have hbr := hbr.trans (hb1.mono hsr)
        have hsr := hbr.size
        clear hb1
        go_wp2
        go_loopw [7, 8] (fun u j wr => (∃ (m : Nat) (c : Bool), m ≤ f.text.length ∧ j = .int .i64 m ∧ u = .bool c ∧ Hid (usesB path f = (c || (f.text.drop m).any (hitB path)))) ∧ w1 = wr) (fun _ j _ => f.text.length - (intOf j).toNat)
        case atStart => exact ⟨⟨0, false, by omega, rfl, rfl, HU.out⟩, rfl⟩
        case round =>
          obtain ⟨⟨m, c, hm, rfl, rfl, HA⟩, rfl⟩ := hrel
          have hc1 := keepc hc1 hbr
          have hc2 := keepc hc2 hbr
          by_cases hlm : m < f.text.length
          · obtain ⟨g2, off2, rfl, hc, hz⟩ := (hft.keep hbr).str hlm
            cases c with
            | true =>
              have HN2 := Lib.hid (anyo_yes HA.out)
              go_wp2
              go_roundw
              case rel => exact ⟨⟨m + 1, true, by omega, by go_num, rfl, HN2.out⟩, trivial⟩
              case measure => simp [intOf] <;> omega
            | false =>
              by_cases hpe : path = ⟨#[]⟩
              · have HN2 := Lib.hid (anyo_next HA.out hlm (hit_empty hpe))
                have hpe2 := empty_t hpe
                clear hpe
                go_wp2
                go_roundw
                case rel => exact ⟨⟨m + 1, false, by omega, by go_num, rfl, HN2.out⟩, trivial⟩
                case measure => simp [intOf] <;> omega
              · have hpe2 := empty_f hpe
                have HH := Lib.hid (hit_path (s := f.text[m]) hpe)
                have HT := Lib.hid (anyo_hit HA.out hlm)
                have HF := Lib.hid (anyo_next HA.out hlm)
                obtain ⟨r, hr⟩ : ∃ r, refT f.text[m] = r := ⟨_, rfl⟩
                rw [hr] at HH
                have HR := Lib.hid hr
                clear hpe hr
                cases hd : decide (r = path) with
                | true =>
                  have HN2 := Lib.hid (HT.out (by rw [HH.out]; exact hd))
                  go_wp2_with fail
                  refine (l16Ref_is _ _ hz HR.out).mono ?_
                  rintro e w3 ⟨rfl, rfl⟩
                  go_wp2
                  go_roundw
                  case rel => exact ⟨⟨m + 1, true, by omega, by go_num, rfl, HN2.out⟩, trivial⟩
                  case measure => simp [intOf] <;> omega
                | false =>
                  have HN2 := Lib.hid (HF.out (by rw [HH.out]; exact hd))
                  go_wp2_with fail
                  refine (l16Ref_is _ _ hz HR.out).mono ?_
                  rintro e w3 ⟨rfl, rfl⟩
                  go_wp2
                  go_roundw
                  case rel => exact ⟨⟨m + 1, false, by omega, by go_num, rfl, HN2.out⟩, trivial⟩
                  case measure => simp [intOf] <;> omega
          · have HE := Lib.hid (anyo_end HA.out hlm)
            cases c with
            | true =>
              have HN2 := Lib.hid (HY.out HE.out)
              go_wp2_with (at_builtin; go_must (refine wpList_app_one slz_string.slt rfl (.tmp 49) (.tmp 55) rfl rfl (hF.alloc _) (le_alloc hsr _) rfl (heap_alloc_new _ _) (Fresh.leaf (α := ByteArray) (m := w1.heap.size) (own_strm hz1 _)) hsr (by omega) (by unfold maxLen; omega) ?_); intro a5 c5 w5 hG5)
              go_roundw
              case rel => exact ⟨⟨k + 1, ol ++ [f.path], by omega, by go_num, by simp; omega, by have := hG5.fresh; simpa using this, HN2.out⟩, (hbr.alloc hsr _).trans hG5.below⟩
              case measure => simp [intOf] <;> omega
            | false =>
              have HN2 := Lib.hid (HN.out HE.out)
              go_wp2
              go_roundw
              case rel => exact ⟨⟨k + 1, ol, by omega, by go_num, by omega, hF, HN2.out⟩, hbr⟩
              case measure => simp [intOf] <;> omega
      · have HN := Lib.hid (uses_end HA.out hlt)
        go_wp2
        go_ret
        exact ⟨_, rfl, by rw [HD.out, HN.out]; exact hF, hbr⟩
end Go.Proofs.YtfpneepnnoldeaaDoor
