/-
  Walks: which files refer to a path.
-/
import Derived.Test.YtegknjcifmenpaaDoorVGR
import Derived.Test.YtegknjcifmenpaaDoorVTR
import Derived.Test.YtegknjcifmenpaaDoorWTreeS
import Derived.Test.YtegknjcifmenpaaDoorVI
set_option linter.unusedVariables false
namespace Go.Proofs.YtegknjcifmenpaaDoor
open Go.RowKit Go.Vc
open Go.Vc.Rep (rd)
open Go.Vc.Own (own)

theorem own_strm {s : ByteArray} (h : s.size ≤ maxLen) (w : World) : Go.Vc.Own.own [] w [.string s] s := ⟨rfl, rfl, h⟩
set_option maxHeartbeats 1000000 in
theorem ruleUses1_is (s path : ByteArray) (b0 : Nat) (w : World) (hs : s.size ≤ maxLen) (q : w.cell? ⟨b0, 0, none⟩ = some (.string path)) {b : Bool} (hb : hitB path s = b) :
    Calls Tryd.prog 46 #[.string s, .pointer (some ⟨b0, 0, none⟩)] w fun e w' => e = .returned (.bool b) ∧ w = w' := by
  subst hb
  by_cases he : refT s = ⟨#[]⟩
  · have H := Lib.hid (hit_none (path := path) he)
    go_enter Tryd.func46, Tryd.ntmps46
    go_wp2_with fail
    refine (refers_none _ _ hs he).mono ?_
    rintro e w1 ⟨u, rfl, rfl⟩
    clear he
    go_wp2
    go_ret
    exact ⟨ret_bool H.out.symm, rfl⟩
  · have H := Lib.hid (hit_some (path := path) he)
    cases hd : decide (refT s = path) with
    | true =>
      rw [hd] at H
      go_enter Tryd.func46, Tryd.ntmps46
      go_wp2_with fail
      refine (refers_some _ _ hs he).mono ?_
      rintro e w1 ⟨rfl, rfl⟩
      clear he
      go_wp2
      go_ret
      exact ⟨ret_bool H.out.symm, rfl⟩
    | false =>
      rw [hd] at H
      go_enter Tryd.func46, Tryd.ntmps46
      go_wp2_with fail
      refine (refers_some _ _ hs he).mono ?_
      rintro e w1 ⟨rfl, rfl⟩
      clear he
      go_wp2
      go_ret
      exact ⟨ret_bool H.out.symm, rfl⟩

set_option maxHeartbeats 2000000 in
theorem indexUses_is {S : Nat → Prop} (v : Value) (xs : List ByteArray) (path : ByteArray) (b0 : Nat) (w : World) (hv : rd S w [v] xs) (q : w.cell? ⟨b0, 0, none⟩ = some (.string path)) {b : Bool} (hb : xs.any (hitB path) = b) :
    Calls Tryd.prog 62 #[v, .func (.func 46) #[] #[.pointer (some ⟨b0, 0, none⟩)]] w fun e w' => ∃ i : Int, e = .returned (.int .i64 i) ∧ ((b = true ∧ 0 ≤ i) ∨ (b = false ∧ i = -1)) ∧ w = w' := by
  obtain ⟨a, cap, rfl, hs⟩ := rd_slice_elim (Rep.lt hv)
  have hle := hs.le
  have H0 : Hid (b = (xs.drop 0).any (hitB path)) := hb.symm
  clear hb
  go_enter Tryd.func62, Tryd.ntmps62
  go_wp2
  go_loopw [8] (fun i wr => (∃ k : Nat, k ≤ xs.length ∧ i = .int .i64 k ∧ Hid (b = (xs.drop k).any (hitB path))) ∧ w = wr) (fun i _ => xs.length - (intOf i).toNat)
  case atStart => exact ⟨⟨0, by omega, rfl, H0.out⟩, rfl⟩
  case round =>
    obtain ⟨⟨k, hk, rfl, HA⟩, rfl⟩ := hrel
    by_cases hlt : k < xs.length
    · obtain ⟨g, off, rfl, hc, hz⟩ := hs.str hlt
      cases hh : hitB path xs[k] with
      | true =>
        have HN := Lib.hid (any_hit HA.out hlt hh)
        go_wp2_with fail
        refine (ruleUses1_is _ path b0 _ hz q hh).mono ?_
        rintro e w1 ⟨rfl, rfl⟩
        go_wp2
        go_ret
        exact ⟨(k : Int), rfl, .inl ⟨HN.out, by omega⟩, rfl⟩
      | false =>
        have HN := Lib.hid (any_next HA.out hlt hh)
        go_wp2_with fail
        refine (ruleUses1_is _ path b0 _ hz q hh).mono ?_
        rintro e w1 ⟨rfl, rfl⟩
        go_wp2
        go_roundw
        case rel => exact ⟨⟨k + 1, by omega, by go_num, HN.out⟩, trivial⟩
        case measure => simp [intOf] <;> omega
    · have HN := Lib.hid (any_end HA.out hlt)
      go_wp2
      go_ret
      exact ⟨-1, rfl, .inr ⟨HN.out, rfl⟩, rfl⟩

set_option maxHeartbeats 1000000 in
theorem containsUses_is {S : Nat → Prop} (v : Value) (xs : List ByteArray) (path : ByteArray) (b0 : Nat) (w : World) (hv : rd S w [v] xs) (q : w.cell? ⟨b0, 0, none⟩ = some (.string path)) {b : Bool} (hb : xs.any (hitB path) = b) :
    Calls Tryd.prog 45 #[v, .func (.func 46) #[] #[.pointer (some ⟨b0, 0, none⟩)]] w fun e w' => e = .returned (.bool b) ∧ w = w' := by
  go_enter Tryd.func45, Tryd.ntmps45
  go_wp2_with fail
  refine (indexUses_is _ xs path b0 _ hv q hb).mono ?_
  rintro e w1 ⟨i, rfl, hi, rfl⟩
  rcases hi with ⟨rfl, hi⟩ | ⟨rfl, rfl⟩
  · go_wp2
    go_ret
    exact ⟨by simp, rfl⟩
  · go_wp2
    go_ret
    exact ⟨rfl, rfl⟩

set_option maxHeartbeats 4000000 in
set_option maxRecDepth 100000 in
theorem implRuleUses {S : Nat → Prop} (v : Value) (t : List File) (path : ByteArray) (w : World) (hv : rd S w [v] t) (hzp : path.size ≤ maxLen) (hS : ∀ f, f ∈ t → ShortS f.path) (hM : ML w) :
    Calls Tryd.prog 16 #[v, .string path] w fun e w' => ∃ v', e = .returned v' ∧ Fresh w.heap.size w'.heap.size w' [v'] (ruleUses t path) ∧ Below w.heap.size w w' := by
  have hv := Rep.lt hv
  obtain ⟨wb, hwb⟩ : ∃ wb, wb = w.alloc (.cells #[.string path] 9) := ⟨_, rfl⟩
  obtain ⟨hB0, hsb, hq⟩ := boxed (vs := [.string path]) hwb
  have q0 := hq 0 _ rfl
  have HW := Lib.hid hwb
  clear hq hwb
  cases hb : treeB t with
  | false =>
    have HD := Lib.hid (show ruleUses t path = [] by rw [ruleUses, hb]; rfl)
    go_enter Tryd.func16, Tryd.ntmps16
    go_wp2_with fail
    rw [← HW.out]
    refine (treeOk_is _ t _ (Rep.keep hv hB0) hS (hM.keep hB0) hb).mono ?_
    rintro e w1 ⟨rfl, hb1⟩
    go_wp2
    go_ret
    exact ⟨_, rfl, by rw [HD.out]; exact Fresh.nil _ _ _ (by decide), hB0.trans (hb1.mono hB0.size)⟩
  | true =>
    have HD := Lib.hid (show ruleUses t path = usesT t path by rw [ruleUses, hb]; rfl)
    obtain ⟨h8, h10⟩ := tree_files hb
    obtain ⟨a, cap, rfl, hs⟩ := rd_slice_elim hv
    go_enter Tryd.func16, Tryd.ntmps16
    go_wp2_with fail
    rw [← HW.out]
    refine (treeOk_is _ t _ (Rep.keep hv hB0) hS (hM.keep hB0) hb).mono ?_
    rintro e w1 ⟨rfl, hb1⟩
    have HB := hB0.trans (hb1.mono hB0.size)
    have hs1 := HB.size
    have hs2 := hb1.size
    have q0 := keepc q0 hb1
    clear h10 hb
    go_wp2
    go_loopw [5, 13] (fun out i wr => (∃ (k : Nat) (ol : List ByteArray), k ≤ t.length ∧ i = .int .i64 k ∧ ol.length ≤ k ∧ Fresh w1.heap.size wr.heap.size wr [out] ol ∧ Hid (usesT t path = ol ++ usesT (t.drop k) path)) ∧ Below w1.heap.size w1 wr) (fun _ i _ => t.length - (intOf i).toNat)
    case atStart => exact ⟨⟨0, [], by omega, rfl, by simp, Fresh.nil _ _ _ (by decide), rfl⟩, Below.refl _ _⟩
    case round =>
      obtain ⟨⟨k, ol, hk, rfl, hol, hF, HA⟩, hbr⟩ := hrel
      obtain ⟨a2, c2, rfl, _⟩ := hF.shape
      have hsr := hbr.size
      have hb := HB.trans (hbr.mono hs1)
      have q0 := keepc q0 hbr
      by_cases hlt : k < t.length
      · obtain ⟨g, off, a1, c1, rfl, hc1, hc2, hz1, hft⟩ := (hs.keep hb).file hlt
        obtain ⟨f, hf⟩ : ∃ f, f = t[k] := ⟨_, rfl⟩
        have HY := Lib.hid (show usesB path f = true → usesT t path = (ol ++ [f.path]) ++ usesT (t.drop (k + 1)) path from fun h => by subst hf; exact uses_yes HA.out hlt h)
        have HN := Lib.hid (show usesB path f = false → usesT t path = ol ++ usesT (t.drop (k + 1)) path from fun h => by subst hf; exact uses_no HA.out hlt h)
        rw [← hf] at hc1 hc2 hz1 hft
        clear hf
        obtain ⟨wc, hwc⟩ : ∃ wc, wc = wr.alloc (.cells #[.string f.path, .slice a1 f.text.length c1] 51) := ⟨_, rfl⟩
        obtain ⟨hB1, hsc, hq1⟩ := boxed (vs := [.string f.path, .slice a1 f.text.length c1]) hwc
        have p0 := hq1 0 _ rfl
        have p1 := hq1 1 _ rfl
        have q0c := keepc q0 hB1
        have hF := (hF.below (Nat.le_refl _) hB1).now
        have hbr := hbr.trans (hB1.mono hsr)
        have hsr' := hbr.size
        have hftc := (hft.keep (hB1.mono hb.size))
        have HWC := Lib.hid hwc
        clear hq1 hwc hsc
        cases hu : usesB path f with
        | true =>
          have HN2 := Lib.hid (HY.out hu)
          go_wp2_with fail
          rw [← HWC.out]
          refine (containsUses_is _ f.text path _ _ hftc.rd q0c hu).mono ?_
          rintro e w3 ⟨rfl, rfl⟩
          go_wp2_with (at_builtin; go_must (refine wpList_app_one slz_string.slt rfl (.tmp 21) (.tmp 24) rfl rfl (hF.alloc _) (le_alloc hsr' _) rfl (heap_alloc_new _ _) (Fresh.leaf (α := ByteArray) (m := wc.heap.size) (own_strm hz1 _)) hsr' (by omega) (by unfold maxLen; omega) ?_); intro a5 c5 w5 hG5)
          go_roundw
          case rel => exact ⟨⟨k + 1, ol ++ [f.path], by omega, by go_num, by simp; omega, by have := hG5.fresh; simpa using this, HN2.out⟩, (hbr.alloc hsr' _).trans hG5.below⟩
          case measure => simp [intOf] <;> omega
        | false =>
          have HN2 := Lib.hid (HN.out hu)
          go_wp2_with fail
          rw [← HWC.out]
          refine (containsUses_is _ f.text path _ _ hftc.rd q0c hu).mono ?_
          rintro e w3 ⟨rfl, rfl⟩
          go_wp2
          go_roundw
          case rel => exact ⟨⟨k + 1, ol, by omega, by go_num, by omega, hF, HN2.out⟩, hbr⟩
          case measure => simp [intOf] <;> omega
      · have HN := Lib.hid (uses_end HA.out hlt)
        go_wp2
        go_ret
        exact ⟨_, rfl, by rw [HD.out, HN.out]; exact hF.mono hs1 (Nat.le_refl _), hb⟩
end Go.Proofs.YtegknjcifmenpaaDoor
