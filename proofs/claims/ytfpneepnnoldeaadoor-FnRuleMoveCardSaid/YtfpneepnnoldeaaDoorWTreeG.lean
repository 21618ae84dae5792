/-
  Walks: what is read of a tree.
-/
import Derived.Test.YtfpneepnnoldeaaDoorVUM
import Derived.Test.YtfpneepnnoldeaaDoorVGR
import Derived.Test.YtfpneepnnoldeaaDoorVTR
import Derived.Test.YtfpneepnnoldeaaDoorWTreeS
import Derived.Test.YtfpneepnnoldeaaDoorVPB
import Derived.Test.YtfpneepnnoldeaaDoorWUses
set_option linter.unusedVariables false
namespace Go.Proofs.YtfpneepnnoldeaaDoor
open Go.RowKit Go.Vc
open Go.Vc.Rep (rd)
open Go.Vc.Own (own)

set_option maxHeartbeats 1000000 in
theorem implTreeGet {S : Nat → Prop} (v : Value) (t : List File) (path : ByteArray) (w : World) (hv : rd S w [v] t) (hS : ∀ f, f ∈ t → ShortS f.path) (hM : ML w) {M : Option (List ByteArray)} (h : treeGet t path = M) :
    Calls Tryd.prog 34 #[v, .string path] w fun e w' => ∃ v', e = .returned (.tuple #[v', .bool M.isSome]) ∧ Fresh w.heap.size w'.heap.size w' [v'] (M.getD []) ∧ Below w.heap.size w w' := by
  have hv := Rep.lt hv
  cases hb : treeB t with
  | false =>
    rw [treeGet_bad hb] at h
    subst h
    go_enter Tryd.func34, Tryd.ntmps34
    go_wp2_with fail
    refine (treeOk_is _ t _ hv hS hM hb).mono ?_
    rintro e w1 ⟨rfl, hb1⟩
    go_wp2
    go_ret2
    exact ⟨.slice none 0 0, rfl, Fresh.nil _ _ _ (by decide), hb1⟩
  | true =>
    rw [treeGet_ok hb] at h
    have HH := Lib.hid h
    clear h
    obtain ⟨h8, h10⟩ := tree_files hb
    go_enter Tryd.func34, Tryd.ntmps34
    go_wp2_with fail
    refine (treeOk_is _ t _ hv hS hM hb).mono ?_
    rintro e w1 ⟨rfl, hb1⟩
    go_wp2_with fail
    refine (get_any _ t path _ (Rep.keep hv hb1) h10 HH.out).mono ?_
    rintro e w2 ⟨v2, rfl, hF, hb2⟩
    go_wp2
    go_ret2
    exact ⟨v2, rfl, hF.mono hb1.size (Nat.le_refl _), hb1.trans (hb2.mono hb1.size)⟩
set_option maxHeartbeats 4000000 in
set_option maxRecDepth 100000 in
theorem implTreeUnder {S : Nat → Prop} (v : Value) (t : List File) (path : ByteArray) (w : World) (hv : rd S w [v] t) (hz : path.size ≤ 1048576) (hS : ∀ f, f ∈ t → ShortS f.path) (hM : ML w) :
    Calls Tryd.prog 24 #[v, .string path] w fun e w' => ∃ v', e = .returned v' ∧ Fresh w.heap.size w'.heap.size w' [v'] (treeUnder t path) ∧ Below w.heap.size w w' := by
  have hv := Rep.lt hv
  cases hb : treeB t with
  | false =>
    have HD := Lib.hid (treeUnder_bad (path := path) hb)
    go_enter Tryd.func24, Tryd.ntmps24
    go_wp2_with fail
    refine (treeOk_is _ t _ hv hS hM hb).mono ?_
    rintro e w1 ⟨rfl, hb1⟩
    go_wp2
    go_ret
    exact ⟨_, rfl, by rw [HD.out]; exact Fresh.nil _ _ _ (by decide), hb1⟩
  | true =>
    have HD := Lib.hid (treeUnder_ok (path := path) hb)
    obtain ⟨h8, h10⟩ := tree_files hb
    obtain ⟨a, cap, rfl, hs⟩ := rd_slice_elim hv
    go_enter Tryd.func24, Tryd.ntmps24
    go_wp2_with fail
    refine (treeOk_is _ t _ hv hS hM hb).mono ?_
    rintro e w1 ⟨rfl, hb1⟩
    have hs1 := hb1.size
    clear h10 hb
    go_wp2
    go_loopw [5, 13] (fun out i wr => (∃ (k : Nat) (ol : List ByteArray), k ≤ t.length ∧ i = .int .i64 k ∧ ol.length ≤ k ∧ Fresh w1.heap.size wr.heap.size wr [out] ol ∧ Hid (pathsU path t = ol ++ pathsU path (t.drop k))) ∧ Below w1.heap.size w1 wr) (fun _ i _ => t.length - (intOf i).toNat)
    case atStart => exact ⟨⟨0, [], by omega, rfl, by simp, Fresh.nil _ _ _ (by decide), rfl⟩, Below.refl _ _⟩
    case round =>
      obtain ⟨⟨k, ol, hk, rfl, hol, hF, HA⟩, hbr⟩ := hrel
      obtain ⟨a2, c2, rfl, _⟩ := hF.shape
      have hsr := hbr.size
      have hb := hb1.trans (hbr.mono hs1)
      by_cases hlt : k < t.length
      · obtain ⟨g, off, a1, c1, rfl, hc1, hc2, hz1, hft⟩ := (hs.keep hb).file hlt
        obtain ⟨f, hf⟩ : ∃ f, f = t[k] := ⟨_, rfl⟩
        have HY := Lib.hid (show isAtB path f.path = true → pathsU path t = (ol ++ [f.path]) ++ pathsU path (t.drop (k + 1)) from fun h => by subst hf; exact pathsU_yes HA.out hlt h)
        have HN := Lib.hid (show isAtB path f.path = false → pathsU path t = ol ++ pathsU path (t.drop (k + 1)) from fun h => by subst hf; exact pathsU_no HA.out hlt h)
        rw [← hf] at hc1 hc2 hz1 hft
        clear hf
        obtain ⟨wc, hwc⟩ : ∃ wc, wc = wr.alloc (.cells #[.string f.path, .slice a1 f.text.length c1] 45) := ⟨_, rfl⟩
        obtain ⟨hB1, hsc, hq1⟩ := boxed (vs := [.string f.path, .slice a1 f.text.length c1]) hwc
        have p0 := hq1 0 _ rfl
        have p1 := hq1 1 _ rfl
        have hF := (hF.below (Nat.le_refl _) hB1).now
        have hbr := hbr.trans (hB1.mono hsr)
        have hsr' := hbr.size
        have HWC := Lib.hid hwc
        clear hq1 hwc hsc
        cases hu : isAtB path f.path with
        | true =>
          have HN2 := Lib.hid (HY.out hu)
          go_wp2_with fail
          rw [← HWC.out]
          refine (isAt_is _ _ _ _ hz1 hz hu).mono ?_
          rintro e w3 ⟨rfl, hb3⟩
          have p0 := keepc p0 hb3
          have hF := (hF.below (Nat.le_refl _) hb3).now
          have hbr := hbr.trans (hb3.mono hsr')
          have hsr2 := hbr.size
          go_wp2_with (at_builtin; go_must (refine wpList_app_one slz_string.slt rfl (.tmp 20) (.tmp 23) rfl rfl (hF.alloc _) (le_alloc hsr2 _) rfl (heap_alloc_new _ _) (Fresh.leaf (α := ByteArray) (m := w3.heap.size) (own_strm hz1 _)) hsr2 (by omega) (by unfold maxLen; omega) ?_); intro a5 c5 w5 hG5)
          go_roundw
          case rel => exact ⟨⟨k + 1, ol ++ [f.path], by omega, by go_num, by simp; omega, by have := hG5.fresh; simpa using this, HN2.out⟩, (hbr.alloc hsr2 _).trans hG5.below⟩
          case measure => simp [intOf] <;> omega
        | false =>
          have HN2 := Lib.hid (HN.out hu)
          go_wp2_with fail
          rw [← HWC.out]
          refine (isAt_is _ _ _ _ hz1 hz hu).mono ?_
          rintro e w3 ⟨rfl, hb3⟩
          have hF := (hF.below (Nat.le_refl _) hb3).now
          have hbr := hbr.trans (hb3.mono hsr')
          go_wp2
          go_roundw
          case rel => exact ⟨⟨k + 1, ol, by omega, by go_num, by omega, hF, HN2.out⟩, hbr⟩
          case measure => simp [intOf] <;> omega
      · have HN := Lib.hid (pathsU_end HA.out hlt)
        go_wp2
        go_ret
        exact ⟨_, rfl, by rw [HD.out, HN.out]; exact hF.mono hs1 (Nat.le_refl _), hb⟩
end Go.Proofs.YtfpneepnnoldeaaDoor
