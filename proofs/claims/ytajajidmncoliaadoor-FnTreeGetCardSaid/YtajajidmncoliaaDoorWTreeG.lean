/-
  Walks: what is read of a tree.
-/
import Derived.Test.YtajajidmncoliaaDoorWUnder
import Derived.Test.YtajajidmncoliaaDoorWGet
import Derived.Test.YtajajidmncoliaaDoorWTree
import Derived.Test.YtajajidmncoliaaDoorWTreeS
import Derived.Test.YtajajidmncoliaaDoorVPB
import Derived.Test.YtajajidmncoliaaDoorWUses
set_option linter.unusedVariables false
namespace Go.Proofs.YtajajidmncoliaaDoor
open Go.RowKit Go.Vc
open Go.Vc.Rep (rd)
open Go.Vc.Own (own)

set_option maxHeartbeats 1000000 in
theorem implTreeGet {S : Nat → Prop} (v : Value) (t : List File) (path : ByteArray) (w : World) (hv : rd S w [v] t) (hS : ∀ f, f ∈ t → ShortS f.path) (hM : ML w) {M : Option (List ByteArray)} (h : treeGet t path = M) :
    Calls Tryd.prog 27 #[v, .string path] w fun e w' => ∃ v', e = .returned (.tuple #[v', .bool M.isSome]) ∧ Fresh w.heap.size w'.heap.size w' [v'] (M.getD []) ∧ Below w.heap.size w w' := by
  have hv := Rep.lt hv
  cases hb : treeB t with
  | false =>
    rw [treeGet_bad hb] at h
    subst h
    go_enter Tryd.func27, Tryd.ntmps27
    go_wp2_with fail
    refine (treeOk_is _ t _ hv hS hM hb).mono ?_
    rintro e w1 ⟨rfl, hb1⟩
    go_wp2
    go_ret2
    exact ⟨.slice none 0 0, rfl, Fresh.nil _ _ _ (by decide), hb1⟩
  | true =>
    rw [treeGet_ok hb] at h
    have HH := Lib.hid h
    clear h
    obtain ⟨h8, h10⟩ := tree_files hb
    go_enter Tryd.func27, Tryd.ntmps27
    go_wp2_with fail
    refine (treeOk_is _ t _ hv hS hM hb).mono ?_
    rintro e w1 ⟨rfl, hb1⟩
    go_wp2_with fail
    refine (get_any _ t path _ (Rep.keep hv hb1) h10 HH.out).mono ?_
    rintro e w2 ⟨v2, rfl, hF, hb2⟩
    go_wp2
    go_ret2
    exact ⟨v2, rfl, hF.mono hb1.size (Nat.le_refl _), hb1.trans (hb2.mono hb1.size)⟩
set_option maxHeartbeats 1000000 in
theorem specTreeGet {S : Nat → Prop} (v : Value) (t : List File) (path : ByteArray) (w : World) (hv : rd S w [v] t) {M : Option (List ByteArray)} (h : treeGet t path = M) :
    Calls Tryd.prog 28 #[v, .string path] w fun e w' => ∃ v', e = .returned (.tuple #[v', .bool M.isSome]) ∧ Fresh w.heap.size w'.heap.size w' [v'] (M.getD []) ∧ Below w.heap.size w w' := by
  have hv := Rep.lt hv
  cases hb : treeB t with
  | false =>
    rw [treeGet_bad hb] at h
    subst h
    go_enter Tryd.func28, Tryd.ntmps28
    go_wp2_with fail
    refine (l4Ok_is _ t _ hv hb).mono ?_
    rintro e w1 ⟨rfl, hb1⟩
    go_wp2
    go_ret2
    exact ⟨.slice none 0 0, rfl, Fresh.nil _ _ _ (by decide), hb1⟩
  | true =>
    rw [treeGet_ok hb] at h
    obtain ⟨h8, h10⟩ := tree_files hb
    have hl : (M.getD []).length ≤ 10 := by
      cases M with
      | none => simp
      | some x => obtain ⟨f, hf, _, rfl⟩ := getT_mem h; exact h10 f hf
    have HH := Lib.hid h
    clear h
    go_enter Tryd.func28, Tryd.ntmps28
    go_wp2_with fail
    refine (l4Ok_is _ t _ hv hb).mono ?_
    rintro e w1 ⟨rfl, hb1⟩
    go_wp2_with fail
    refine (l4Get_any _ t path _ (Rep.keep hv hb1) HH.out).mono ?_
    rintro e w2 ⟨v2, rfl, hx, hw⟩
    subst hw
    obtain ⟨a2, c2, rfl, hxs⟩ := rd_slice_elim hx
    have hs1 := hb1.size
    have hE := Fresh.empty (β := ByteArray) (by decide) w2.heap.size w2 (Nat.le_refl _)
    go_wp2_with (at_builtin; go_must (refine wpList_app_leaf slz_string.slt rfl (.tmp 17) (.tmp 18) rfl rfl (xs := ([] : List ByteArray)) hE (by simp) rfl rfl (hxs.alloc _) (by simp; omega) (by unfold maxLen; simp; omega) ?_); intro a5 c5 w5 hG5)
    have hG := hG5.fresh
    go_ret2
    exact ⟨_, rfl, (show Fresh w2.heap.size w5.heap.size w5 _ _ from by simpa using hG).mono hs1 (Nat.le_refl _), (hb1.alloc hs1 _).trans (hG5.below.mono hs1)⟩
set_option maxHeartbeats 4000000 in
set_option maxRecDepth 100000 in
theorem implTreeUnder {S : Nat → Prop} (v : Value) (t : List File) (path : ByteArray) (w : World) (hv : rd S w [v] t) (hz : path.size ≤ 1048576) (hS : ∀ f, f ∈ t → ShortS f.path) (hM : ML w) :
    Calls Tryd.prog 22 #[v, .string path] w fun e w' => ∃ v', e = .returned v' ∧ Fresh w.heap.size w'.heap.size w' [v'] (treeUnder t path) ∧ Below w.heap.size w w' := by
  have hv := Rep.lt hv
  cases hb : treeB t with
  | false =>
    have HD := Lib.hid (treeUnder_bad (path := path) hb)
    go_enter Tryd.func22, Tryd.ntmps22
    go_wp2_with fail
    refine (treeOk_is _ t _ hv hS hM hb).mono ?_
    rintro e w1 ⟨rfl, hb1⟩
    go_wp2
    go_ret
    exact ⟨_, rfl, by rw [HD.out]; exact Fresh.nil _ _ _ (by decide), hb1⟩
  | true =>
    have HD := Lib.hid (treeUnder_ok (path := path) hb)
    obtain ⟨h8, h10⟩ := tree_files hb
    obtain ⟨a, cap, rfl, hs⟩ := rd_slice_elim hv
    go_enter Tryd.func22, Tryd.ntmps22
    go_wp2_with fail
    refine (treeOk_is _ t _ hv hS hM hb).mono ?_
    rintro e w1 ⟨rfl, hb1⟩
    have hs1 := hb1.size
    clear h10 hb
    go_wp2
    go_loopw [5, 13] (fun out i wr => (∃ (k : Nat) (ol : List ByteArray), k ≤ t.length ∧ i = .int .i64 k ∧ ol.length ≤ k ∧ Fresh w1.heap.size wr.heap.size wr [out] ol ∧ Hid (pathsU path t = ol ++ pathsU path (t.drop k))) ∧ Below w1.heap.size w1 wr) (fun _ i _ => t.length - (intOf i).toNat)
    case atStart => exact ⟨⟨0, [], by omega, rfl, by simp, Fresh.nil _ _ _ (by decide), rfl⟩, Below.refl _ _⟩
    case round =>
      obtain ⟨⟨k, ol, hk, rfl, hol, hF, HA⟩, hbr⟩ := hrel
      obtain ⟨a2, c2, rfl, _⟩ := hF.shape
      have hsr := hbr.size
      have hb := hb1.trans (hbr.mono hs1)
      by_cases hlt : k < t.length
      · obtain ⟨g, off, a1, c1, rfl, hc1, hc2, hz1, hft⟩ := (hs.keep hb).file hlt
        obtain ⟨f, hf⟩ : ∃ f, f = t[k] := ⟨_, rfl⟩
        have HY := Lib.hid (show isAtB path f.path = true → pathsU path t = (ol ++ [f.path]) ++ pathsU path (t.drop (k + 1)) from fun h => by subst hf; exact pathsU_yes HA.out hlt h)
        have HN := Lib.hid (show isAtB path f.path = false → pathsU path t = ol ++ pathsU path (t.drop (k + 1)) from fun h => by subst hf; exact pathsU_no HA.out hlt h)
        rw [← hf] at hc1 hc2 hz1 hft
        clear hf
        obtain ⟨wc, hwc⟩ : ∃ wc, wc = wr.alloc (.cells #[.string f.path, .slice a1 f.text.length c1] 41) := ⟨_, rfl⟩
        obtain ⟨hB1, hsc, hq1⟩ := boxed (vs := [.string f.path, .slice a1 f.text.length c1]) hwc
        have p0 := hq1 0 _ rfl
        have p1 := hq1 1 _ rfl
        have hF := (hF.below (Nat.le_refl _) hB1).now
        have hbr := hbr.trans (hB1.mono hsr)
        have hsr' := hbr.size
        have HWC := Lib.hid hwc
        clear hq1 hwc hsc
        cases hu : isAtB path f.path with
        | true =>
          have HN2 := Lib.hid (HY.out hu)
          go_wp2_with fail
          rw [← HWC.out]
          refine (isAt_is _ _ _ _ hz1 hz hu).mono ?_
          rintro e w3 ⟨rfl, hb3⟩
          have p0 := keepc p0 hb3
          have hF := (hF.below (Nat.le_refl _) hb3).now
          have hbr := hbr.trans (hb3.mono hsr')
          have hsr2 := hbr.size
          go_wp2_with (at_builtin; go_must (refine wpList_app_one slz_string.slt rfl (.tmp 20) (.tmp 23) rfl rfl (hF.alloc _) (le_alloc hsr2 _) rfl (heap_alloc_new _ _) (Fresh.leaf (α := ByteArray) (m := w3.heap.size) (own_strm hz1 _)) hsr2 (by omega) (by unfold maxLen; omega) ?_); intro a5 c5 w5 hG5)
          go_roundw
          case rel => exact ⟨⟨k + 1, ol ++ [f.path], by omega, by go_num, by simp; omega, by have := hG5.fresh; simpa using this, HN2.out⟩, (hbr.alloc hsr2 _).trans hG5.below⟩
          case measure => simp [intOf] <;> omega
        | false =>
          have HN2 := Lib.hid (HN.out hu)
          go_wp2_with fail
          rw [← HWC.out]
          refine (isAt_is _ _ _ _ hz1 hz hu).mono ?_
          rintro e w3 ⟨rfl, hb3⟩
          have hF := (hF.below (Nat.le_refl _) hb3).now
          have hbr := hbr.trans (hb3.mono hsr')
          go_wp2
          go_roundw
          case rel => exact ⟨⟨k + 1, ol, by omega, by go_num, by omega, hF, HN2.out⟩, hbr⟩
          case measure => simp [intOf] <;> omega
      · have HN := Lib.hid (pathsU_end HA.out hlt)
        go_wp2
        go_ret
        exact ⟨_, rfl, by rw [HD.out, HN.out]; exact hF.mono hs1 (Nat.le_refl _), hb⟩
set_option maxHeartbeats 4000000 in
set_option maxRecDepth 100000 in
theorem specTreeUnder {S : Nat → Prop} (v : Value) (t : List File) (path : ByteArray) (w : World) (hv : rd S w [v] t) (hzp : path.size ≤ maxLen) :
    Calls Tryd.prog 24 #[v, .string path] w fun e w' => ∃ v', e = .returned v' ∧ Fresh w.heap.size w'.heap.size w' [v'] (treeUnder t path) ∧ Below w.heap.size w w' := by
  have hv := Rep.lt hv
  obtain ⟨a, cap, rfl, hs⟩ := rd_slice_elim hv
  have hle := hs.le
  have hE := Fresh.empty (β := ByteArray) (by decide) w.heap.size w (Nat.le_refl _)
  cases hb : treeB t with
  | false =>
    have HD := Lib.hid (treeUnder_bad (path := path) hb)
    go_enter Tryd.func24, Tryd.ntmps24
    go_wp2
    go_loopw [5, 6] (fun out i wr => (out = .slice (some ⟨w.heap.size, 0, none⟩) 0 0 ∧ i = .int .i64 0 ∧ Fresh w.heap.size wr.heap.size wr [.slice (some ⟨w.heap.size, 0, none⟩) 0 0] ([] : List ByteArray)) ∧ Below w.heap.size w wr) (fun _ i _ => 1)
    case atStart => exact ⟨⟨rfl, rfl, hE.now⟩, (Below.refl _ _).alloc (Nat.le_refl _) _⟩
    case round =>
      clear hE
      obtain ⟨⟨rfl, rfl, hF⟩, hbr⟩ := hrel
      by_cases h0 : 0 < t.length
      · have h0' : (0 : Int) < (t.length : Int) := by omega
        go_wp2_with fail
        refine (l4Ok_is _ t _ (hs.keep hbr).rd hb).mono ?_
        rintro e w1 ⟨rfl, hb1⟩
        go_wp2
        go_ret
        exact ⟨_, rfl, by rw [HD.out]; exact (hF.below (Nat.le_refl _) hb1).now, hbr.trans (hb1.mono hbr.size)⟩
      · have h0' : ¬ (0 : Int) < (t.length : Int) := by omega
        go_wp2
        go_ret
        exact ⟨_, rfl, by rw [HD.out]; exact hF, hbr⟩
  | true =>
    have HD := Lib.hid (treeUnder_ok (path := path) hb)
    obtain ⟨h8, h10⟩ := tree_files hb
    go_enter Tryd.func24, Tryd.ntmps24
    go_wp2
    go_loopw [5, 6] (fun out i wr => (∃ (k : Nat) (ol : List ByteArray), k ≤ t.length ∧ i = .int .i64 k ∧ ol.length ≤ k ∧ Fresh w.heap.size wr.heap.size wr [out] ol ∧ Hid (pathsU path t = ol ++ pathsU path (t.drop k))) ∧ Below w.heap.size w wr) (fun _ i _ => t.length - (intOf i).toNat)
    case atStart => exact ⟨⟨0, [], by omega, rfl, by simp, hE.now, rfl⟩, (Below.refl _ _).alloc (Nat.le_refl _) _⟩
    case round =>
      clear hE
      obtain ⟨⟨k, ol, hk, rfl, hol, hF, HA⟩, hbr⟩ := hrel
      obtain ⟨a2, c2, rfl, _⟩ := hF.shape
      have hsr := hbr.size
      by_cases hlt : k < t.length
      · obtain ⟨g, off, a1, c1, rfl, hc1, hc2, hz1, hft⟩ := hs.file hlt
        obtain ⟨f, hf⟩ : ∃ f, f = t[k] := ⟨_, rfl⟩
        have HY := Lib.hid (show isAtB path f.path = true → pathsU path t = (ol ++ [f.path]) ++ pathsU path (t.drop (k + 1)) from fun h => by subst hf; exact pathsU_yes HA.out hlt h)
        have HN := Lib.hid (show isAtB path f.path = false → pathsU path t = ol ++ pathsU path (t.drop (k + 1)) from fun h => by subst hf; exact pathsU_no HA.out hlt h)
        rw [← hf] at hc1 hc2 hz1 hft
        clear hf HA
        have hlt' : (k : Int) < (t.length : Int) := by omega
        go_wp2_with fail
        refine (l4Ok_is _ t _ (hs.keep hbr).rd hb).mono ?_
        rintro e w1 ⟨rfl, hb1⟩
        have hF := (hF.below (Nat.le_refl _) hb1).now
        have hbr := hbr.trans (hb1.mono hsr)
        have hsr := hbr.size
        have hc1 := keepc hc1 hbr
        have hc2 := keepc hc2 hbr
        clear hb1
        by_cases he : f.path = path
        · have hd : decide (f.path = path) = true := decide_eq_true he
          have HN2 := Lib.hid (HY.out (by unfold isAtB; rw [decide_eq_true he]; rfl))
          clear he
          go_wp2_with (at_builtin; go_must (refine wpList_app_one slz_string.slt rfl (.tmp 34) (.tmp 40) rfl rfl (hF.alloc _) (le_alloc hsr _) rfl (heap_alloc_new _ _) (Fresh.leaf (α := ByteArray) (m := w1.heap.size) (own_strm hz1 _)) hsr (by omega) (by unfold maxLen; omega) ?_); intro a5 c5 w5 hG5)
          go_roundw
          case rel => exact ⟨⟨k + 1, ol ++ [f.path], by omega, by go_num, by simp; omega, by have := hG5.fresh; simpa using this, HN2.out⟩, (hbr.alloc hsr _).trans hG5.below⟩
          case measure => simp [intOf] <;> omega
        · have hd : decide (f.path = path) = false := decide_eq_false he
          have hpi : isAtB path f.path = inB path f.path := by unfold isAtB; rw [decide_eq_false he]; rfl
          rw [hpi] at HY HN
          clear he hpi
          cases hp : inB path f.path with
          | true =>
            have HN2 := Lib.hid (HY.out hp)
            go_wp2_with fail
            refine (l4In_is _ _ _ hzp hz1 hp).mono ?_
            rintro e w3 ⟨rfl, rfl⟩
            go_wp2_with (at_builtin; go_must (refine wpList_app_one slz_string.slt rfl (.tmp 34) (.tmp 40) rfl rfl (hF.alloc _) (le_alloc hsr _) rfl (heap_alloc_new _ _) (Fresh.leaf (α := ByteArray) (m := w1.heap.size) (own_strm hz1 _)) hsr (by omega) (by unfold maxLen; omega) ?_); intro a5 c5 w5 hG5)
            go_roundw
            case rel => exact ⟨⟨k + 1, ol ++ [f.path], by omega, by go_num, by simp; omega, by have := hG5.fresh; simpa using this, HN2.out⟩, (hbr.alloc hsr _).trans hG5.below⟩
            case measure => simp [intOf] <;> omega
          | false =>
            have HN2 := Lib.hid (HN.out hp)
            go_wp2_with fail
            refine (l4In_is _ _ _ hzp hz1 hp).mono ?_
            rintro e w3 ⟨rfl, rfl⟩
            go_wp2
            go_roundw
            case rel => exact ⟨⟨k + 1, ol, by omega, by go_num, by omega, hF, HN2.out⟩, hbr⟩
            case measure => simp [intOf] <;> omega
      · have HN := Lib.hid (pathsU_end HA.out hlt)
        go_wp2
        go_ret
        exact ⟨_, rfl, by rw [HD.out, HN.out]; exact hF, hbr⟩
end Go.Proofs.YtajajidmncoliaaDoor
