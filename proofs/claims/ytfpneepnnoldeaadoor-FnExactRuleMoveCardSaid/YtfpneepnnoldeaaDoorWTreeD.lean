/-
  Walks: files taken out of a tree.
-/
import Derived.Test.YtfpneepnnoldeaaDoorWUnder
import Derived.Test.YtfpneepnnoldeaaDoorWCTree
import Derived.Test.YtfpneepnnoldeaaDoorWTree
import Derived.Test.YtfpneepnnoldeaaDoorWTreeS
import Derived.Test.YtfpneepnnoldeaaDoorVPB
set_option linter.unusedVariables false
namespace Go.Proofs.YtfpneepnnoldeaaDoor
open Go.RowKit Go.Vc
open Go.Vc.Rep (rd)
open Go.Vc.Own (own)

set_option maxHeartbeats 4000000 in
set_option maxRecDepth 100000 in
theorem implTreeDrop {S : Nat → Prop} (v : Value) (t : List File) (path : ByteArray) (w : World) (hv : rd S w [v] t) (hz : path.size ≤ 1048576) (hS : ∀ f, f ∈ t → ShortS f.path) (hM : ML w) {b : Bool} (hbb : dropB t path = b) {x : List File} (hxx : treeDrop t path = x) :
    Calls Tryd.prog 20 #[v, .string path] w fun e w' => ∃ v', e = .returned (.tuple #[v', .bool b]) ∧ rd (fun b => b < w'.heap.size) w' [v'] x ∧ Below w.heap.size w w' := by
  have hv := Rep.lt hv
  subst hbb hxx
  cases hb : treeB t with
  | false =>
    have HD := Lib.hid (treeDrop_bad (path := path) hb)
    have HB_ := Lib.hid (dropB_bad (path := path) hb)
    go_enter Tryd.func20, Tryd.ntmps20
    go_wp2_with fail
    refine (treeOk_is _ t _ hv hS hM hb).mono ?_
    rintro e w1 ⟨rfl, hb1⟩
    go_wp2
    go_ret2
    exact ⟨.slice none 0 0, by rw [HB_.out]; rfl, by rw [HD.out]; exact rd_slice_nil _ _, hb1⟩
  | true =>
    have HD := Lib.hid (treeDrop_ok (path := path) hb)
    have HB_ := Lib.hid (dropB_ok (path := path) hb)
    obtain ⟨h8, h10⟩ := tree_files hb
    obtain ⟨a0, cap0, rfl, hs0⟩ := rd_slice_elim hv
    go_enter Tryd.func20, Tryd.ntmps20
    go_wp2_with fail
    refine (treeOk_is _ t _ hv hS hM hb).mono ?_
    rintro e w1 ⟨rfl, hb1⟩
    have hs1 := hb1.size
    go_wp2_with fail
    refine (copyTree_any _ t _ (hs0.keep hb1).rd (by omega) h10).mono ?_
    rintro e w2 ⟨vc, rfl, hC, hb2⟩
    have HB := hb1.trans (hb2.mono hs1)
    have hs2 := HB.size
    obtain ⟨a, cap, rfl, hs⟩ := rd_slice_elim (Rep.lt hC.rd)
    clear h10 hb hC hb1 hb2
    go_wp2
    go_loopw [6, 15] (fun out i wr => (∃ (k : Nat) (ol : List (Raw File)) (ys : List File), k ≤ t.length ∧ i = .int .i64 k ∧ ol.length ≤ k ∧ Fresh w2.heap.size wr.heap.size wr [out] ol ∧ All2 (fun (r : Raw File) x => rd (fun b => b < w2.heap.size) w2 (Raw.vs r) x) ol ys ∧ Hid (dropT t path = ys ++ (t.drop k).filter (fun f => !isAtB path f.path))) ∧ Below w2.heap.size w2 wr) (fun _ i _ => t.length - (intOf i).toNat)
    case atStart => exact ⟨⟨0, [], [], by omega, rfl, by simp, Fresh.nil _ _ _ (by decide), trivial, rfl⟩, Below.refl _ _⟩
    case round =>
      obtain ⟨⟨k, ol, ys, hk, rfl, hol, hF, hA2, HA⟩, hbr⟩ := hrel
      obtain ⟨a2, c2, rfl, _⟩ := hF.shape
      have hsr := hbr.size
      by_cases hlt : k < t.length
      · obtain ⟨g, off, a1, c1, rfl, hc1, hc2, hz1, hft⟩ := hs.file hlt
        have hraw := rd_file_mk hz1 hft
        have hc1 := keepc hc1 hbr
        have hc2 := keepc hc2 hbr
        have HYY := fun hp => filt_yes (P := fun f : File => !isAtB path f.path) HA.out hlt hp
        have HNN := fun hp => filt_no (P := fun f : File => !isAtB path f.path) HA.out hlt hp
        obtain ⟨f, hf⟩ : ∃ f, f = t[k] := ⟨_, rfl⟩
        rw [← hf] at hc1 hc2 hz1 hraw HYY HNN
        have HY := Lib.hid HYY
        have HN := Lib.hid HNN
        clear hf hft HYY HNN
        have hB1 : Below wr.heap.size wr (wr.alloc (.cells #[.string f.path, .slice a1 f.text.length c1] 45)) := (Below.refl _ _).alloc (Nat.le_refl _) _
        have q0 : (wr.alloc (.cells #[.string f.path, .slice a1 f.text.length c1] 45)).cell? ⟨wr.heap.size, 0, none⟩ = some (.string f.path) := by rw [cell_of_row _ _ 0 _ _ (0, 0) (heap_alloc_new _ _)]; rfl
        have q1 : (wr.alloc (.cells #[.string f.path, .slice a1 f.text.length c1] 45)).cell? ⟨wr.heap.size, 1, none⟩ = some (.slice a1 f.text.length c1) := by rw [cell_of_row _ _ 1 _ _ (0, 0) (heap_alloc_new _ _)]; rfl
        cases hp : isAtB path f.path with
        | true =>
          have HN2 := Lib.hid (HN.out (by rw [hp]; rfl))
          go_wp2_with fail
          refine (isAt_is _ _ _ _ hz1 hz hp).mono ?_
          rintro e w3 ⟨rfl, hb3⟩
          have hb3 := hB1.trans (hb3.mono hB1.size)
          go_wp2
          go_roundw
          case rel => exact ⟨⟨k + 1, ol, ys, by omega, by go_num, by omega, (hF.below (Nat.le_refl _) hb3).now, hA2, HN2.out⟩, hbr.trans (hb3.mono hsr)⟩
          case measure => simp [intOf] <;> omega
        | false =>
          have HN2 := Lib.hid (HY.out (by rw [hp]; rfl))
          go_wp2_with fail
          refine (isAt_is _ _ _ _ hz1 hz hp).mono ?_
          rintro e w3 ⟨rfl, hb3⟩
          have q0 := keepc q0 hb3
          have q1 := keepc q1 hb3
          have hb3 := hB1.trans (hb3.mono hB1.size)
          have hF := (hF.below (Nat.le_refl _) hb3).now
          have hbr := hbr.trans (hb3.mono hsr)
          have hsr := hbr.size
          go_wp2_with (at_builtin; go_must (refine wpList_app_leaf slz_file.slt.raw rfl (.tmp 23) (.tmp 25) rfl rfl (hF.alloc _) (by simp; omega) rfl rfl (lit_raw (heap_alloc_new _ _) rfl (one_cells2 _ _ _ _) (by decide)) (by simp; omega) (by unfold maxLen; simp; omega) ?_); intro a5 c5 w5 hG5)
          go_roundw
          case rel => exact ⟨⟨k + 1, _, ys ++ [f], by omega, by go_num, by simp; omega, by have := hG5.fresh; simpa using this, hA2.snoc hraw, HN2.out⟩, (hbr.alloc hsr _).trans hG5.below⟩
          case measure => simp [intOf] <;> omega
      · have HN := Lib.hid (filt_end HA.out hlt)
        have hll := hA2.len
        have HL : Hid (dropB t path = decide (ol.length < t.length)) := by show _ = _; rw [HB_.out, HN.out, hll]
        clear hll
        go_wp2
        go_ret2
        exact ⟨.slice a2 ol.length c2, by rw [HL.out]; simp, by rw [HD.out, HN.out]; exact hF.unraw hA2 (Nat.le_refl _) hbr (Nat.le_refl _), HB.trans (hbr.mono hs2)⟩
set_option maxHeartbeats 4000000 in
set_option maxRecDepth 100000 in
theorem l4Drop_any {S : Nat → Prop} (v : Value) (t : List File) (path : ByteArray) (w : World) (hv : rd S w [v] t) (hl : t.length ≤ 1000) (hzp : path.size ≤ maxLen) :
    Calls Tryd.prog 66 #[v, .string path] w fun e w' => ∃ v', e = .returned v' ∧ rd (fun b => b < w'.heap.size) w' [v'] (dropT t path) ∧ Below w.heap.size w w' := by
  obtain ⟨a, cap, rfl, hs⟩ := rd_slice_elim (Rep.lt hv)
  have hle := hs.le
  have hE := Fresh.empty (β := Raw File) (by decide) w.heap.size w (Nat.le_refl _)
  go_enter Tryd.func66, Tryd.ntmps66
  go_wp2
  go_loopw [5, 6] (fun out i wr => (∃ (k : Nat) (ol : List (Raw File)) (ys : List File), k ≤ t.length ∧ i = .int .i64 k ∧ ol.length ≤ k ∧ Fresh w.heap.size wr.heap.size wr [out] ol ∧ All2 (fun (r : Raw File) x => rd (fun b => b < w.heap.size) w (Raw.vs r) x) ol ys ∧ Hid (dropT t path = ys ++ (t.drop k).filter (fun f => !isAtB path f.path))) ∧ Below w.heap.size w wr) (fun _ i _ => t.length - (intOf i).toNat)
  case atStart => exact ⟨⟨0, [], [], by omega, rfl, by simp, hE.now, trivial, rfl⟩, (Below.refl _ _).alloc (Nat.le_refl _) _⟩
  case round =>
    clear hE
    obtain ⟨⟨k, ol, ys, hk, rfl, hol, hF, hA2, HA⟩, hb⟩ := hrel
    obtain ⟨a2, c2, rfl, _⟩ := hF.shape
    have hsz := hb.size
    by_cases hlt : k < t.length
    · obtain ⟨g, off, a1, c1, rfl, hc1, hc2, hz1, hft⟩ := hs.file hlt
      have hraw := rd_file_mk hz1 hft
      have hc1 := keepc hc1 hb
      have hc2 := keepc hc2 hb
      have HYY := fun hp => filt_yes (P := fun f : File => !isAtB path f.path) HA.out hlt hp
      have HNN := fun hp => filt_no (P := fun f : File => !isAtB path f.path) HA.out hlt hp
      obtain ⟨f, hf⟩ : ∃ f, f = t[k] := ⟨_, rfl⟩
      rw [← hf] at hc1 hc2 hz1 hraw HYY HNN
      have HY := Lib.hid HYY
      have HN := Lib.hid HNN
      clear hf hft HYY HNN
      by_cases he : f.path = path
      · have hp : isAtB path f.path = true := by unfold isAtB; rw [decide_eq_true he]; rfl
        have hd : decide (f.path = path) = true := decide_eq_true he
        have HN2 := Lib.hid (HN.out (by rw [hp]; rfl))
        clear he hp
        go_wp2
        go_roundw
        case rel => exact ⟨⟨k + 1, ol, ys, by omega, by go_num, by omega, hF, hA2, HN2.out⟩, hb⟩
        case measure => simp [intOf] <;> omega
      · have hpi : isAtB path f.path = inB path f.path := by unfold isAtB; rw [decide_eq_false he]; rfl
        have hd : decide (f.path = path) = false := decide_eq_false he
        clear he
        cases hp : inB path f.path with
        | true =>
          have HN2 := Lib.hid (HN.out (by rw [hpi, hp]; rfl))
          go_wp2_with fail
          refine (l4In_is _ _ _ hzp hz1 hp).mono ?_
          rintro e w3 ⟨rfl, rfl⟩
          go_wp2
          go_roundw
          case rel => exact ⟨⟨k + 1, ol, ys, by omega, by go_num, by omega, hF, hA2, HN2.out⟩, hb⟩
          case measure => simp [intOf] <;> omega
        | false =>
          have HN2 := Lib.hid (HY.out (by rw [hpi, hp]; rfl))
          go_wp2_with fail
          refine (l4In_is _ _ _ hzp hz1 hp).mono ?_
          rintro e w3 ⟨rfl, rfl⟩
          go_wp2_with (at_builtin; go_must (refine wpList_app_leaf slz_file.slt.raw rfl (.tmp 31) (.tmp 36) rfl rfl (hF.alloc _) (by simp; omega) rfl rfl (lit_raw (heap_alloc_new _ _) rfl (one_cells2 _ _ _ _) (by decide)) (by simp; omega) (by unfold maxLen; simp; omega) ?_); intro a5 c5 w5 hG5)
          go_roundw
          case rel => exact ⟨⟨k + 1, _, ys ++ [f], by omega, by go_num, by simp; omega, by have := hG5.fresh; simpa using this, hA2.snoc hraw, HN2.out⟩, (hb.alloc hsz _).trans hG5.below⟩
          case measure => simp [intOf] <;> omega
    · have HN := Lib.hid (filt_end HA.out hlt)
      go_wp2
      go_ret
      exact ⟨_, rfl, by rw [HN.out]; exact hF.unraw hA2 (Nat.le_refl _) hb (Nat.le_refl _), hb⟩
set_option maxHeartbeats 4000000 in
set_option maxRecDepth 100000 in
theorem specTreeDrop {S : Nat → Prop} (v : Value) (t : List File) (path : ByteArray) (w : World) (hv : rd S w [v] t) (hzp : path.size ≤ maxLen) {b : Bool} (hbb : dropB t path = b) {x : List File} (hxx : treeDrop t path = x) :
    Calls Tryd.prog 21 #[v, .string path] w fun e w' => ∃ v', e = .returned (.tuple #[v', .bool b]) ∧ rd (fun b => b < w'.heap.size) w' [v'] x ∧ Below w.heap.size w w' := by
  have hv := Rep.lt hv
  subst hbb hxx
  cases hb : treeB t with
  | false =>
    have HD := Lib.hid (treeDrop_bad (path := path) hb)
    have HB_ := Lib.hid (dropB_bad (path := path) hb)
    go_enter Tryd.func21, Tryd.ntmps21
    go_wp2_with fail
    refine (l4Ok_is _ t _ hv hb).mono ?_
    rintro e w1 ⟨rfl, hb1⟩
    go_wp2
    go_ret2
    exact ⟨.slice none 0 0, by rw [HB_.out]; rfl, by rw [HD.out]; exact rd_slice_nil _ _, hb1⟩
  | true =>
    have HD := Lib.hid (treeDrop_ok (path := path) hb)
    have HB_ := Lib.hid (dropB_ok (path := path) hb)
    obtain ⟨h8, h10⟩ := tree_files hb
    obtain ⟨a0, cap0, rfl, hs0⟩ := rd_slice_elim hv
    go_enter Tryd.func21, Tryd.ntmps21
    go_wp2_with fail
    refine (l4Ok_is _ t _ hv hb).mono ?_
    rintro e w1 ⟨rfl, hb1⟩
    have hs1 := hb1.size
    go_wp2_with fail
    refine (l4Copy_any _ t _ (hs0.keep hb1).rd (by omega) h10).mono ?_
    rintro e w2 ⟨vc, rfl, hC, hb2⟩
    have HB := hb1.trans (hb2.mono hs1)
    have hs2 := HB.size
    go_wp2_with fail
    refine (l4Drop_any _ t path _ hC.rd (by omega) hzp).mono ?_
    rintro e w3 ⟨vd, rfl, hX, hb3⟩
    obtain ⟨x, hx⟩ : ∃ x, x = dropT t path := ⟨_, rfl⟩
    rw [← hx] at hX HD HB_
    clear hx
    obtain ⟨a3, c3, rfl, hXs⟩ := rd_slice_elim hX
    go_wp2
    go_ret2
    exact ⟨.slice a3 x.length c3, by rw [HB_.out]; simp, by rw [HD.out]; exact hXs.rd, HB.trans (hb3.mono hs2)⟩
end Go.Proofs.YtfpneepnnoldeaaDoor
