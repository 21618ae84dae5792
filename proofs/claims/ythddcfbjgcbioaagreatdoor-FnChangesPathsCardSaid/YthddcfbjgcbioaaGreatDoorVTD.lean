/-
  Walks: files taken out of a tree. / Walks: files moved in a tree, as the reference does it.
-/
import Derived.Test.YthddcfbjgcbioaaGreatDoorVUM
import Derived.Test.YthddcfbjgcbioaaGreatDoorWCTree
import Derived.Test.YthddcfbjgcbioaaGreatDoorVTR
import Derived.Test.YthddcfbjgcbioaaGreatDoorVCT
import Derived.Test.YthddcfbjgcbioaaGreatDoorVPB
import Derived.Test.YthddcfbjgcbioaaGreatDoorVL
set_option linter.unusedVariables false
namespace Go.Proofs.YthddcfbjgcbioaaGreatDoor
open Go.RowKit Go.Vc
open Go.Vc.Rep (rd)
open Go.Vc.Own (own)

set_option maxHeartbeats 4000000 in
set_option maxRecDepth 100000 in
theorem l4Drop_any {S : Nat → Prop} (v : Value) (t : List File) (path : ByteArray) (w : World) (hv : rd S w [v] t) (hl : t.length ≤ 1000) (hzp : path.size ≤ maxLen) :
    Calls Tryz.prog 59 #[v, .string path] w fun e w' => ∃ v', e = .returned v' ∧ rd (fun b => b < w'.heap.size) w' [v'] (dropT t path) ∧ Below w.heap.size w w' := by
  obtain ⟨a, cap, rfl, hs⟩ := rd_slice_elim (Rep.lt hv)
  have hle := hs.le
  have hE := Fresh.empty (β := Raw File) (by decide) w.heap.size w (Nat.le_refl _)
  go_enter Tryz.func59, Tryz.ntmps59
  go_wp2
  go_loopw [5, 6] (fun out i wr => (∃ (k : Nat) (ol : List (Raw File)) (ys : List File), k ≤ t.length ∧ i = .int .i64 k ∧ ol.length ≤ k ∧ Fresh w.heap.size wr.heap.size wr [out] ol ∧ All2 (fun (r : Raw File) x => rd (fun b => b < w.heap.size) w (Raw.vs r) x) ol ys ∧ Hid (dropT t path = ys ++ (t.drop k).filter (fun f => !isAtB path f.path))) ∧ Below w.heap.size w wr) (fun _ i _ => t.length - (intOf i).toNat)
  case atStart => exact ⟨⟨0, [], [], by omega, rfl, by simp, hE.now, trivial, rfl⟩, (Below.refl _ _).alloc (Nat.le_refl _) _⟩
  case round =>
    clear hE
    obtain ⟨⟨k, ol, ys, hk, rfl, hol, hF, hA2, HA⟩, hb⟩ := hrel
    obtain ⟨a2, c2, rfl, _⟩ := hF.shape
    have hsz := hb.size
    by_cases hlt : k < t.length
    · obtain ⟨g, off, a1, c1, rfl, hc1, hc2, hz1, hft⟩ := hs.file hlt
      have hraw := rd_file_mk hz1 hft
      have hc1 := keepc hc1 hb
      have hc2 := keepc hc2 hb
      have HYY := fun hp => filt_yes (P := fun f : File => !isAtB path f.path) HA.out hlt hp
      have HNN := fun hp => filt_no (P := fun f : File => !isAtB path f.path) HA.out hlt hp
      obtain ⟨f, hf⟩ : ∃ f, f = t[k] := ⟨_, rfl⟩
      rw [← hf] at hc1 hc2 hz1 hraw HYY HNN
      have HY := Lib.hid HYY
      have HN := Lib.hid HNN
      clear hf hft HYY HNN
      by_cases he : f.path = path
      · have hp : isAtB path f.path = true := by unfold isAtB; rw [decide_eq_true he]; rfl
        have hd : decide (f.path = path) = true := decide_eq_true he
        have HN2 := Lib.hid (HN.out (by rw [hp]; rfl))
        clear he hp
        go_wp2
        go_roundw
        case rel => exact ⟨⟨k + 1, ol, ys, by omega, by go_num, by omega, hF, hA2, HN2.out⟩, hb⟩
        case measure => simp [intOf] <;> omega
      · have hpi : isAtB path f.path = inB path f.path := by unfold isAtB; rw [decide_eq_false he]; rfl
        have hd : decide (f.path = path) = false := decide_eq_false he
        clear he
        cases hp : inB path f.path with
        | true =>
          have HN2 := Lib.hid (HN.out (by rw [hpi, hp]; rfl))
          go_wp2_with fail
          refine (l4In_is _ _ _ hzp hz1 hp).mono ?_
          rintro e w3 ⟨rfl, rfl⟩
          go_wp2
          go_roundw
          case rel => exact ⟨⟨k + 1, ol, ys, by omega, by go_num, by omega, hF, hA2, HN2.out⟩, hb⟩
          case measure => simp [intOf] <;> omega
        | false =>
          have HN2 := Lib.hid (HY.out (by rw [hpi, hp]; rfl))
          go_wp2_with fail
          refine (l4In_is _ _ _ hzp hz1 hp).mono ?_
          rintro e w3 ⟨rfl, rfl⟩
          go_wp2_with (at_builtin; go_must (refine wpList_app_leaf slz_file.slt.raw rfl (.tmp 31) (.tmp 36) rfl rfl (hF.alloc _) (by simp; omega) rfl rfl (lit_raw (heap_alloc_new _ _) rfl (one_cells2 _ _ _ _) (by decide)) (by simp; omega) (by unfold maxLen; simp; omega) ?_); intro a5 c5 w5 hG5)
          go_roundw
          case rel => exact ⟨⟨k + 1, _, ys ++ [f], by omega, by go_num, by simp; omega, by have := hG5.fresh; simpa using this, hA2.snoc hraw, HN2.out⟩, (hb.alloc hsz _).trans hG5.below⟩
          case measure => simp [intOf] <;> omega
    · have HN := Lib.hid (filt_end HA.out hlt)
      go_wp2
      go_ret
      exact ⟨_, rfl, by rw [HN.out]; exact hF.unraw hA2 (Nat.le_refl _) hb (Nat.le_refl _), hb⟩
set_option maxHeartbeats 4000000 in
set_option maxRecDepth 100000 in
theorem specTreeDrop {S : Nat → Prop} (v : Value) (t : List File) (path : ByteArray) (w : World) (hv : rd S w [v] t) (hzp : path.size ≤ maxLen) {b : Bool} (hbb : dropB t path = b) {x : List File} (hxx : treeDrop t path = x) :
    Calls Tryz.prog 41 #[v, .string path] w fun e w' => ∃ v', e = .returned (.tuple #[v', .bool b]) ∧ rd (fun b => b < w'.heap.size) w' [v'] x ∧ Below w.heap.size w w' := by
  have hv := Rep.lt hv
  subst hbb hxx
  cases hb : treeB t with
  | false =>
    have HD := Lib.hid (treeDrop_bad (path := path) hb)
    have HB_ := Lib.hid (dropB_bad (path := path) hb)
    go_enter Tryz.func41, Tryz.ntmps41
    go_wp2_with fail
    refine (l4Ok_is _ t _ hv hb).mono ?_
    rintro e w1 ⟨rfl, hb1⟩
    go_wp2
    go_ret2
    exact ⟨.slice none 0 0, by rw [HB_.out]; rfl, by rw [HD.out]; exact rd_slice_nil _ _, hb1⟩
  | true =>
    have HD := Lib.hid (treeDrop_ok (path := path) hb)
    have HB_ := Lib.hid (dropB_ok (path := path) hb)
    obtain ⟨h8, h10⟩ := tree_files hb
    obtain ⟨a0, cap0, rfl, hs0⟩ := rd_slice_elim hv
    go_enter Tryz.func41, Tryz.ntmps41
    go_wp2_with fail
    refine (l4Ok_is _ t _ hv hb).mono ?_
    rintro e w1 ⟨rfl, hb1⟩
    have hs1 := hb1.size
    go_wp2_with fail
    refine (l4Copy_any _ t _ (hs0.keep hb1).rd (by omega) h10).mono ?_
    rintro e w2 ⟨vc, rfl, hC, hb2⟩
    have HB := hb1.trans (hb2.mono hs1)
    have hs2 := HB.size
    go_wp2_with fail
    refine (l4Drop_any _ t path _ hC.rd (by omega) hzp).mono ?_
    rintro e w3 ⟨vd, rfl, hX, hb3⟩
    obtain ⟨x, hx⟩ : ∃ x, x = dropT t path := ⟨_, rfl⟩
    rw [← hx] at hX HD HB_
    clear hx
    obtain ⟨a3, c3, rfl, hXs⟩ := rd_slice_elim hX
    go_wp2
    go_ret2
    exact ⟨.slice a3 x.length c3, by rw [HB_.out]; simp, by rw [HD.out]; exact hXs.rd, HB.trans (hb3.mono hs2)⟩
end Go.Proofs.YthddcfbjgcbioaaGreatDoor
namespace Go.Vc
open Go.RowKit
open Rep (rd)
theorem fresh_unraw {α : Type} [Rep α] [Tid α] {T : Nat → Prop} {B m : Nat} {w' : World} {v : Value} {rs : List (Raw α)} {xs : List α} (h : Fresh B m w' [v] rs) (h2 : All2 (fun r x => Rep.rd T w' (Raw.vs r) x) rs xs) : Rep.rd (fun b => B ≤ b ∨ T b) w' [v] xs := by
  obtain ⟨a, cap, rfl, hs⟩ := h.shape
  rw [h2.len]
  exact (hs.unraw h2).rd
end Go.Vc
namespace Go.Proofs.YthddcfbjgcbioaaGreatDoor
open Go.RowKit Go.Vc
open Go.Vc.Rep (rd)
open Go.Vc.Own (own)

set_option maxHeartbeats 4000000 in
set_option maxRecDepth 100000 in
theorem l4Drop_in {S : Nat → Prop} (v : Value) (t : List File) (path : ByteArray) (w : World) (hv : rd S w [v] t) (hl : t.length ≤ 1000) (hzp : path.size ≤ maxLen) :
    Calls Tryz.prog 59 #[v, .string path] w fun e w' => ∃ v', e = .returned v' ∧ rd (fun b => (S b ∧ b < w.heap.size) ∨ w.heap.size ≤ b) w' [v'] (dropT t path) ∧ Below w.heap.size w w' := by
  obtain ⟨a, cap, rfl, hs⟩ := rd_slice_elim (Rep.bound hv)
  have hle := hs.le
  have hE := Fresh.empty (β := Raw File) (by decide) w.heap.size w (Nat.le_refl _)
  go_enter Tryz.func59, Tryz.ntmps59
  go_wp2
  go_loopw [5, 6] (fun out i wr => (∃ (k : Nat) (ol : List (Raw File)) (ys : List File), k ≤ t.length ∧ i = .int .i64 k ∧ ol.length ≤ k ∧ Fresh w.heap.size wr.heap.size wr [out] ol ∧ All2 (fun (r : Raw File) x => rd (fun b => S b ∧ b < w.heap.size) w (Raw.vs r) x) ol ys ∧ Hid (dropT t path = ys ++ (t.drop k).filter (fun f => !isAtB path f.path))) ∧ Below w.heap.size w wr) (fun _ i _ => t.length - (intOf i).toNat)
  case atStart => exact ⟨⟨0, [], [], by omega, rfl, by simp, hE.now, trivial, rfl⟩, (Below.refl _ _).alloc (Nat.le_refl _) _⟩
  case round =>
    clear hE
    obtain ⟨⟨k, ol, ys, hk, rfl, hol, hF, hA2, HA⟩, hb⟩ := hrel
    obtain ⟨a2, c2, rfl, _⟩ := hF.shape
    have hsz := hb.size
    by_cases hlt : k < t.length
    · obtain ⟨g, off, a1, c1, rfl, hc1, hc2, hz1, hft⟩ := hs.file hlt
      have hraw := rd_file_mk hz1 hft
      have hc1 := keepc hc1 hb
      have hc2 := keepc hc2 hb
      have HYY := fun hp => filt_yes (P := fun f : File => !isAtB path f.path) HA.out hlt hp
      have HNN := fun hp => filt_no (P := fun f : File => !isAtB path f.path) HA.out hlt hp
      obtain ⟨f, hf⟩ : ∃ f, f = t[k] := ⟨_, rfl⟩
      rw [← hf] at hc1 hc2 hz1 hraw HYY HNN
      have HY := Lib.hid HYY
      have HN := Lib.hid HNN
      clear hf hft HYY HNN
      by_cases he : f.path = path
      · have hp : isAtB path f.path = true := by unfold isAtB; rw [decide_eq_true he]; rfl
        have hd : decide (f.path = path) = true := decide_eq_true he
        have HN2 := Lib.hid (HN.out (by rw [hp]; rfl))
        clear he hp
        go_wp2
        go_roundw
        case rel => exact ⟨⟨k + 1, ol, ys, by omega, by go_num, by omega, hF, hA2, HN2.out⟩, hb⟩
        case measure => simp [intOf] <;> omega
      · have hpi : isAtB path f.path = inB path f.path := by unfold isAtB; rw [decide_eq_false he]; rfl
        have hd : decide (f.path = path) = false := decide_eq_false he
        clear he
        cases hp : inB path f.path with
        | true =>
          have HN2 := Lib.hid (HN.out (by rw [hpi, hp]; rfl))
          go_wp2_with fail
          refine (l4In_is _ _ _ hzp hz1 hp).mono ?_
          rintro e w3 ⟨rfl, rfl⟩
          go_wp2
          go_roundw
          case rel => exact ⟨⟨k + 1, ol, ys, by omega, by go_num, by omega, hF, hA2, HN2.out⟩, hb⟩
          case measure => simp [intOf] <;> omega
        | false =>
          have HN2 := Lib.hid (HY.out (by rw [hpi, hp]; rfl))
          go_wp2_with fail
          refine (l4In_is _ _ _ hzp hz1 hp).mono ?_
          rintro e w3 ⟨rfl, rfl⟩
          go_wp2_with (at_builtin; go_must (refine wpList_app_leaf slz_file.slt.raw rfl (.tmp 31) (.tmp 36) rfl rfl (hF.alloc _) (by simp; omega) rfl rfl (lit_raw (heap_alloc_new _ _) rfl (one_cells2 _ _ _ _) (by decide)) (by simp; omega) (by unfold maxLen; simp; omega) ?_); intro a5 c5 w5 hG5)
          go_roundw
          case rel => exact ⟨⟨k + 1, _, ys ++ [f], by omega, by go_num, by simp; omega, by have := hG5.fresh; simpa using this, hA2.snoc hraw, HN2.out⟩, (hb.alloc hsz _).trans hG5.below⟩
          case measure => simp [intOf] <;> omega
    · have HN := Lib.hid (filt_end HA.out hlt)
      go_wp2
      go_ret
      exact ⟨_, rfl, by rw [HN.out]; exact Rep.mono (fun b hb => hb.symm) (fresh_unraw hF (hA2.mono fun r x h => Rep.frame (fun b hb' hl => ⟨hb.block b hl, hb'⟩) h)), hb⟩
set_option maxHeartbeats 4000000 in
set_option maxRecDepth 100000 in
theorem specTreeDrop_in {S : Nat → Prop} (v : Value) (t : List File) (path : ByteArray) (w : World) (hv : rd S w [v] t) (hzp : path.size ≤ maxLen) {b : Bool} (hbb : dropB t path = b) {x : List File} (hxx : treeDrop t path = x) :
    Calls Tryz.prog 41 #[v, .string path] w fun e w' => ∃ v', e = .returned (.tuple #[v', .bool b]) ∧ rd (fun b => w.heap.size ≤ b) w' [v'] x ∧ Below w.heap.size w w' := by
  have hv := Rep.lt hv
  subst hbb hxx
  cases hb : treeB t with
  | false =>
    have HD := Lib.hid (treeDrop_bad (path := path) hb)
    have HB_ := Lib.hid (dropB_bad (path := path) hb)
    go_enter Tryz.func41, Tryz.ntmps41
    go_wp2_with fail
    refine (l4Ok_is _ t _ hv hb).mono ?_
    rintro e w1 ⟨rfl, hb1⟩
    go_wp2
    go_ret2
    exact ⟨.slice none 0 0, by rw [HB_.out]; rfl, by rw [HD.out]; exact rd_slice_nil _ _, hb1⟩
  | true =>
    have HD := Lib.hid (treeDrop_ok (path := path) hb)
    have HB_ := Lib.hid (dropB_ok (path := path) hb)
    obtain ⟨h8, h10⟩ := tree_files hb
    obtain ⟨a0, cap0, rfl, hs0⟩ := rd_slice_elim hv
    go_enter Tryz.func41, Tryz.ntmps41
    go_wp2_with fail
    refine (l4Ok_is _ t _ hv hb).mono ?_
    rintro e w1 ⟨rfl, hb1⟩
    have hs1 := hb1.size
    go_wp2_with fail
    refine (l4Copy_any _ t _ (hs0.keep hb1).rd (by omega) h10).mono ?_
    rintro e w2 ⟨vc, rfl, hC, hb2⟩
    have HB := hb1.trans (hb2.mono hs1)
    have hs2 := HB.size
    go_wp2_with fail
    refine (l4Drop_in _ t path _ hC.rd (by omega) hzp).mono ?_
    rintro e w3 ⟨vd, rfl, hX, hb3⟩
    have hX := Rep.mono (S' := fun b => w.heap.size ≤ b) (fun b hb => by rcases hb with hb | hb; exact Nat.le_trans hs1 hb.1; exact Nat.le_trans hs2 hb) hX
    obtain ⟨x, hx⟩ : ∃ x, x = dropT t path := ⟨_, rfl⟩
    rw [← hx] at hX HD HB_
    clear hx
    obtain ⟨a3, c3, rfl, hXs⟩ := rd_slice_elim hX
    go_wp2
    go_ret2
    exact ⟨.slice a3 x.length c3, by rw [HB_.out]; simp, by rw [HD.out]; exact hXs.rd, HB.trans (hb3.mono hs2)⟩
set_option maxHeartbeats 4000000 in
set_option maxRecDepth 100000 in
theorem specTreeMove {S : Nat → Prop} (v : Value) (t : List File) (path dst : ByteArray) (w : World) (hv : rd S w [v] t) (hzp : path.size ≤ 1048576) (hzd : dst.size ≤ 1048576) (hZ : ∀ f, f ∈ t → f.path.size ≤ 1048576) {b : Bool} (hbb : moveB t path dst = b) {x : List File} (hxx : treeMove t path dst = x) :
    Calls Tryz.prog 42 #[v, .string path, .string dst] w fun e w' => ∃ v', e = .returned (.tuple #[v', .bool b]) ∧ rd (fun b => w.heap.size ≤ b) w' [v'] x ∧ Below w.heap.size w w' := by
  have hv := Rep.lt hv
  obtain ⟨a0, cap0, rfl, hs0⟩ := rd_slice_elim hv
  have hle := hs0.le
  have hzd9 : dst.size ≤ maxLen := by unfold maxLen; omega
  cases hb : treeB t with
  | false =>
    have HX : Hid (x = []) := by show _ = _; rw [← hxx, move_bad hb]
    have HB_ : Hid (b = false) := by show _ = _; rw [← hbb, moveB_bad hb]
    clear hbb hxx
    go_enter Tryz.func42, Tryz.ntmps42
    go_wp2_with fail
    refine (l4Ok_is _ t _ hs0.rd hb).mono ?_
    rintro e w1 ⟨rfl, hb1⟩
    go_wp2
    go_ret2
    exact ⟨.slice none 0 0, by rw [HB_.out]; rfl, by rw [HX.out]; exact rd_slice_nil _ _, hb1⟩
  | true =>
    have HXB : Hid (x = if b = true then movedT t path dst else t) := by show _ = _; rw [← hxx, ← hbb, move_ok hb]
    have HT := Lib.hid hb
    have HBB := Lib.hid hbb
    obtain ⟨h8, h10⟩ := tree_files hb
    clear hbb hxx
    go_enter Tryz.func42, Tryz.ntmps42
    go_wp2_with fail
    refine (l4Ok_is _ t _ hs0.rd hb).mono ?_
    rintro e w1 ⟨rfl, hb1⟩
    clear hb
    have hs1 := hb1.size
    go_wp2_with fail
    refine (l4Copy_any _ t _ (hs0.keep hb1).rd (by omega) h10).mono ?_
    rintro e w2 ⟨vc, rfl, hC, hb2⟩
    have HB := hb1.trans (hb2.mono hs1)
    have hs2 := HB.size
    go_wp2_with fail
    refine (l4Drop_in _ t path _ hC.rd (by omega) (by unfold maxLen; omega)).mono ?_
    rintro e w3 ⟨vd, rfl, hX, hb3⟩
    have hX := Rep.mono (S' := fun b => w.heap.size ≤ b) (fun b hb => by rcases hb with hb | hb; exact Nat.le_trans hs1 hb.1; exact Nat.le_trans hs2 hb) hX
    have HB := HB.trans (hb3.mono hs2)
    have hs3 := HB.size
    have hpt := drop_parts path t
    obtain ⟨ol0, hol0⟩ : ∃ ol0, dropT t path = ol0 := ⟨_, rfl⟩
    have HMB : Hid (movedT t path dst = movG path dst ol0 (t.drop 0)) := by show _ = _; rw [← hol0]; rfl
    rw [hol0] at hX hpt
    have HOL := Lib.hid hol0
    obtain ⟨a3, c3, rfl, hXs⟩ := rd_slice_elim hX
    clear hC hb1 hb2 hb3 hol0 hX
    by_cases hne : ol0.length = t.length
    · have hne' : ((ol0.length : Int) == (t.length : Int)) = true := by rw [hne]; simp
      have hbf : b = false := by rw [← HBB.out]; exact moveB_none (by rw [HOL.out]; omega)
      have hxt : x = t := by rw [HXB.out, hbf]; rfl
      have H1 := Lib.hid hbf
      have H2 := Lib.hid hxt
      clear hbf hxt
      go_wp2_with fail
      refine (l4Copy_any _ t _ (hs0.keep HB).rd (by omega) h10).mono ?_
      rintro e w4 ⟨vc, rfl, hC, hb4⟩
      go_wp2
      go_ret2
      exact ⟨vc, by rw [H1.out]; rfl, by rw [H2.out]; exact Rep.mono (fun b hb => Nat.le_trans hs3 hb) hC.rd, HB.trans (hb4.mono hs3)⟩
    · have hne' : ((ol0.length : Int) == (t.length : Int)) = false := by rw [beq_eq_false_iff_ne]; omega
      cases hpd : pathB dst with
      | false =>
        have hbf : b = false := by rw [← HBB.out]; exact moveB_path hpd
        have hxt : x = t := by rw [HXB.out, hbf]; rfl
        have H1 := Lib.hid hbf
        have H2 := Lib.hid hxt
        clear hbf hxt hne
        go_wp2_with fail
        refine (l4Path_is dst _ hzd9 hpd).mono ?_
        rintro e w4 ⟨rfl, hb4⟩
        have HB := HB.trans (hb4.mono hs3)
        have hs3 := HB.size
        go_wp2_with fail
        refine (l4Copy_any _ t _ (hs0.keep HB).rd (by omega) h10).mono ?_
        rintro e w5 ⟨vc, rfl, hC, hb5⟩
        go_wp2
        go_ret2
        exact ⟨vc, by rw [H1.out]; rfl, by rw [H2.out]; exact Rep.mono (fun b hb => Nat.le_trans hs3 hb) hC.rd, HB.trans (hb5.mono hs3)⟩
      | true =>
        have HPD := Lib.hid hpd
        have HNE : Hid (¬ ol0.length = t.length) := hne
        have hl0 : ol0.length ≤ t.length := by omega
        go_wp2_with fail
        refine (l4Path_is dst _ hzd9 hpd).mono ?_
        rintro e w4 ⟨rfl, hb4⟩
        have HB := HB.trans (hb4.mono hs3)
        have hs4 := HB.size
        have hX4 := (Rep.below hXs.rd (Nat.le_refl _) hb4)
        clear hpd hne hne' hpt hb4 hXs
        go_wp2
        go_loopw [8, 10] (fun out i wr => (∃ (k : Nat) (cur : List File), k ≤ t.length ∧ i = .int .i64 k ∧ cur.length ≤ 8 + k ∧ rd (fun b => w.heap.size ≤ b) wr [out] cur ∧ Hid (movedT t path dst = movG path dst cur (t.drop k))) ∧ Below w4.heap.size w4 wr) (fun _ i _ => t.length - (intOf i).toNat)
        case atStart => exact ⟨⟨0, ol0, by omega, rfl, by omega, hX4, HMB.out⟩, Below.refl _ _⟩
        case round =>
          clear hX4 HMB
          obtain ⟨⟨k, cur, hk, rfl, hcl, hX, HA⟩, hbr⟩ := hrel
          obtain ⟨a2, c2, rfl, hXs⟩ := rd_slice_elim hX
          obtain ⟨wx, rfl⟩ : ∃ wx : World, wx = wr := ⟨_, rfl⟩
          have hBB := HB.trans (hbr.mono hs4)
          by_cases hlt : k < t.length
          · obtain ⟨g, off, a1, c1, rfl, hc1, hc2, hz1, hft⟩ := (hs0.keep hBB).file hlt
            have hzk := hZ _ (List.getElem_mem hlt)
            have hxk := h10 _ (List.getElem_mem hlt)
            have HYY := fun hp => mov_yes HA.out hlt hp
            have HNN := fun hp => mov_no HA.out hlt hp
            obtain ⟨f, hf⟩ : ∃ f, f = t[k] := ⟨_, rfl⟩
            rw [← hf] at hc1 hc2 hz1 hft hzk hxk HYY HNN
            have HY := Lib.hid HYY
            have HNo := Lib.hid HNN
            clear hf HYY HNN HA
            by_cases he : f.path = path
            · have hp : isAtB path f.path = true := by unfold isAtB; rw [decide_eq_true he]; rfl
              have hd : decide (f.path = path) = true := decide_eq_true he
              clear he
              have hps := isAt_size hp
              have hms := mvP_size (dst := dst) hps
              have hzn : (mvP path dst f.path).size ≤ maxLen := by unfold maxLen; omega
              have hes : (f.path.extract path.size f.path.size).size = f.path.size - path.size := by simp
              have hno : ¬ 9223372036854775807 < dst.size + (f.path.extract path.size f.path.size).size := by rw [hes]; omega
              have hno2 : ¬ 9223372036854775807 < dst.size + (f.path.size - path.size) := by omega
              have HN := Lib.hid (HY.out hp)
              have hft9 := hft.rd
              clear hms hes hp
              go_wp2_with fail
              go_region_held3 (fun w' => w'.cell? ⟨g, off + k * 2, none⟩ = some (.string f.path) ∧ w'.cell? ⟨g, off + k * 2 + 1, none⟩ = some (.slice a1 f.text.length c1))
                (first | go_keep | exact ⟨hc1, hc2⟩ | exact K9)
                (first
                  | (go_at_call 62; refine (l4Set_any _ cur (mvP path dst f.path) _ f.text _ (Rep.drew hXs.rd) (by omega) hzn (Rep.drew hft9) (by omega)).mono ?_; rintro e w9 ⟨v9, rfl, hR, hb9⟩; have K9 := And.intro (BW.cell (w := wx.drew) hc1 ⟨w9, hb9⟩) (BW.cell (w := wx.drew) hc2 ⟨w9, hb9⟩)))
              all_goals
                have hb8 : Below wx.heap.size wx w9 := (Below.refl _ _).drew.trans (hb9.mono (by simp))
                have hR9 := Rep.mono (S' := fun b => w.heap.size ≤ b) (fun b hb => by rcases hb with hb | hb; exact hb.1; exact Nat.le_trans (Nat.le_trans hs4 hbr.size) hb) hR
                have hln := setT_len cur (mvF path dst f)
                clear K9 hR
                go_wp2
                go_roundw
                case rel => exact ⟨⟨k + 1, setT cur (mvF path dst f), by omega, by go_num, by omega, hR9, HN.out⟩, hbr.trans (hb8.mono hbr.size)⟩
                case measure => simp [intOf] <;> omega
            · have hpi : isAtB path f.path = inB path f.path := by unfold isAtB; rw [decide_eq_false he]; rfl
              have hd : decide (f.path = path) = false := decide_eq_false he
              clear he
              cases hin : inB path f.path with
              | true =>
                have hp : isAtB path f.path = true := hpi.trans hin
                go_wp2_with fail
                refine (l4In_is _ _ _ (by unfold maxLen; omega) hz1 hin).mono ?_
                rintro e w3 ⟨rfl, rfl⟩
                clear hin hpi
                have hps := isAt_size hp
                have hms := mvP_size (dst := dst) hps
                have hzn : (mvP path dst f.path).size ≤ maxLen := by unfold maxLen; omega
                have hes : (f.path.extract path.size f.path.size).size = f.path.size - path.size := by simp
                have hno : ¬ 9223372036854775807 < dst.size + (f.path.extract path.size f.path.size).size := by rw [hes]; omega
                have hno2 : ¬ 9223372036854775807 < dst.size + (f.path.size - path.size) := by omega
                have HN := Lib.hid (HY.out hp)
                have hft9 := hft.rd
                clear hms hes hp
                go_wp2_with fail
                go_region_held3 (fun w' => w'.cell? ⟨g, off + k * 2, none⟩ = some (.string f.path) ∧ w'.cell? ⟨g, off + k * 2 + 1, none⟩ = some (.slice a1 f.text.length c1))
                  (first | go_keep | exact ⟨hc1, hc2⟩ | exact K9)
                  (first
                    | (go_at_call 62; refine (l4Set_any _ cur (mvP path dst f.path) _ f.text _ (Rep.drew hXs.rd) (by omega) hzn (Rep.drew hft9) (by omega)).mono ?_; rintro e w9 ⟨v9, rfl, hR, hb9⟩; have K9 := And.intro (BW.cell (w := wx.drew) hc1 ⟨w9, hb9⟩) (BW.cell (w := wx.drew) hc2 ⟨w9, hb9⟩)))
                all_goals
                  have hb8 : Below wx.heap.size wx w9 := (Below.refl _ _).drew.trans (hb9.mono (by simp))
                  have hR9 := Rep.mono (S' := fun b => w.heap.size ≤ b) (fun b hb => by rcases hb with hb | hb; exact hb.1; exact Nat.le_trans (Nat.le_trans hs4 hbr.size) hb) hR
                  have hln := setT_len cur (mvF path dst f)
                  clear K9 hR
                  go_wp2
                  go_roundw
                  case rel => exact ⟨⟨k + 1, setT cur (mvF path dst f), by omega, by go_num, by omega, hR9, HN.out⟩, hbr.trans (hb8.mono hbr.size)⟩
                  case measure => simp [intOf] <;> omega
              | false =>
                have HN := Lib.hid (HNo.out (hpi.trans hin))
                go_wp2_with fail
                refine (l4In_is _ _ _ (by unfold maxLen; omega) hz1 hin).mono ?_
                rintro e w3 ⟨rfl, rfl⟩
                go_wp2
                go_roundw
                case rel => exact ⟨⟨k + 1, cur, by omega, by go_num, by omega, hXs.rd, HN.out⟩, hbr⟩
                case measure => simp [intOf] <;> omega
          · have hmc : movedT t path dst = cur := mov_end HA.out hlt
            have HMC := Lib.hid hmc
            have hs5 := hBB.size
            clear hmc
            cases hcb : treeB cur with
            | false =>
              have hbf : b = false := by rw [← HBB.out]; unfold moveB; rw [HMC.out, hcb]; simp
              have hxt : x = t := by rw [HXB.out, hbf]; rfl
              have H1 := Lib.hid hbf
              have H2 := Lib.hid hxt
              clear hbf hxt
              go_wp2_with fail
              refine (l4Ok_is _ cur _ hXs.rd hcb).mono ?_
              rintro e w5 ⟨rfl, hb5⟩
              have HB5 := hBB.trans (hb5.mono hs5)
              have hs6 := HB5.size
              go_wp2_with fail
              refine (l4Copy_any _ t _ (hs0.keep HB5).rd (by omega) h10).mono ?_
              rintro e w6 ⟨vc, rfl, hC, hb6⟩
              go_wp2
              go_ret2
              exact ⟨vc, by rw [H1.out]; rfl, by rw [H2.out]; exact Rep.mono (fun b hb => Nat.le_trans hs6 hb) hC.rd, HB5.trans (hb6.mono hs6)⟩
            | true =>
              by_cases hlen : cur.length = t.length
              · have hlen' : ((cur.length : Int) != (t.length : Int)) = false := by rw [hlen]; simp
                have hbf : b = true := by rw [← HBB.out, moveB_is HT.out (by rw [HOL.out]; have := HNE.out; omega) HPD.out (by rw [HMC.out]; exact hlen), HMC.out]; exact hcb
                have hxt : x = cur := by rw [HXB.out, hbf, HMC.out]; rfl
                have H1 := Lib.hid hbf
                have H2 := Lib.hid hxt
                clear hbf hxt hlen
                go_wp2_with fail
                refine (l4Ok_is _ cur _ hXs.rd hcb).mono ?_
                rintro e w5 ⟨rfl, hb5⟩
                have HB5 := hBB.trans (hb5.mono hs5)
                have hX5 := Rep.below hXs.rd (Nat.le_refl _) hb5
                go_wp2
                go_ret2
                exact ⟨.slice a2 cur.length c2, by rw [H1.out]; rfl, by rw [H2.out]; exact hX5, HB5⟩
              · have hlen' : ((cur.length : Int) != (t.length : Int)) = true := by rw [bne_iff_ne]; omega
                have hbf : b = false := by rw [← HBB.out]; exact moveB_len (by rw [HMC.out]; exact hlen)
                have hxt : x = t := by rw [HXB.out, hbf]; rfl
                have H1 := Lib.hid hbf
                have H2 := Lib.hid hxt
                clear hbf hxt hlen
                go_wp2_with fail
                refine (l4Ok_is _ cur _ hXs.rd hcb).mono ?_
                rintro e w5 ⟨rfl, hb5⟩
                have HB5 := hBB.trans (hb5.mono hs5)
                have hs6 := HB5.size
                go_wp2_with fail
                refine (l4Copy_any _ t _ (hs0.keep HB5).rd (by omega) h10).mono ?_
                rintro e w6 ⟨vc, rfl, hC, hb6⟩
                go_wp2
                go_ret2
                exact ⟨vc, by rw [H1.out]; rfl, by rw [H2.out]; exact Rep.mono (fun b hb => Nat.le_trans hs6 hb) hC.rd, HB5.trans (hb6.mono hs6)⟩
end Go.Proofs.YthddcfbjgcbioaaGreatDoor
