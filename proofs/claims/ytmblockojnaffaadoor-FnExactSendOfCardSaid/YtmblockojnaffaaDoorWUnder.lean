/-
  Walks: the files at a path.
-/
import Derived.Test.YtmblockojnaffaaDoorRaw
import Derived.Test.YtmblockojnaffaaDoorPlPath
import Derived.Test.YtmblockojnaffaaDoorVL
import Derived.Test.YtmblockojnaffaaDoorWAnc2
set_option linter.unusedVariables false
namespace Go.Proofs.YtmblockojnaffaaDoor
open Go.RowKit Go.Vc
open Go.Vc.Rep (rd)
open Go.Vc.Own (own)
theorem rd_file_mk {S : Nat → Prop} {w : World} {f : File} {a1 : Option Addr} {c1 : Nat} (h : f.path.size ≤ maxLen) (hs : IsSlice S w a1 c1 f.text) : rd S w [.string f.path, .slice a1 f.text.length c1] f := ⟨[_], [_], rfl, ⟨rfl, h⟩, hs.rd⟩
theorem one_cells2 (s : ByteArray) (a : Option Addr) (n c : Nat) : ∀ u ∈ [Value.string s, .slice a n c], u.oneCell' = true := by
  intro u hu
  simp at hu
  rcases hu with rfl | rfl <;> rfl

set_option maxHeartbeats 1000000 in
theorem isAt_is (p : ByteArray) (tv : Value) (path : ByteArray) (w : World) (hz1 : p.size ≤ maxLen) (hz2 : path.size ≤ 1048576) {b : Bool} (h : isAtB path p = b) :
    Calls Tryd.prog 135 #[.agg #[.string p, tv], .string path] w fun e w' => e = .returned (.bool b) ∧ Below w.heap.size w w' := by
  subst h
  have hB0 : Below w.heap.size w (w.alloc (.cells #[.string p, tv] 79)) := ((Below.refl _ _).alloc (by simp <;> omega) _)
  by_cases he : p = path
  · have H := Lib.hid (show isAtB path p = true by unfold isAtB; rw [decide_eq_true he]; rfl)
    have hd : decide (p = path) = true := decide_eq_true he
    clear he
    go_enter Tryd.func135, Tryd.ntmps135
    go_wp2
    go_ret
    exact ⟨ret_bool H.out.symm, hB0⟩
  · have H := Lib.hid (show isAtB path p = inB path p by unfold isAtB; rw [decide_eq_false he]; rfl)
    have hd : decide (p = path) = false := decide_eq_false he
    clear he
    have hz3 : (path ++ ⟨#[47]⟩ : ByteArray).size ≤ maxLen := by rw [append_size]; unfold maxLen; show path.size + 1 ≤ _; omega
    have hno : ¬ 9223372036854775807 < path.size + 1 := by omega
    cases h3 : inB path p with
    | true =>
      rw [h3] at H
      go_enter Tryd.func135, Tryd.ntmps135
      go_wp2_with fail
      refine (hasPrefix_is _ _ _ hz1 hz3 h3).mono ?_
      rintro e w3 ⟨rfl, rfl⟩
      go_wp2
      go_ret
      exact ⟨ret_bool H.out.symm, hB0⟩
    | false =>
      rw [h3] at H
      go_enter Tryd.func135, Tryd.ntmps135
      go_wp2_with fail
      refine (hasPrefix_is _ _ _ hz1 hz3 h3).mono ?_
      rintro e w3 ⟨rfl, rfl⟩
      go_wp2
      go_ret
      exact ⟨ret_bool H.out.symm, hB0⟩

set_option maxHeartbeats 4000000 in
set_option maxRecDepth 100000 in
theorem under_any {S : Nat → Prop} (v : Value) (t : List File) (path : ByteArray) (w : World) (hv : rd S w [v] t) (hl : t.length ≤ 1000) (hz : path.size ≤ 1048576) :
    Calls Tryd.prog 119 #[v, .string path] w fun e w' => ∃ v', e = .returned v' ∧ rd (fun b => b < w'.heap.size) w' [v'] (underT t path) ∧ Below w.heap.size w w' := by
  obtain ⟨a, cap, rfl, hs⟩ := rd_slice_elim (Rep.lt hv)
  have hle := hs.le
  go_enter Tryd.func119, Tryd.ntmps119
  go_wp2
  go_loopw [5, 10] (fun out i wr => (∃ (k : Nat) (ol : List (Raw File)) (ys : List File), k ≤ t.length ∧ i = .int .i64 k ∧ ol.length ≤ k ∧ Fresh w.heap.size wr.heap.size wr [out] ol ∧ All2 (fun r x => rd (fun b => b < w.heap.size) w (Raw.vs r) x) ol ys ∧ Hid (underT t path = ys ++ (t.drop k).filter (fun f => isAtB path f.path))) ∧ Below w.heap.size w wr) (fun _ i _ => t.length - (intOf i).toNat)
  case atStart => exact ⟨⟨0, [], [], by omega, rfl, by simp, Fresh.nil _ _ _ (by decide), trivial, rfl⟩, Below.refl _ _⟩
  case round =>
    obtain ⟨⟨k, ol, ys, hk, rfl, hol, hF, hA2, HA⟩, hb⟩ := hrel
    obtain ⟨a2, c2, rfl, _⟩ := hF.shape
    have hsz := hb.size
    by_cases hlt : k < t.length
    · obtain ⟨g, off, a1, c1, rfl, hc1, hc2, hz1, hft⟩ := hs.file hlt
      have hraw := rd_file_mk hz1 hft
      have hc1 := keepc hc1 hb
      have hc2 := keepc hc2 hb
      obtain ⟨f, hf⟩ : ∃ f, f = t[k] := ⟨_, rfl⟩
      rw [← hf] at hc1 hc2 hz1 hraw
      have HF := Lib.hid hf
      have hB1 : Below wr.heap.size wr (wr.alloc (.cells #[.string f.path, .slice a1 f.text.length c1] 79)) := (Below.refl _ _).alloc (Nat.le_refl _) _
      have q0 : (wr.alloc (.cells #[.string f.path, .slice a1 f.text.length c1] 79)).cell? ⟨wr.heap.size, 0, none⟩ = some (.string f.path) := by rw [cell_of_row _ _ 0 _ _ (0, 0) (heap_alloc_new _ _)]; rfl
      have q1 : (wr.alloc (.cells #[.string f.path, .slice a1 f.text.length c1] 79)).cell? ⟨wr.heap.size, 1, none⟩ = some (.slice a1 f.text.length c1) := by rw [cell_of_row _ _ 1 _ _ (0, 0) (heap_alloc_new _ _)]; rfl
      clear hf hft
      cases hp : isAtB path f.path with
      | false =>
        have HN := Lib.hid (filt_no HA.out hlt (by rw [← HF.out]; exact hp))
        go_wp2_with fail
        refine (isAt_is _ _ _ _ hz1 hz hp).mono ?_
        rintro e w3 ⟨rfl, hb3⟩
        have hb3 := hB1.trans (hb3.mono hB1.size)
        go_wp2
        go_roundw
        case rel => exact ⟨⟨k + 1, ol, ys, by omega, by go_num, by omega, (hF.below (Nat.le_refl _) hb3).now, hA2, HN.out⟩, hb.trans (hb3.mono hsz)⟩
        case measure => simp [intOf] <;> omega
      | true =>
        have HN := Lib.hid (filt_yes HA.out hlt (by rw [← HF.out]; exact hp))
        rw [← HF.out] at HN
        go_wp2_with fail
        refine (isAt_is _ _ _ _ hz1 hz hp).mono ?_
        rintro e w3 ⟨rfl, hb3⟩
        have q0 := keepc q0 hb3
        have q1 := keepc q1 hb3
        have hb3 := hB1.trans (hb3.mono hB1.size)
        have hF := (hF.below (Nat.le_refl _) hb3).now
        have hb := hb.trans (hb3.mono hsz)
        have hsz := hb.size
        go_wp2_with (at_builtin; go_must (refine wpList_app_leaf slz_file.slt.raw rfl (.tmp 17) (.tmp 19) rfl rfl (hF.alloc _) (by simp; omega) rfl rfl (lit_raw (heap_alloc_new _ _) rfl (one_cells2 _ _ _ _) (by decide)) (by simp; omega) (by unfold maxLen; simp; omega) ?_); intro a5 c5 w5 hG5)
        go_roundw
        case rel => exact ⟨⟨k + 1, _, ys ++ [f], by omega, by go_num, by simp; omega, by have := hG5.fresh; simpa using this, hA2.snoc hraw, HN.out⟩, (hb.alloc hsz _).trans hG5.below⟩
        case measure => simp [intOf] <;> omega
    · have HN := Lib.hid (filt_end HA.out hlt)
      go_wp2
      go_ret
      exact ⟨_, rfl, by rw [HN.out]; exact hF.unraw hA2 (Nat.le_refl _) hb (Nat.le_refl _), hb⟩

set_option maxHeartbeats 4000000 in
set_option maxRecDepth 100000 in
theorem l12Under_any {S : Nat → Prop} (v : Value) (t : List File) (path : ByteArray) (w : World) (hv : rd S w [v] t) (hl : t.length ≤ 1000) (hz : path.size ≤ 1048576) :
    Calls Tryd.prog 117 #[v, .string path] w fun e w' => ∃ v', e = .returned v' ∧ rd (fun b => b < w'.heap.size) w' [v'] (underT t path) ∧ Below w.heap.size w w' := by
  obtain ⟨a, cap, rfl, hs⟩ := rd_slice_elim (Rep.lt hv)
  have hle := hs.le
  have hE := Fresh.empty (β := Raw File) (by decide) w.heap.size w (Nat.le_refl _)
  go_enter Tryd.func117, Tryd.ntmps117
  go_wp2
  go_loopw [5, 6] (fun out i wr => (∃ (k : Nat) (ol : List (Raw File)) (ys : List File), k ≤ t.length ∧ i = .int .i64 k ∧ ol.length ≤ k ∧ Fresh w.heap.size wr.heap.size wr [out] ol ∧ All2 (fun r x => rd (fun b => b < w.heap.size) w (Raw.vs r) x) ol ys ∧ Hid (underT t path = ys ++ (t.drop k).filter (fun f => isAtB path f.path))) ∧ Below w.heap.size w wr) (fun _ i _ => t.length - (intOf i).toNat)
  case atStart => exact ⟨⟨0, [], [], by omega, rfl, by simp, hE.now, trivial, rfl⟩, (Below.refl _ _).alloc (Nat.le_refl _) _⟩
  case round =>
    clear hE
    obtain ⟨⟨k, ol, ys, hk, rfl, hol, hF, hA2, HA⟩, hb⟩ := hrel
    obtain ⟨a2, c2, rfl, _⟩ := hF.shape
    have hsz := hb.size
    by_cases hlt : k < t.length
    · obtain ⟨g, off, a1, c1, rfl, hc1, hc2, hz1, hft⟩ := hs.file hlt
      have hraw := rd_file_mk hz1 hft
      have hc1 := keepc hc1 hb
      have hc2 := keepc hc2 hb
      obtain ⟨f, hf⟩ : ∃ f, f = t[k] := ⟨_, rfl⟩
      rw [← hf] at hc1 hc2 hz1 hraw
      have HF := Lib.hid hf
      have hzp : path.size ≤ maxLen := by unfold maxLen; omega
      clear hf hft
      by_cases he : f.path = path
      · have hp : isAtB path f.path = true := by unfold isAtB; rw [decide_eq_true he]; rfl
        have hd : decide (f.path = path) = true := decide_eq_true he
        have HN := Lib.hid (filt_yes HA.out hlt (by rw [← HF.out]; exact hp))
        rw [← HF.out] at HN
        clear he hp
        go_wp2_with (at_builtin; go_must (refine wpList_app_leaf slz_file.slt.raw rfl (.tmp 30) (.tmp 35) rfl rfl (hF.alloc _) (by simp; omega) rfl rfl (lit_raw (heap_alloc_new _ _) rfl (one_cells2 _ _ _ _) (by decide)) (by simp; omega) (by unfold maxLen; simp; omega) ?_); intro a5 c5 w5 hG5)
        go_roundw
        case rel => exact ⟨⟨k + 1, _, ys ++ [f], by omega, by go_num, by simp; omega, by have := hG5.fresh; simpa using this, hA2.snoc hraw, HN.out⟩, (hb.alloc hsz _).trans hG5.below⟩
        case measure => simp [intOf] <;> omega
      · have hpi : isAtB path f.path = inB path f.path := by unfold isAtB; rw [decide_eq_false he]; rfl
        have hd : decide (f.path = path) = false := decide_eq_false he
        clear he
        cases hp : inB path f.path with
        | false =>
          have HN := Lib.hid (filt_no HA.out hlt (by rw [← HF.out, hpi]; exact hp))
          go_wp2_with fail
          refine (l4In_is _ _ _ hzp hz1 hp).mono ?_
          rintro e w3 ⟨rfl, rfl⟩
          go_wp2
          go_roundw
          case rel => exact ⟨⟨k + 1, ol, ys, by omega, by go_num, by omega, hF, hA2, HN.out⟩, hb⟩
          case measure => simp [intOf] <;> omega
        | true =>
          have HN := Lib.hid (filt_yes HA.out hlt (by rw [← HF.out, hpi]; exact hp))
          rw [← HF.out] at HN
          go_wp2_with fail
          refine (l4In_is _ _ _ hzp hz1 hp).mono ?_
          rintro e w3 ⟨rfl, rfl⟩
          go_wp2_with (at_builtin; go_must (refine wpList_app_leaf slz_file.slt.raw rfl (.tmp 30) (.tmp 35) rfl rfl (hF.alloc _) (by simp; omega) rfl rfl (lit_raw (heap_alloc_new _ _) rfl (one_cells2 _ _ _ _) (by decide)) (by simp; omega) (by unfold maxLen; simp; omega) ?_); intro a5 c5 w5 hG5)
          go_roundw
          case rel => exact ⟨⟨k + 1, _, ys ++ [f], by omega, by go_num, by simp; omega, by have := hG5.fresh; simpa using this, hA2.snoc hraw, HN.out⟩, (hb.alloc hsz _).trans hG5.below⟩
          case measure => simp [intOf] <;> omega
    · have HN := Lib.hid (filt_end HA.out hlt)
      go_wp2
      go_ret
      exact ⟨_, rfl, by rw [HN.out]; exact hF.unraw hA2 (Nat.le_refl _) hb (Nat.le_refl _), hb⟩
end Go.Proofs.YtmblockojnaffaaDoor
