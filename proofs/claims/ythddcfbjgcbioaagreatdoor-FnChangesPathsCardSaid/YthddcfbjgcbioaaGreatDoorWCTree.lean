/-
  Walks: a tree copied.
-/
import Derived.Test.YthddcfbjgcbioaaGreatDoorWCopy
import Derived.Test.YthddcfbjgcbioaaGreatDoorVL
import Derived.Test.YthddcfbjgcbioaaGreatDoorVTR
import Derived.Test.YthddcfbjgcbioaaGreatDoorVPA
import Derived.Deep.RegionHeld3
set_option linter.unusedVariables false
namespace Go.Vc
open Go.RowKit
open Rep (rd)
open Own (own)
end Go.Vc
namespace Go.Proofs.YthddcfbjgcbioaaGreatDoor
open Go.RowKit Go.Vc
open Go.Vc.Rep (rd)
open Go.Vc.Own (own)

set_option maxHeartbeats 8000000 in
set_option maxRecDepth 100000 in
theorem copyTree_any {S : Nat → Prop} (v : Value) (t : List File) (w : World) (hv : rd S w [v] t) (hl : t.length ≤ 1000) (hx : ∀ f, f ∈ t → f.text.length ≤ 10) :
    Calls Tryz.prog 20 #[v] w fun e w' => ∃ v', e = .returned v' ∧ Fresh w.heap.size w'.heap.size w' [v'] t ∧ Below w.heap.size w w' := by
  obtain ⟨a, cap, rfl, hs⟩ := rd_slice_elim (Rep.lt hv)
  have hle := hs.le
  go_enter Tryz.func20, Tryz.ntmps20
  go_wp2
  go_loopw [3, 8] (fun out i wr => (∃ (k : Nat) (ol : List File), k ≤ t.length ∧ i = .int .i64 k ∧ ol.length ≤ k ∧ Fresh w.heap.size wr.heap.size wr [out] ol ∧ Hid (t = ol ++ (t.drop k).map id)) ∧ Below w.heap.size w wr) (fun _ i _ => t.length - (intOf i).toNat)
  case atStart => exact ⟨⟨0, [], by omega, rfl, by simp, Fresh.nil _ _ _ (by decide), by show _ = _; simp⟩, Below.refl _ _⟩
  case round =>
    obtain ⟨⟨k, ol, hk, rfl, hol, hF, HA⟩, hb⟩ := hrel
    obtain ⟨a2, c2, hv2, _⟩ := hF.shape
    subst hv2
    have hsz := hb.size
    by_cases hlt : k < t.length
    · have HN := Lib.hid (map_next HA.out hlt)
      obtain ⟨g, off, a1, c1, hag, hc1, hc2, hz1, hft⟩ := (hs.keep hb).file hlt
      subst hag
      have hx10 := hx t[k] (List.getElem_mem hlt)
      obtain ⟨f, hf⟩ : ∃ f, f = t[k] := ⟨_, rfl⟩
      rw [← hf] at hc1 hc2 hz1 hft hx10
      have HN : Hid (t = (ol ++ [f]) ++ (t.drop (k + 1)).map id) := by rw [hf]; exact HN
      obtain ⟨wb, hwb⟩ : ∃ wb, wb = wr.alloc (.cells #[.string f.path, .slice a1 f.text.length c1] 36) := ⟨_, rfl⟩
      obtain ⟨hB1, hsb, hq⟩ := boxed (vs := [.string f.path, .slice a1 f.text.length c1]) hwb
      have q0 := hq 0 _ rfl
      have q1 := hq 1 _ rfl
      have hFb := hF.belowm (Nat.le_refl _) hB1
      have hbb := hb.trans (hB1.mono hsz)
      have hft := (hft.keep (hB1.mono hsz)).lt
      have HW := Lib.hid hwb
      clear hf hq hwb
      go_wp2_with fail
      rw [← HW.out]
      clear HW hc1 hc2
      go_region_held3 (fun w' => w'.cell? ⟨wr.heap.size, 0, none⟩ = some (.string f.path) ∧ w'.cell? ⟨wr.heap.size, 1, none⟩ = some (.slice a1 f.text.length c1))
        (first | go_keep | exact K9 | exact KA | exact ⟨q0, q1⟩)
        (first
          | (go_at_call 49; refine (copyText_any _ f.text _ (Rep.drew hft.rd) (by omega)).mono ?_; rintro e wA ⟨aA, cA, rfl, hA, hbA⟩; have hszA := hbA.size; have KA := And.intro (BW.cell (w := wb.drew) q0 ⟨wA, hbA⟩) (BW.cell (w := wb.drew) q1 ⟨wA, hbA⟩))
          | (refine step_app_one (m0 := wr.heap.size) slz_file.slt rfl (.tmp 12) (.tmp 19) rfl rfl ((hFb.drew.belowm (by simp; omega) hbA).alloc _) (by simp at *; omega) rfl (heap_alloc_new _ _) (Fresh.file (p := f) hz1 ((hA.alloc _).mono (by simp; omega) (Nat.le_refl _))) hsz (by omega) (by unfold maxLen; omega) ?_; intro a9 c9 w9 hG9; have K9 := And.intro ((World.cell?_of_block (w := wA.alloc _) (hG9.rest wr.heap.size (by simp at *; omega) (.inr (Nat.le_refl _)))).trans (keepc KA.1 ((Below.refl _ _).alloc (Nat.le_refl _) _))) ((World.cell?_of_block (w := wA.alloc _) (hG9.rest wr.heap.size (by simp at *; omega) (.inr (Nat.le_refl _)))).trans (keepc KA.2 ((Below.refl _ _).alloc (Nat.le_refl _) _)))))
      all_goals
        have hF9 := hG9.fresh
        have hb9 : Below w.heap.size w w9 := ((hbb.drew.trans (hbA.mono (by simp; omega))).alloc (by simp at *; omega) _).trans hG9.below
        clear K9 KA
        go_wp2
        go_roundw
        case rel => exact ⟨⟨k + 1, ol ++ [f], by omega, by go_num, by simp; omega, by simpa using hF9, HN.out⟩, hb9⟩
        case measure => simp [intOf] <;> omega
    · have HN := Lib.hid (map_end HA.out hlt)
      go_wp2
      go_ret
      exact ⟨_, rfl, by rw [HN.out]; exact hF, hb⟩

set_option maxHeartbeats 8000000 in
set_option maxRecDepth 100000 in
theorem l4Copy_any {S : Nat → Prop} (v : Value) (t : List File) (w : World) (hv : rd S w [v] t) (hl : t.length ≤ 1000) (hx : ∀ f, f ∈ t → f.text.length ≤ 10) :
    Calls Tryz.prog 17 #[v] w fun e w' => ∃ v', e = .returned v' ∧ Fresh w.heap.size w'.heap.size w' [v'] t ∧ Below w.heap.size w w' := by
  obtain ⟨a, cap, rfl, hs⟩ := rd_slice_elim (Rep.lt hv)
  have hle := hs.le
  have hE := Fresh.empty (β := File) (by decide) w.heap.size w (Nat.le_refl _)
  go_enter Tryz.func17, Tryz.ntmps17
  go_wp2
  go_loopw [3, 4] (fun out i wr => (∃ (k : Nat) (ol : List File), k ≤ t.length ∧ i = .int .i64 k ∧ ol.length ≤ k ∧ Fresh w.heap.size wr.heap.size wr [out] ol ∧ Hid (t = ol ++ (t.drop k).map id)) ∧ Below w.heap.size w wr) (fun _ i _ => t.length - (intOf i).toNat)
  case atStart => exact ⟨⟨0, [], by omega, rfl, by simp, hE.now, by show _ = _; simp⟩, (Below.refl _ _).alloc (Nat.le_refl _) _⟩
  case round =>
    clear hE
    obtain ⟨⟨k, ol, hk, rfl, hol, hF, HA⟩, hb⟩ := hrel
    obtain ⟨a2, c2, hv2, _⟩ := hF.shape
    subst hv2
    have hsz := hb.size
    by_cases hlt : k < t.length
    · have HN := Lib.hid (map_next HA.out hlt)
      obtain ⟨g, off, a1, c1, hag, hc1, hc2, hz1, hft⟩ := hs.file hlt
      subst hag
      have hgw := World.block_lt_of_cell? w _ hc1
      have hc1 := keepc hc1 hb
      have hc2 := keepc hc2 hb
      have hft := hft.keep hb
      have hx10 := hx t[k] (List.getElem_mem hlt)
      obtain ⟨f, hf⟩ : ∃ f, f = t[k] := ⟨_, rfl⟩
      rw [← hf] at hc1 hc2 hz1 hft hx10
      have HN : Hid (t = (ol ++ [f]) ++ (t.drop (k + 1)).map id) := by rw [hf]; exact HN
      have hEm := Fresh.empty (β := ByteArray) Nat.one_pos wr.drew.heap.size wr.drew (Nat.le_refl _)
      clear hf
      go_wp2_with fail
      go_region_held3 (fun w' => w'.cell? ⟨g, off + k * 2, none⟩ = some (.string f.path) ∧ w'.cell? ⟨g, off + k * 2 + 1, none⟩ = some (.slice a1 f.text.length c1))
        (first | go_keep | exact K9 | exact K5 | exact ⟨hc1, hc2⟩)
        (first
          | (refine step_app_leaf slz_string.slt rfl (.tmp 18) (.tmp 23) rfl rfl (xs := ([] : List ByteArray)) hEm (by simp) rfl rfl (hft.drew.alloc _) (by simp; omega) (by unfold maxLen; simp; omega) ?_; intro a5 c5 w5 hG5; have hF5 := hG5.fresh; have hs5 := hG5.below.size; have hb5 : Below wr.heap.size wr w5 := ((Below.refl wr.heap.size wr).drew.alloc (by simp) _).trans (hG5.below.mono (by simp)); have K5 := And.intro (keepc hc1 hb5) (keepc hc2 hb5); rw [List.nil_append, List.length_nil, Nat.zero_add] at hF5)
          | (refine step_app_one (m0 := wr.heap.size) slz_file.slt rfl (.tmp 12) (.tmp 26) rfl rfl ((hF.belowm (Nat.le_refl _) hb5).alloc _) (by have := hb5.size; simp at *; omega) rfl (heap_alloc_new _ _) (Fresh.file (p := f) hz1 ((hF5.alloc _).mono (by simp) (Nat.le_refl _))) hsz (by omega) (by unfold maxLen; omega) ?_; intro a9 c9 w9 hG9; have hb59 := (hb.trans (hb5.mono hsz)).alloc (by have := hb5.size; omega) (.cells #[.string f.path, .slice a5 f.text.length c5] (Tid.tid File)); have K9 := And.intro ((hG9.below.cell (p := ⟨g, off + k * 2, none⟩) hgw).trans (keepc K5.1 ((Below.refl _ _).alloc (Nat.le_refl _) _))) ((hG9.below.cell (p := ⟨g, off + k * 2 + 1, none⟩) hgw).trans (keepc K5.2 ((Below.refl _ _).alloc (Nat.le_refl _) _)))))
      all_goals
        have hF9 := hG9.fresh
        have hb9 : Below w.heap.size w w9 := hb59.trans hG9.below
        clear K9 K5
        go_wp2
        go_roundw
        case rel => exact ⟨⟨k + 1, ol ++ [f], by omega, by go_num, by simp; omega, by simpa using hF9, HN.out⟩, hb9⟩
        case measure => simp [intOf] <;> omega
    · have HN := Lib.hid (map_end HA.out hlt)
      go_wp2
      go_ret
      exact ⟨_, rfl, by rw [HN.out]; exact hF, hb⟩
end Go.Proofs.YthddcfbjgcbioaaGreatDoor
