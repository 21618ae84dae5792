/-
  Walks: a commit copied.
-/
import Derived.Test.YthhmaclhggmneaaDoorWCTree
set_option linter.unusedVariables false
namespace Go.Proofs.YthhmaclhggmneaaDoor
open Go.RowKit Go.Vc
open Go.Vc.Rep (rd)
open Go.Vc.Own (own)

set_option maxHeartbeats 8000000 in
set_option maxRecDepth 100000 in
theorem copyCommit_any {S T : Nat → Prop} (c : Commit) (v0 v2 : Value) (w : World) (h0 : rd S w [v0] c.parents) (h2 : rd T w [v2] c.tree) (hw : c.who.size ≤ maxLen) (hp : c.parents.length ≤ 1000) (hl : c.tree.length ≤ 1000) (hx : ∀ f, f ∈ c.tree → f.text.length ≤ 10) :
    Calls Tryd.prog 26 #[.agg #[v0, .string c.who, v2]] w fun e w' => ∃ a0 c0 a2 c2, ∃ m, e = .returned (.agg #[.slice a0 c.parents.length c0, .string c.who, .slice a2 c.tree.length c2]) ∧ Fresh w.heap.size m w' [.slice a0 c.parents.length c0] c.parents ∧ Fresh m w'.heap.size w' [.slice a2 c.tree.length c2] c.tree ∧ w.heap.size ≤ m ∧ m ≤ w'.heap.size ∧ Below w.heap.size w w' := by
  obtain ⟨ap, cp, rfl, hps⟩ := rd_slice_elim (Rep.lt h0)
  obtain ⟨at_, ct, rfl, hts⟩ := rd_slice_elim (Rep.lt h2)
  obtain ⟨wb, hwb⟩ : ∃ wb, wb = (w.alloc (.cells #[.slice ap c.parents.length cp, .string c.who, .slice at_ c.tree.length ct] 53)).alloc (.cells #[.slice none 0 0, .string ⟨#[]⟩, .slice none 0 0] 53) := ⟨_, rfl⟩
  have hB0 : Below w.heap.size w wb := by rw [hwb]; exact (((Below.refl _ _).alloc (by simp <;> omega) _).alloc (by simp <;> omega) _)
  have hsb : wb.heap.size = w.heap.size + 2 := by rw [hwb]; simp
  have hbl := (Below.refl (w.alloc (.cells #[.slice ap c.parents.length cp, .string c.who, .slice at_ c.tree.length ct] 53)).heap.size (w.alloc (.cells #[.slice ap c.parents.length cp, .string c.who, .slice at_ c.tree.length ct] 53))).alloc (Nat.le_refl _) (.cells #[.slice none 0 0, .string ⟨#[]⟩, .slice none 0 0] 53)
  have q0 : wb.cell? ⟨w.heap.size, 0, none⟩ = some (.slice ap c.parents.length cp) := by rw [hwb]; refine keepc ?_ hbl; rw [cell_of_row _ _ 0 _ _ (0, 0) (heap_alloc_new _ _)]; rfl
  have q1 : wb.cell? ⟨w.heap.size, 1, none⟩ = some (.string c.who) := by rw [hwb]; refine keepc ?_ hbl; rw [cell_of_row _ _ 1 _ _ (0, 0) (heap_alloc_new _ _)]; rfl
  have q2 : wb.cell? ⟨w.heap.size, 2, none⟩ = some (.slice at_ c.tree.length ct) := by rw [hwb]; refine keepc ?_ hbl; rw [cell_of_row _ _ 2 _ _ (0, 0) (heap_alloc_new _ _)]; rfl
  have hbox : wb.heap[w.heap.size + 1]? = some (.cells #[.slice none 0 0, .string ⟨#[]⟩, .slice none 0 0] 53 (0, 0)) := by rw [hwb]; exact heap_new_at (by simp)
  have HSB := Lib.hid hsb
  have hws := hB0.size
  have hws1 : w.heap.size + 1 < wb.heap.size := by omega
  have HWS := Lib.hid hws1
  have HW := Lib.hid hwb
  have hpb := hps.keep hB0
  have htb := (hts.keep hB0).lt
  have hEm := Fresh.empty (β := Int) Nat.one_pos wb.drew.heap.size wb.drew (Nat.le_refl _)
  clear hwb hbl hsb hws1
  go_enter Tryd.func26, Tryd.ntmps26
  go_wp2_with fail
  rw [← HW.out]
  clear HW
  go_region_held3 (fun w' => w'.cell? ⟨w.heap.size, 0, none⟩ = some (.slice ap c.parents.length cp) ∧ w'.cell? ⟨w.heap.size, 1, none⟩ = some (.string c.who) ∧ w'.cell? ⟨w.heap.size, 2, none⟩ = some (.slice at_ c.tree.length ct))
    (first | go_keep | exact K9 | exact K5 | exact ⟨q0, q1, q2⟩)
    (first
      | (refine step_app_leaf slz_int.slt rfl (.tmp 3) (.tmp 5) rfl rfl (xs := ([] : List Int)) hEm (by simp) rfl rfl (hpb.drew.alloc _) (by simp; omega) (by unfold maxLen; simp; omega) ?_; intro a5 c5 w5 hG5; have hF5 := hG5.fresh; have hs5 := hG5.below.size; have hb5 : Below wb.heap.size wb w5 := ((Below.refl wb.heap.size wb).drew.alloc (by simp) _).trans (hG5.below.mono (by simp)); have K5 := And.intro (keepc q0 hb5) (And.intro (keepc q1 hb5) (keepc q2 hb5)); rw [List.nil_append, List.length_nil, Nat.zero_add] at hF5)
      | (go_at_call 64; refine (l4Copy_any _ c.tree _ (Rep.keep htb.rd hb5) hl hx).mono ?_; rintro e w9 ⟨v9, rfl, hF9, hb9⟩; obtain ⟨a9, c9, hv9, _⟩ := hF9.shape; subst hv9; have K9 := And.intro (keepc K5.1 hb9) (And.intro (keepc K5.2.1 hb9) (keepc K5.2.2 hb9)); have hbx9 := (hb9.block (w.heap.size + 1) (by have := hb5.size; have := HWS.out; omega)).trans ((hb5.block (w.heap.size + 1) HWS.out).trans hbox); have x0 := (cell_of_row w9 (w.heap.size + 1) 0 _ _ (0, 0) hbx9); have x1 := (cell_of_row w9 (w.heap.size + 1) 1 _ _ (0, 0) hbx9); have x2 := (cell_of_row w9 (w.heap.size + 1) 2 _ _ (0, 0) hbx9); have z0 := frozen_of_row w9 (w.heap.size + 1) 0 _ _ hbx9; have z1 := frozen_of_row w9 (w.heap.size + 1) 1 _ _ hbx9; have z2 := frozen_of_row w9 (w.heap.size + 1) 2 _ _ hbx9; simp at x0 x1 x2))
  all_goals
    have hF5 := hF5.belowm (Nat.le_refl _) hb9
    have hs9 := hb9.size
    have hs5' := hb5.size
    have hws1 := HWS.out
    have HB9 := hB0.trans ((hb5.trans (hb9.mono hb5.size)).mono hB0.size)
    have hne : w.heap.size + 1 < w9.heap.size := by omega
    have hh1 := heap_setCell_same w9 (w.heap.size + 1) 0 _ _ (.slice a5 c.parents.length c5) hbx9
    have hh2 := heap_setCell_same _ (w.heap.size + 1) 1 _ _ (.string c.who) hh1
    have hh3 := heap_setCell_same _ (w.heap.size + 1) 2 _ _ (.slice a9 c.tree.length c9) hh2
    have y0 := cell_of_row _ (w.heap.size + 1) 0 _ _ (0, 0) hh3
    have y1 := cell_of_row _ (w.heap.size + 1) 1 _ _ (0, 0) hh3
    have y2 := cell_of_row _ (w.heap.size + 1) 2 _ _ (0, 0) hh3
    simp only [Array.getElem?_setIfInBounds] at y0 y1 y2
    simp at y0 y1 y2
    clear K5 K9 hh1 hh2 hh3 x0 x1 x2
    go_wp2
    refine bodyPost_ret (v := .agg #[.slice a5 c.parents.length c5, .string c.who, .slice a9 c.tree.length c9]) (by simp [results, Tryd.results26, go_sem, y0, y1, y2]) rfl ⟨a5, c5, a9, c9, w5.heap.size, rfl, ?_, ?_, ?_, ?_, ?_⟩
    · exact (((hF5.mono (B' := wb.heap.size) (by simp) (Nat.le_refl _)).setCell (.inl hws1)).setCell (.inl hws1)).setCell (.inl hws1) |>.mono hws (Nat.le_refl _)
    · exact ((hF9.setCell (.inl (show w.heap.size + 1 < w5.heap.size by omega))).setCell (.inl (show w.heap.size + 1 < w5.heap.size by omega))).setCell (.inl (show w.heap.size + 1 < w5.heap.size by omega)) |>.mono (Nat.le_refl _) (by simp)
    · omega
    · simp; omega
    · exact ((HB9.setCell (p := ⟨w.heap.size + 1, 0, none⟩) (Nat.le_succ _) _).setCell (p := ⟨w.heap.size + 1, 1, none⟩) (Nat.le_succ _) _).setCell (p := ⟨w.heap.size + 1, 2, none⟩) (Nat.le_succ _) _
end Go.Proofs.YthhmaclhggmneaaDoor
