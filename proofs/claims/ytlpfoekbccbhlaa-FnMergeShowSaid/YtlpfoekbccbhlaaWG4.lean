/-
  Walks: what two sides made of a piece, as the reference has it.
-/
import Derived.Test.YtlpfoekbccbhlaaWG3
set_option linter.unusedVariables false
namespace Go.Proofs.Ytlpfoekbccbhlaa
open Go.RowKit Go.Vc
open Go.Vc.Rep (rd)
open Go.Vc.Own (own)

/-- a new variable's cells, behind more memory -/
theorem newpart {w W : World} (h : Below (w.heap.size + 1) (w.alloc (.cells #[.bool false, .slice none 0 0, .slice none 0 0, .slice none 0 0, .slice none 0 0] 45)) W) :
    W.cell? ⟨w.heap.size, 0, none⟩ = some (.bool false) ∧ W.cell? ⟨w.heap.size, 1, none⟩ = some (.slice none 0 0) ∧ W.cell? ⟨w.heap.size, 2, none⟩ = some (.slice none 0 0) ∧ W.cell? ⟨w.heap.size, 3, none⟩ = some (.slice none 0 0) ∧ W.cell? ⟨w.heap.size, 4, none⟩ = some (.slice none 0 0) ∧
      ∀ j, W.frozen? ⟨w.heap.size, j, none⟩ = false := by
  have hb := (h.block w.heap.size (by omega)).trans (heap_alloc_new _ _)
  refine ⟨?_, ?_, ?_, ?_, ?_, fun j => frozen_of_row W _ j _ _ hb⟩ <;> rw [cell_of_row W _ _ _ _ (0, 0) hb] <;> rfl

theorem wdrewN {w : World} {n : Nat} : Below w.heap.size w (w.drewN n) := below_drewN (Below.refl _ _) n

set_option maxHeartbeats 4000000 in
set_option maxRecDepth 100000 in
theorem l3PartL_any {B : Nat} (v u x : Value) (o a b ls : List ByteArray) (w : World) (hv : rd (fun k => k < B) w [v] o) (hu : rd (fun k => k < B) w [u] a) (hx : rd (fun k => k < B) w [x] b) (hB : B ≤ w.heap.size)
    (hla : a.length ≤ 1000) (hlb : b.length ≤ 1000) (h : (a = o ∨ a = b) ∧ ls = b ∨ ¬ (a = o ∨ a = b) ∧ b = o ∧ ls = a) :
    Calls Try.prog 53 #[v, u, x] w fun e w' => ∃ a1 c1, e = .returned (.agg #[.bool false, .slice a1 ls.length c1, .slice none 0 0, .slice none 0 0, .slice none 0 0]) ∧
      Fresh w.heap.size w'.heap.size w' [.bool false, .slice a1 ls.length c1, .slice none 0 0, .slice none 0 0, .slice none 0 0] (⟨false, ls, [], [], []⟩ : Part) ∧ Below w.heap.size w w' := by
  obtain ⟨ao, co, rfl, hso⟩ := rd_slice_elim hv
  obtain ⟨aa, ca, rfl, hsa⟩ := rd_slice_elim hu
  obtain ⟨ab, cb, rfl, hsb⟩ := rd_slice_elim hx
  by_cases e1 : a = o
  · have HL : Hid (ls = b) := by
      show _ = _
      rcases h with ⟨_, h⟩ | ⟨h, _⟩
      · exact h
      · exact absurd (.inl e1) h
    have e1d : decide (a = o) = true := decide_eq_true e1
    clear h e1
    have hZ0 : Below w.heap.size w (w.alloc (.cells #[.bool false, .slice none 0 0, .slice none 0 0, .slice none 0 0, .slice none 0 0] 45)) := (Below.refl _ _).alloc (Nat.le_refl _) _
    go_enter Try.func53, Try.ntmps53
    go_wp2_with fail
    refine (l1Same_is _ _ _ _ _ ((hsa).keep (hZ0.mono hB)).rd ((hso).keep (hZ0.mono hB)).rd e1d).mono ?_
    rintro e wd1 ⟨rfl, nn1, hnn1⟩
    have hZ1 := hZ0.trans ((hnn1 ▸ wdrewN : Below _ _ wd1).mono hZ0.size)
    have hY1 : Below (w.heap.size + 1) (w.alloc (.cells #[.bool false, .slice none 0 0, .slice none 0 0, .slice none 0 0, .slice none 0 0] 45)) wd1 := (hnn1 ▸ wdrewN : Below _ _ wd1).mono (by simp)
    clear hnn1
    have hszy := hY1.size
    simp at hszy
    go_wp2_with (at_builtin; go_must (refine wpList_app_leaf slz_string.slt rfl (.tmp 14) (.tmp 15) rfl rfl (Fresh.empty (β := ByteArray) (by decide) wd1.heap.size wd1 (Nat.le_refl _)) (by simp) rfl rfl ((hsb.keep (hZ1.mono hB)).alloc _) (by simp <;> omega) (by unfold maxLen; simp <;> omega) ?_); intro a5 c5 w5 hG5; have hY9 : Below (w.heap.size + 1) (w.alloc (.cells #[.bool false, .slice none 0 0, .slice none 0 0, .slice none 0 0, .slice none 0 0] 45)) w5 := (hY1.alloc (by omega) _).trans (hG5.below.mono (by omega)); obtain ⟨x0, x1, x2, x3, x4, xf⟩ := newpart hY9)
    have hsz9 := hG5.below.size
    have hF := hG5.fresh
    rw [List.nil_append, List.length_nil, Nat.zero_add] at hF
    refine bodyPost_ret (v := .agg #[.bool false, .slice a5 b.length c5, .slice none 0 0, .slice none 0 0, .slice none 0 0]) (by simp [results, Try.results53, go_sem, x0, x1, x2, x3, x4]) rfl ⟨a5, c5, by rw [HL.out], ?_, ?_⟩
    · rw [HL.out]
      have hF2 := (((((hF.setCell (a := ⟨w.heap.size, 0, none⟩) (u := .bool false) (.inl (by simp; omega))).setCell (a := ⟨w.heap.size, 1, none⟩) (u := .slice a5 b.length c5) (.inl (by simp; omega))).setCell (a := ⟨w.heap.size, 2, none⟩) (u := .slice none 0 0) (.inl (by simp; omega))).setCell (a := ⟨w.heap.size, 3, none⟩) (u := .slice none 0 0) (.inl (by simp; omega))).setCell (a := ⟨w.heap.size, 4, none⟩) (u := .slice none 0 0) (.inl (by simp; omega)))
      exact (Fresh.partL hF2).now.mono (by omega) (Nat.le_refl _)
    · have hq : Below w.heap.size w w5 := hZ0.trans (hY9.mono (by omega))
      exact ((((hq.setCell (by simp) _).setCell (by simp) _).setCell (by simp) _).setCell (by simp) _).setCell (by simp) _
  · have e1d : decide (a = o) = false := decide_eq_false e1
    by_cases e2 : a = b
    · have HL : Hid (ls = b) := by
        show _ = _
        rcases h with ⟨_, h⟩ | ⟨h, _⟩
        · exact h
        · exact absurd (.inr e2) h
      have e2d : decide (a = b) = true := decide_eq_true e2
      clear h e1 e2
      have hZ0 : Below w.heap.size w (w.alloc (.cells #[.bool false, .slice none 0 0, .slice none 0 0, .slice none 0 0, .slice none 0 0] 45)) := (Below.refl _ _).alloc (Nat.le_refl _) _
      go_enter Try.func53, Try.ntmps53
      go_wp2_with fail
      refine (l1Same_is _ _ _ _ _ ((hsa).keep (hZ0.mono hB)).rd ((hso).keep (hZ0.mono hB)).rd e1d).mono ?_
      rintro e wd1 ⟨rfl, nn1, hnn1⟩
      have hZ1 := hZ0.trans ((hnn1 ▸ wdrewN : Below _ _ wd1).mono hZ0.size)
      have hY1 : Below (w.heap.size + 1) (w.alloc (.cells #[.bool false, .slice none 0 0, .slice none 0 0, .slice none 0 0, .slice none 0 0] 45)) wd1 := (hnn1 ▸ wdrewN : Below _ _ wd1).mono (by simp)
      clear hnn1
      go_wp2_with fail
      refine (l1Same_is _ _ _ _ _ ((hsa).keep (hZ1.mono hB)).rd ((hsb).keep (hZ1.mono hB)).rd e2d).mono ?_
      rintro e wd2 ⟨rfl, nn2, hnn2⟩
      have hZ2 := hZ1.trans ((hnn2 ▸ wdrewN : Below _ _ wd2).mono hZ1.size)
      have hY2 : Below (w.heap.size + 1) (w.alloc (.cells #[.bool false, .slice none 0 0, .slice none 0 0, .slice none 0 0, .slice none 0 0] 45)) wd2 := hY1.trans ((hnn2 ▸ wdrewN : Below _ _ wd2).mono (by have := hY1.size; simp at this; omega))
      clear hnn2
      have hszy := hY2.size
      simp at hszy
      go_wp2_with (at_builtin; go_must (refine wpList_app_leaf slz_string.slt rfl (.tmp 14) (.tmp 15) rfl rfl (Fresh.empty (β := ByteArray) (by decide) wd2.heap.size wd2 (Nat.le_refl _)) (by simp) rfl rfl ((hsb.keep (hZ2.mono hB)).alloc _) (by simp <;> omega) (by unfold maxLen; simp <;> omega) ?_); intro a5 c5 w5 hG5; have hY9 : Below (w.heap.size + 1) (w.alloc (.cells #[.bool false, .slice none 0 0, .slice none 0 0, .slice none 0 0, .slice none 0 0] 45)) w5 := (hY2.alloc (by omega) _).trans (hG5.below.mono (by omega)); obtain ⟨x0, x1, x2, x3, x4, xf⟩ := newpart hY9)
      have hsz9 := hG5.below.size
      have hF := hG5.fresh
      rw [List.nil_append, List.length_nil, Nat.zero_add] at hF
      refine bodyPost_ret (v := .agg #[.bool false, .slice a5 b.length c5, .slice none 0 0, .slice none 0 0, .slice none 0 0]) (by simp [results, Try.results53, go_sem, x0, x1, x2, x3, x4]) rfl ⟨a5, c5, by rw [HL.out], ?_, ?_⟩
      · rw [HL.out]
        have hF2 := (((((hF.setCell (a := ⟨w.heap.size, 0, none⟩) (u := .bool false) (.inl (by simp; omega))).setCell (a := ⟨w.heap.size, 1, none⟩) (u := .slice a5 b.length c5) (.inl (by simp; omega))).setCell (a := ⟨w.heap.size, 2, none⟩) (u := .slice none 0 0) (.inl (by simp; omega))).setCell (a := ⟨w.heap.size, 3, none⟩) (u := .slice none 0 0) (.inl (by simp; omega))).setCell (a := ⟨w.heap.size, 4, none⟩) (u := .slice none 0 0) (.inl (by simp; omega)))
        exact (Fresh.partL hF2).now.mono (by omega) (Nat.le_refl _)
      · have hq : Below w.heap.size w w5 := hZ0.trans (hY9.mono (by omega))
        exact ((((hq.setCell (by simp) _).setCell (by simp) _).setCell (by simp) _).setCell (by simp) _).setCell (by simp) _
    · have e2d : decide (a = b) = false := decide_eq_false e2
      have h3 : b = o ∧ ls = a := by
        rcases h with ⟨h, _⟩ | ⟨_, h⟩
        · rcases h with h | h
          · exact absurd h e1
          · exact absurd h e2
        · exact h
      have e3d : decide (b = o) = true := decide_eq_true h3.1
      have HL := Lib.hid h3.2
      clear h e1 e2 h3
      have hZ0 : Below w.heap.size w (w.alloc (.cells #[.bool false, .slice none 0 0, .slice none 0 0, .slice none 0 0, .slice none 0 0] 45)) := (Below.refl _ _).alloc (Nat.le_refl _) _
      go_enter Try.func53, Try.ntmps53
      go_wp2_with fail
      refine (l1Same_is _ _ _ _ _ ((hsa).keep (hZ0.mono hB)).rd ((hso).keep (hZ0.mono hB)).rd e1d).mono ?_
      rintro e wd1 ⟨rfl, nn1, hnn1⟩
      have hZ1 := hZ0.trans ((hnn1 ▸ wdrewN : Below _ _ wd1).mono hZ0.size)
      have hY1 : Below (w.heap.size + 1) (w.alloc (.cells #[.bool false, .slice none 0 0, .slice none 0 0, .slice none 0 0, .slice none 0 0] 45)) wd1 := (hnn1 ▸ wdrewN : Below _ _ wd1).mono (by simp)
      clear hnn1
      go_wp2_with fail
      refine (l1Same_is _ _ _ _ _ ((hsa).keep (hZ1.mono hB)).rd ((hsb).keep (hZ1.mono hB)).rd e2d).mono ?_
      rintro e wd2 ⟨rfl, nn2, hnn2⟩
      have hZ2 := hZ1.trans ((hnn2 ▸ wdrewN : Below _ _ wd2).mono hZ1.size)
      have hY2 : Below (w.heap.size + 1) (w.alloc (.cells #[.bool false, .slice none 0 0, .slice none 0 0, .slice none 0 0, .slice none 0 0] 45)) wd2 := hY1.trans ((hnn2 ▸ wdrewN : Below _ _ wd2).mono (by have := hY1.size; simp at this; omega))
      clear hnn2
      go_wp2_with fail
      refine (l1Same_is _ _ _ _ _ ((hsb).keep (hZ2.mono hB)).rd ((hso).keep (hZ2.mono hB)).rd e3d).mono ?_
      rintro e wd3 ⟨rfl, nn3, hnn3⟩
      have hZ3 := hZ2.trans ((hnn3 ▸ wdrewN : Below _ _ wd3).mono hZ2.size)
      have hY3 : Below (w.heap.size + 1) (w.alloc (.cells #[.bool false, .slice none 0 0, .slice none 0 0, .slice none 0 0, .slice none 0 0] 45)) wd3 := hY2.trans ((hnn3 ▸ wdrewN : Below _ _ wd3).mono (by have := hY2.size; simp at this; omega))
      clear hnn3
      have hszy := hY3.size
      simp at hszy
      go_wp2_with (at_builtin; go_must (refine wpList_app_leaf slz_string.slt rfl (.tmp 22) (.tmp 23) rfl rfl (Fresh.empty (β := ByteArray) (by decide) wd3.heap.size wd3 (Nat.le_refl _)) (by simp) rfl rfl ((hsa.keep (hZ3.mono hB)).alloc _) (by simp <;> omega) (by unfold maxLen; simp <;> omega) ?_); intro a5 c5 w5 hG5; have hY9 : Below (w.heap.size + 1) (w.alloc (.cells #[.bool false, .slice none 0 0, .slice none 0 0, .slice none 0 0, .slice none 0 0] 45)) w5 := (hY3.alloc (by omega) _).trans (hG5.below.mono (by omega)); obtain ⟨x0, x1, x2, x3, x4, xf⟩ := newpart hY9)
      have hsz9 := hG5.below.size
      have hF := hG5.fresh
      rw [List.nil_append, List.length_nil, Nat.zero_add] at hF
      refine bodyPost_ret (v := .agg #[.bool false, .slice a5 a.length c5, .slice none 0 0, .slice none 0 0, .slice none 0 0]) (by simp [results, Try.results53, go_sem, x0, x1, x2, x3, x4]) rfl ⟨a5, c5, by rw [HL.out], ?_, ?_⟩
      · rw [HL.out]
        have hF2 := (((((hF.setCell (a := ⟨w.heap.size, 0, none⟩) (u := .bool false) (.inl (by simp; omega))).setCell (a := ⟨w.heap.size, 1, none⟩) (u := .slice a5 a.length c5) (.inl (by simp; omega))).setCell (a := ⟨w.heap.size, 2, none⟩) (u := .slice none 0 0) (.inl (by simp; omega))).setCell (a := ⟨w.heap.size, 3, none⟩) (u := .slice none 0 0) (.inl (by simp; omega))).setCell (a := ⟨w.heap.size, 4, none⟩) (u := .slice none 0 0) (.inl (by simp; omega)))
        exact (Fresh.partL hF2).now.mono (by omega) (Nat.le_refl _)
      · have hq : Below w.heap.size w w5 := hZ0.trans (hY9.mono (by omega))
        exact ((((hq.setCell (by simp) _).setCell (by simp) _).setCell (by simp) _).setCell (by simp) _).setCell (by simp) _
set_option maxHeartbeats 4000000 in
set_option maxRecDepth 100000 in
theorem l3PartC_any {B : Nat} (v u x : Value) (o a b : List ByteArray) (w : World) (hv : rd (fun k => k < B) w [v] o) (hu : rd (fun k => k < B) w [u] a) (hx : rd (fun k => k < B) w [x] b) (hB : B ≤ w.heap.size)
    (hlo : o.length ≤ 1000) (hla : a.length ≤ 1000) (hlb : b.length ≤ 1000) (e1 : ¬ a = o) (e2 : ¬ a = b) (e3 : ¬ b = o) :
    Calls Try.prog 53 #[v, u, x] w fun e w' => ∃ a2 c2 a3 c3 a4 c4, e = .returned (.agg #[.bool true, .slice none 0 0, .slice a2 o.length c2, .slice a3 a.length c3, .slice a4 b.length c4]) ∧
      Fresh w.heap.size w'.heap.size w' [.bool true, .slice none 0 0, .slice a2 o.length c2, .slice a3 a.length c3, .slice a4 b.length c4] (⟨true, [], o, a, b⟩ : Part) ∧ Below w.heap.size w w' := by
  obtain ⟨ao, co, rfl, hso⟩ := rd_slice_elim hv
  obtain ⟨aa, ca, rfl, hsa⟩ := rd_slice_elim hu
  obtain ⟨ab, cb, rfl, hsb⟩ := rd_slice_elim hx
  have e1d : decide (a = o) = false := decide_eq_false e1
  have e2d : decide (a = b) = false := decide_eq_false e2
  have e3d : decide (b = o) = false := decide_eq_false e3
  clear e1 e2 e3
  have hZ0 : Below w.heap.size w (w.alloc (.cells #[.bool false, .slice none 0 0, .slice none 0 0, .slice none 0 0, .slice none 0 0] 45)) := (Below.refl _ _).alloc (Nat.le_refl _) _
  go_enter Try.func53, Try.ntmps53
  go_wp2_with fail
  refine (l1Same_is _ _ _ _ _ ((hsa).keep (hZ0.mono hB)).rd ((hso).keep (hZ0.mono hB)).rd e1d).mono ?_
  rintro e wd1 ⟨rfl, nn1, hnn1⟩
  have hZ1 := hZ0.trans ((hnn1 ▸ wdrewN : Below _ _ wd1).mono hZ0.size)
  have hY1 : Below (w.heap.size + 1) (w.alloc (.cells #[.bool false, .slice none 0 0, .slice none 0 0, .slice none 0 0, .slice none 0 0] 45)) wd1 := (hnn1 ▸ wdrewN : Below _ _ wd1).mono (by simp)
  clear hnn1
  go_wp2_with fail
  refine (l1Same_is _ _ _ _ _ ((hsa).keep (hZ1.mono hB)).rd ((hsb).keep (hZ1.mono hB)).rd e2d).mono ?_
  rintro e wd2 ⟨rfl, nn2, hnn2⟩
  have hZ2 := hZ1.trans ((hnn2 ▸ wdrewN : Below _ _ wd2).mono hZ1.size)
  have hY2 : Below (w.heap.size + 1) (w.alloc (.cells #[.bool false, .slice none 0 0, .slice none 0 0, .slice none 0 0, .slice none 0 0] 45)) wd2 := hY1.trans ((hnn2 ▸ wdrewN : Below _ _ wd2).mono (by have := hY1.size; simp at this; omega))
  clear hnn2
  go_wp2_with fail
  refine (l1Same_is _ _ _ _ _ ((hsb).keep (hZ2.mono hB)).rd ((hso).keep (hZ2.mono hB)).rd e3d).mono ?_
  rintro e wd3 ⟨rfl, nn3, hnn3⟩
  have hZ3 := hZ2.trans ((hnn3 ▸ wdrewN : Below _ _ wd3).mono hZ2.size)
  have hY3 : Below (w.heap.size + 1) (w.alloc (.cells #[.bool false, .slice none 0 0, .slice none 0 0, .slice none 0 0, .slice none 0 0] 45)) wd3 := hY2.trans ((hnn3 ▸ wdrewN : Below _ _ wd3).mono (by have := hY2.size; simp at this; omega))
  clear hnn3
  have hszy := hY3.size
  simp at hszy
  go_wp2_with (first
    | (at_builtin; (with_reducible refine wpList_app_leaf slz_string.slt rfl (.tmp 26) (.tmp 27) rfl rfl (Fresh.empty (β := ByteArray) (by decide) wd3.heap.size wd3 (Nat.le_refl _)) (by simp) rfl rfl ((hso.keep (hZ3.mono hB)).alloc _) (by simp <;> omega) (by unfold maxLen; simp <;> omega) ?_); intro a5 c5 w5 hG5; have hY5 : Below (w.heap.size + 1) (w.alloc (.cells #[.bool false, .slice none 0 0, .slice none 0 0, .slice none 0 0, .slice none 0 0] 45)) w5 := (hY3.alloc (by omega) _).trans (hG5.below.mono (by omega)); have hZ5 : Below w.heap.size w w5 := hZ0.trans (hY5.mono (by omega)); have hz5 := hG5.below.size)
    | (at_builtin; (with_reducible refine wpList_app_leaf slz_string.slt rfl (.tmp 29) (.tmp 30) rfl rfl (Fresh.empty (β := ByteArray) (by decide) w5.heap.size w5 (Nat.le_refl _)) (by simp) rfl rfl ((hsa.keep (hZ5.mono hB)).alloc _) (by simp <;> omega) (by unfold maxLen; simp <;> omega) ?_); intro a6 c6 w6 hG6; have hY6 : Below (w.heap.size + 1) (w.alloc (.cells #[.bool false, .slice none 0 0, .slice none 0 0, .slice none 0 0, .slice none 0 0] 45)) w6 := (hY5.alloc (by simp at hz5; omega) _).trans (hG6.below.mono (by simp at hz5; omega)); have hZ6 : Below w.heap.size w w6 := hZ0.trans (hY6.mono (by omega)); have hz6 := hG6.below.size)
    | (at_builtin; go_must (refine wpList_app_leaf slz_string.slt rfl (.tmp 32) (.tmp 33) rfl rfl (Fresh.empty (β := ByteArray) (by decide) w6.heap.size w6 (Nat.le_refl _)) (by simp) rfl rfl ((hsb.keep (hZ6.mono hB)).alloc _) (by simp <;> omega) (by unfold maxLen; simp <;> omega) ?_); intro a7 c7 w7 hG7; have hY7 : Below (w.heap.size + 1) (w.alloc (.cells #[.bool false, .slice none 0 0, .slice none 0 0, .slice none 0 0, .slice none 0 0] 45)) w7 := (hY6.alloc (by simp at hz5 hz6; omega) _).trans (hG7.below.mono (by simp at hz5 hz6; omega)); have hz7 := hG7.below.size; obtain ⟨x0, x1, x2, x3, x4, xf⟩ := newpart hY7))
  simp at hz5 hz6 hz7
  have hF5 := hG5.fresh
  have hF6 := hG6.fresh
  have hF7 := hG7.fresh
  rw [List.nil_append, List.length_nil, Nat.zero_add] at hF5 hF6 hF7
  have hb6 : Below w5.heap.size w5 w6 := ((Below.refl _ _).alloc (Nat.le_refl _) _).trans hG6.below
  have hb7 : Below w6.heap.size w6 w7 := ((Below.refl _ _).alloc (Nat.le_refl _) _).trans hG7.below
  have hF5 := (hF5.below (Nat.le_refl _) hb6).below (by omega) (hb7)
  have hF6 := hF6.below (Nat.le_refl _) hb7
  refine bodyPost_ret (v := .agg #[.bool true, .slice none 0 0, .slice a5 o.length c5, .slice a6 a.length c6, .slice a7 b.length c7]) (by simp [results, Try.results53, go_sem, x0, x1, x2, x3, x4]) rfl ⟨a5, c5, a6, c6, a7, c7, rfl, ?_, ?_⟩
  · have hP := Fresh.partC hF5 hF6 hF7 (by omega) (by omega) (by omega)
    have hF2 := (((((hP.setCell (a := ⟨w.heap.size, 0, none⟩) (u := .bool true) (.inl (by simp; omega))).setCell (a := ⟨w.heap.size, 1, none⟩) (u := .slice none 0 0) (.inl (by simp; omega))).setCell (a := ⟨w.heap.size, 2, none⟩) (u := .slice a5 o.length c5) (.inl (by simp; omega))).setCell (a := ⟨w.heap.size, 3, none⟩) (u := .slice a6 a.length c6) (.inl (by simp; omega))).setCell (a := ⟨w.heap.size, 4, none⟩) (u := .slice a7 b.length c7) (.inl (by simp; omega)))
    exact hF2.now.mono (by omega) (Nat.le_refl _)
  · have hq : Below w.heap.size w w7 := hZ0.trans (hY7.mono (by omega))
    exact ((((hq.setCell (by simp) _).setCell (by simp) _).setCell (by simp) _).setCell (by simp) _).setCell (by simp) _
end Go.Proofs.Ytlpfoekbccbhlaa
