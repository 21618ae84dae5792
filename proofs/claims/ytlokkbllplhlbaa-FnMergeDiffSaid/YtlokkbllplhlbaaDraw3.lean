/-
  Walks: any text, a text turned.
-/
import Derived.Test.YtlokkbllplhlbaaDraw2
namespace Go.Proofs.Ytlokkbllplhlbaa
open Go.RowKit Go.Vc
open Go.Vc.Rep (rd)
open Go.Vc.Own (own)

theorem nat_eq_f {k : Nat} {n : Nat} (h : k ≠ n) : ((k : Int) == (n : Int)) = false := by simp only [beq_eq_false_iff_ne, ne_eq]; omega

set_option maxHeartbeats 1000000 in
theorem l30AnyText_any (rb N : Nat) (w : World) (h : RdOk w rb N) (hN : N ≤ 990000) :
    Calls Try.prog 56 #[.pointer (some ⟨rb, 0, none⟩)] w fun e w' => ∃ (v : Value) (xs : List ByteArray), e = .returned v ∧ xs.length ≤ 18 ∧ Fresh w.heap.size w'.heap.size w' [v] xs ∧ Drew rb w w' ∧ RdOk w' rb (N + 30) := by
  have hlt := h.lt
  go_enter Try.func56, Try.ntmps56
  go_wp2_with fail
  refine (l30Text_any rb N _ h (by omega)).mono ?_
  rintro e w1 ⟨v, xs, rfl, hx, hF, hd, hr⟩
  obtain ⟨a, c, rfl, _⟩ := hF.shape
  have hsz := hd.size
  go_wp2_with fail
  refine (pick_any rb _ _ _ hr (by omega) (by omega)).mono ?_
  rintro e w2 ⟨k, rfl, hk, hd2, hr2⟩
  have hF2 := (hd2.fresh hF (.inl hlt)).now
  have hd3 := hd.tr hd2
  have hsz3 := hd3.size
  by_cases h0 : k = 0
  · subst h0
    go_wp2_with fail
    refine (of_any (S := fun b => b = w2.heap.size) rb _ _ [⟨#[97, 32, 108, 105, 110, 101, 32, 116, 111, 111, 32, 108, 111, 110, 103]⟩, ⟨#[120, 10, 121]⟩, ⟨#[255]⟩] _ (hr2.alloc _) (by omega)
      (lit_strs _ (heap_alloc_new _ _) (by decide) (by decide)).rd (by intro b hb; omega) (by decide) (by decide)).mono ?_
    rintro e w4 ⟨s, rfl, _, hs, hd4, hr4⟩
    have hF4 := (hd4.fresh (hF2.alloc _) (.inl hlt)).now
    have hd5 := (hd3.belowB ((Below.refl _ _).alloc (Nat.le_refl _) _) hsz3).tr hd4
    have hsz5 := hd5.size
    have hsrc : IsSlice (fun b => b = w4.heap.size) (w4.alloc (.cells #[.string s] (Tid.tid ByteArray))) (some ⟨w4.heap.size, 0, none⟩) 1 [s] := lit_strs [s] (heap_alloc_new _ _) (by simpa using hs) (by unfold maxLen; simp)
    go_wp2_with (at_builtin; go_must (refine wpList_app_leaf slz_string.slt rfl (.tmp 10) (.tmp 14) rfl rfl (hF4.alloc _) (le_alloc hsz5 _) rfl rfl hsrc (by simp <;> omega) (by unfold maxLen; simp <;> omega) ?_); intro a4 c4 w6 hG4)
    go_ret
    exact ⟨_, xs ++ [s], rfl, by simp; omega, hG4.fresh, (hd5.belowB ((Below.refl _ _).alloc (Nat.le_refl _) _) hsz5).belowB hG4.below (Nat.le_refl _), ((hr4.alloc _).below hlt hG4.below).mono (by omega)⟩
  · have h0' := nat_eq_f h0
    by_cases h1 : k = 1
    · subst h1
      have hsrc := lit_strs (w := w2.alloc (.cells #[.string ⟨#[49]⟩, .string ⟨#[50]⟩, .string ⟨#[51]⟩, .string ⟨#[52]⟩, .string ⟨#[53]⟩, .string ⟨#[54]⟩, .string ⟨#[55]⟩, .string ⟨#[56]⟩, .string ⟨#[57]⟩, .string ⟨#[49, 48]⟩] (Tid.tid ByteArray))) [⟨#[49]⟩, ⟨#[50]⟩, ⟨#[51]⟩, ⟨#[52]⟩, ⟨#[53]⟩, ⟨#[54]⟩, ⟨#[55]⟩, ⟨#[56]⟩, ⟨#[57]⟩, ⟨#[49, 48]⟩] (heap_alloc_new _ _) (by decide) (by decide)
      go_wp2_with (at_builtin; go_must (refine wpList_app_leaf slz_string.slt rfl (.tmp 18) (.tmp 19) rfl rfl (hF2.alloc _) (le_alloc hsz3 _) rfl rfl hsrc (by simp <;> omega) (by unfold maxLen; simp <;> omega) ?_); intro a4 c4 w6 hG4)
      go_ret
      exact ⟨_, _, rfl, by simp; omega, hG4.fresh, (hd3.belowB ((Below.refl _ _).alloc (Nat.le_refl _) _) hsz3).belowB hG4.below (Nat.le_refl _), ((hr2.alloc _).below hlt hG4.below).mono (by omega)⟩
    · have h1' := nat_eq_f h1
      go_wp2
      go_ret
      exact ⟨_, xs, rfl, by omega, hF2, hd3, hr2.mono (by omega)⟩
end Go.Proofs.Ytlokkbllplhlbaa
