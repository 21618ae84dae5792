/-
  The walk of a law: pieces made of a text are made of any text that begins with it.
-/
import Derived.Test.YtjfhbepnomnalaaDraw6
import Derived.Test.YtjfhbepnomnalaaPlain6
import Derived.Test.YtjfhbepnomnalaaL5
import Derived.Test.YtjfhbepnomnalaaL1
namespace Go.Proofs.Ytjfhbepnomnalaa
open Go.RowKit Go.Vc
open Go.Vc.Rep (rd)
open Go.Vc.Own (own)

/-- a text and pieces drawn -/
def TextPieces (w : World) (e : Ending) (w' : World) : Prop :=
  ∃ (v u : Value) (xs : List ByteArray) (ds : List Delta), e = .returned (.tuple #[v, u]) ∧ xs.length ≤ 18 ∧ rd (fun b => w.heap.size ≤ b) w' [v] xs ∧ rd (fun b => w.heap.size ≤ b) w' [u] ds ∧ Below w.heap.size w w'

set_option maxHeartbeats 1000000 in
theorem drawDeltaDo_any {S : Nat → Prop} (v : Value) (bs : List UInt8) (w : World) (hv : rd S w [v] bs) (hl : bs.length ≤ 1048576) :
    Calls Try.prog 35 #[v] w (TextPieces w) := by
  go_enter Try.func35, Try.ntmps35
  go_wp2_with fail
  refine (l30Open_any v bs w hv hl).mono ?_
  rintro e w1 ⟨rfl, hr, hb, hsz⟩
  go_wp2_with fail
  refine (l30AnyText_any _ _ _ hr (by omega)).mono ?_
  rintro e w2 ⟨v, xs, rfl, hx, hF, hd, hr⟩
  have hsz2 := hd.size
  go_wp2_with fail
  refine (l30Delta_any _ _ v xs w2 hr (by omega) hF.rd (by intro b hb; omega) hx).mono ?_
  rintro e w3 ⟨u, ds, rfl, _, hD, hd3, hr3⟩
  have hF3 := (hd3.fresh hF (.inl (by omega))).now
  have hd4 := hd.tr hd3
  have hsz3 := hd3.size
  have hD3 := hD.mono hsz2 (Nat.le_refl _)
  go_wp2_with fail
  refine (pick_any _ _ _ _ hr3 (by omega) (by omega)).mono ?_
  rintro e w4 ⟨k, rfl, hk, hd5, hr5⟩
  have hF5 := (hd5.fresh hF3 (.inl (by omega))).now
  have hD5 := (hd5.fresh hD3 (.inl (by omega))).now
  have hd6 := hd4.tr hd5
  have hsz5 := hd5.size
  by_cases h0 : k = 0
  · subst h0
    go_wp2_with fail
    refine (l30Turn_any _ _ _ _ _ hr5 (by omega) hF5.rd hx).mono ?_
    rintro e w6 ⟨t, ys, rfl, hy, hG, hd7, hr7⟩
    have hD7 := hd7.fresh hD5 (.inl (by omega))
    have hd8 := hd6.tr hd7
    go_wp2
    go_ret2
    exact ⟨t, u, ys, ds, rfl, hy, Rep.mono (fun b hb => by omega) hG.rd, Rep.mono (fun b hb => by omega) hD7.rd, hb.trans (hd8.low (Nat.le_refl _) (by omega))⟩
  · have h0' := nat_eq_f h0
    go_wp2
    go_ret2
    exact ⟨v, u, xs, ds, rfl, hx, Rep.mono (fun b hb => by omega) hF5.rd, Rep.mono (fun b hb => by omega) hD5.rd, hb.trans (hd6.low (Nat.le_refl _) (by omega))⟩

theorem specDeltaDo_is {S T : Nat → Prop} (v : Value) (xs : List ByteArray) (u : Value) (ds : List Delta) (w : World) (hv : rd S w [v] xs) (hu : rd T w [u] ds) {r : List ByteArray} {b : Bool} (h : dDo xs ds = (r, b)) :
    Calls Try.prog 28 #[v, u] w fun e w' => ∃ v', e = .returned (.tuple #[v', .bool b]) ∧ Fresh w.heap.size w'.heap.size w' [v'] r ∧ Below w.heap.size w w' :=
  (specDeltaDo v xs u ds w hv hu).mono fun e w' h' => by rw [h] at h'; exact h'
theorem specDeltaOk_is {S : Nat → Prop} (v : Value) (xs : List Delta) (w : World) (hv : rd S w [v] xs) {b : Bool} (h : deltaB xs = b) :
    Calls Try.prog 16 #[v] w fun e w' => e = .returned (.bool b) ∧ Below w.heap.size w w' :=
  (specDeltaOk_any v xs w hv).mono fun e w' h' => by rw [← h]; exact h'
theorem more_src (w : World) : IsSlice (fun b => b = w.heap.size) (w.alloc (.cells #[.string ⟨#[109, 111, 114, 101]⟩] (Tid.tid ByteArray))) (some ⟨w.heap.size, 0, none⟩) 1 ([⟨#[109, 111, 114, 101]⟩] : List ByteArray) :=
  lit_strs ([⟨#[109, 111, 114, 101]⟩] : List ByteArray) (heap_alloc_new w (.cells #[.string ⟨#[109, 111, 114, 101]⟩] (Tid.tid ByteArray))) (by decide) (by decide)
set_option maxHeartbeats 4000000 in
set_option maxRecDepth 100000 in
theorem lawFnDeltaDo (v0 : Value) (bs : List UInt8) (w : World) (h0 : rd (fun b => b < w.heap.size) w [v0] bs) :
    Calls Try.prog 7 #[v0] w fun e w' => e = .returned (.bool true) ∧ Below w.heap.size w w' := by
  obtain ⟨a0, c0, rfl, hs0⟩ := rd_slice_elim h0
  have hle := hs0.le
  by_cases hbig : 1048576 < bs.length
  · go_enter Try.func7, Try.ntmps7
    go_wp2
    go_ret
    exact ⟨rfl, Below.refl _ _⟩
  · go_enter Try.func7, Try.ntmps7
    go_wp2_with fail
    refine (drawDeltaDo_any _ bs w h0 (by omega)).mono ?_
    rintro e w1 ⟨v, u, xs, ds, rfl, hxl, hx, hd, hb1⟩
    have hx := Rep.lt hx
    have hd := Rep.lt hd
    obtain ⟨r, b, hr⟩ : ∃ r b, dDo xs ds = (r, b) := ⟨_, _, rfl⟩
    have HR := Lib.hid hr
    obtain ⟨c, hc⟩ : ∃ c, deltaB ds = c := ⟨_, rfl⟩
    go_wp2_with fail
    refine (implDeltaDo_is v xs u ds w1 hx hd hr).mono ?_
    rintro e w2 ⟨x, rfl, hX, hb2⟩
    have hX2 := Rep.lt hX.rd
    have hx2 := Rep.lt (Rep.keep hx hb2)
    have hd2 := Rep.lt (Rep.keep hd hb2)
    have hbb2 := hb1.trans (hb2.mono hb1.size)
    go_wp2_with fail
    refine (specDeltaDo_is v xs u ds w2 hx2 hd2 hr).mono ?_
    rintro e w3 ⟨y, rfl, hY, hb3⟩
    have hX3 := Rep.lt (Rep.keep hX2 hb3)
    have hx3 := Rep.lt (Rep.keep hx2 hb3)
    have hd3 := Rep.lt (Rep.keep hd2 hb3)
    have hY3 := Rep.lt hY.rd
    have hbb3 := hbb2.trans (hb3.mono hbb2.size)
    clear hr hx hd hX hX2 hx2 hd2 hY hb1 hb2 hb3 hbb2
    cases b with
    | false =>
      cases c with
      | false =>
        go_wp2_with fail
        refine (smTexts_same x y r w3 hX3 hY3).mono ?_
        rintro e w4 ⟨rfl, hb4⟩
        have hX4 := Rep.lt (Rep.keep hX3 hb4)
        have hY4 := Rep.lt (Rep.keep hY3 hb4)
        have hx4 := Rep.lt (Rep.keep hx3 hb4)
        have hd4 := Rep.lt (Rep.keep hd3 hb4)
        have hbb4 := hbb3.trans (hb4.mono hbb3.size)
        go_wp2_with fail
        refine (deltaOk_is u ds w4 hd4 hc).mono ?_
        rintro e w5 ⟨rfl, hb5⟩
        have hX5 := Rep.lt (Rep.keep hX4 hb5)
        have hY5 := Rep.lt (Rep.keep hY4 hb5)
        have hx5 := Rep.lt (Rep.keep hx4 hb5)
        have hd5 := Rep.lt (Rep.keep hd4 hb5)
        have hbb5 := hbb4.trans (hb5.mono hbb4.size)
        go_wp2_with fail
        refine (specDeltaOk_is u ds w5 hd5 hc).mono ?_
        rintro e w6 ⟨rfl, hb6⟩
        have hX6 := Rep.lt (Rep.keep hX5 hb6)
        have hY6 := Rep.lt (Rep.keep hY5 hb6)
        have hx6 := Rep.lt (Rep.keep hx5 hb6)
        have hd6 := Rep.lt (Rep.keep hd5 hb6)
        have hbb6 := hbb5.trans (hb6.mono hbb5.size)
        clear hX3 hX4 hX5 hY3 hY4 hY5 hx3 hx4 hx5 hd3 hd4 hd5 hb4 hb5 hb6 hbb3 hbb4 hbb5
        go_wp2_with fail
        refine (smTexts_same x y r w6 hX6 hY6).mono ?_
        rintro e w7 ⟨rfl, hb7⟩
        have hX7 := Rep.lt (Rep.keep hX6 hb7)
        have hY7 := Rep.lt (Rep.keep hY6 hb7)
        have hx7 := Rep.lt (Rep.keep hx6 hb7)
        have hd7 := Rep.lt (Rep.keep hd6 hb7)
        have hbb7 := hbb6.trans (hb7.mono hbb6.size)
        go_wp2_with fail
        refine (deltaOk_is u ds w7 hd7 hc).mono ?_
        rintro e w8 ⟨rfl, hb8⟩
        have hX8 := Rep.lt (Rep.keep hX7 hb8)
        have hY8 := Rep.lt (Rep.keep hY7 hb8)
        have hx8 := Rep.lt (Rep.keep hx7 hb8)
        have hd8 := Rep.lt (Rep.keep hd7 hb8)
        have hbb8 := hbb7.trans (hb8.mono hbb7.size)
        go_wp2_with fail
        refine (specDeltaOk_is u ds w8 hd8 hc).mono ?_
        rintro e w9 ⟨rfl, hb9⟩
        have hX9 := Rep.lt (Rep.keep hX8 hb9)
        have hY9 := Rep.lt (Rep.keep hY8 hb9)
        have hx9 := Rep.lt (Rep.keep hx8 hb9)
        have hd9 := Rep.lt (Rep.keep hd8 hb9)
        have hbb9 := hbb8.trans (hb9.mono hbb8.size)
        clear hX6 hX7 hX8 hY6 hY7 hY8 hx6 hx7 hx8 hd6 hd7 hd8 hb7 hb8 hb9 hbb6 hbb7 hbb8
        go_wp2
        go_ret
        exact ⟨rfl, hbb9⟩
      | true =>
        go_wp2_with fail
        refine (smTexts_same x y r w3 hX3 hY3).mono ?_
        rintro e w4 ⟨rfl, hb4⟩
        have hX4 := Rep.lt (Rep.keep hX3 hb4)
        have hY4 := Rep.lt (Rep.keep hY3 hb4)
        have hx4 := Rep.lt (Rep.keep hx3 hb4)
        have hd4 := Rep.lt (Rep.keep hd3 hb4)
        have hbb4 := hbb3.trans (hb4.mono hbb3.size)
        go_wp2_with fail
        refine (deltaOk_is u ds w4 hd4 hc).mono ?_
        rintro e w5 ⟨rfl, hb5⟩
        have hX5 := Rep.lt (Rep.keep hX4 hb5)
        have hY5 := Rep.lt (Rep.keep hY4 hb5)
        have hx5 := Rep.lt (Rep.keep hx4 hb5)
        have hd5 := Rep.lt (Rep.keep hd4 hb5)
        have hbb5 := hbb4.trans (hb5.mono hbb4.size)
        go_wp2_with fail
        refine (specDeltaOk_is u ds w5 hd5 hc).mono ?_
        rintro e w6 ⟨rfl, hb6⟩
        have hX6 := Rep.lt (Rep.keep hX5 hb6)
        have hY6 := Rep.lt (Rep.keep hY5 hb6)
        have hx6 := Rep.lt (Rep.keep hx5 hb6)
        have hd6 := Rep.lt (Rep.keep hd5 hb6)
        have hbb6 := hbb5.trans (hb6.mono hbb5.size)
        clear hX3 hX4 hX5 hY3 hY4 hY5 hx3 hx4 hx5 hd3 hd4 hd5 hb4 hb5 hb6 hbb3 hbb4 hbb5
        go_wp2_with fail
        refine (smTexts_same x y r w6 hX6 hY6).mono ?_
        rintro e w7 ⟨rfl, hb7⟩
        have hX7 := Rep.lt (Rep.keep hX6 hb7)
        have hY7 := Rep.lt (Rep.keep hY6 hb7)
        have hx7 := Rep.lt (Rep.keep hx6 hb7)
        have hd7 := Rep.lt (Rep.keep hd6 hb7)
        have hbb7 := hbb6.trans (hb7.mono hbb6.size)
        go_wp2_with fail
        refine (deltaOk_is u ds w7 hd7 hc).mono ?_
        rintro e w8 ⟨rfl, hb8⟩
        have hX8 := Rep.lt (Rep.keep hX7 hb8)
        have hY8 := Rep.lt (Rep.keep hY7 hb8)
        have hx8 := Rep.lt (Rep.keep hx7 hb8)
        have hd8 := Rep.lt (Rep.keep hd7 hb8)
        have hbb8 := hbb7.trans (hb8.mono hbb7.size)
        go_wp2_with fail
        refine (specDeltaOk_is u ds w8 hd8 hc).mono ?_
        rintro e w9 ⟨rfl, hb9⟩
        have hX9 := Rep.lt (Rep.keep hX8 hb9)
        have hY9 := Rep.lt (Rep.keep hY8 hb9)
        have hx9 := Rep.lt (Rep.keep hx8 hb9)
        have hd9 := Rep.lt (Rep.keep hd8 hb9)
        have hbb9 := hbb8.trans (hb9.mono hbb8.size)
        clear hX6 hX7 hX8 hY6 hY7 hY8 hx6 hx7 hx8 hd6 hd7 hd8 hb7 hb8 hb9 hbb6 hbb7 hbb8
        go_wp2
        go_ret
        exact ⟨rfl, hbb9⟩
    | true =>
      obtain ⟨ht1, htd, ht2, _⟩ := dDo_true HR.out
      obtain rfl : c = true := by rw [← hc, htd]
      go_wp2_with fail
      refine (smTexts_same x y r w3 hX3 hY3).mono ?_
      rintro e w4 ⟨rfl, hb4⟩
      have hX4 := Rep.lt (Rep.keep hX3 hb4)
      have hY4 := Rep.lt (Rep.keep hY3 hb4)
      have hx4 := Rep.lt (Rep.keep hx3 hb4)
      have hd4 := Rep.lt (Rep.keep hd3 hb4)
      have hbb4 := hbb3.trans (hb4.mono hbb3.size)
      go_wp2_with fail
      refine (deltaOk_is u ds w4 hd4 hc).mono ?_
      rintro e w5 ⟨rfl, hb5⟩
      have hX5 := Rep.lt (Rep.keep hX4 hb5)
      have hY5 := Rep.lt (Rep.keep hY4 hb5)
      have hx5 := Rep.lt (Rep.keep hx4 hb5)
      have hd5 := Rep.lt (Rep.keep hd4 hb5)
      have hbb5 := hbb4.trans (hb5.mono hbb4.size)
      go_wp2_with fail
      refine (specDeltaOk_is u ds w5 hd5 hc).mono ?_
      rintro e w6 ⟨rfl, hb6⟩
      have hX6 := Rep.lt (Rep.keep hX5 hb6)
      have hY6 := Rep.lt (Rep.keep hY5 hb6)
      have hx6 := Rep.lt (Rep.keep hx5 hb6)
      have hd6 := Rep.lt (Rep.keep hd5 hb6)
      have hbb6 := hbb5.trans (hb6.mono hbb5.size)
      clear hX3 hX4 hX5 hY3 hY4 hY5 hx3 hx4 hx5 hd3 hd4 hd5 hb4 hb5 hb6 hbb3 hbb4 hbb5
      obtain ⟨av, cv, rfl, hsv⟩ := rd_slice_elim hx6
      by_cases h10 : 10 ≤ xs.length
      · go_wp2_with fail
        refine (textOk_is x r w6 hX6 ht2).mono ?_
        rintro e w7 ⟨rfl, rfl⟩
        go_wp2
        go_ret
        exact ⟨rfl, hbb6⟩
      · have hmore := dDo_more HR.out (by omega) ⟨#[109, 111, 114, 101]⟩ (by decide)
        go_wp2_with (first
          | (at_builtin; (refine wpList_app_leaf slz_string.slt rfl (.tmp 72) (.tmp 73) rfl rfl (Fresh.empty (by decide) w6.heap.size w6 (Nat.le_refl _)) (le_alloc (Nat.le_refl _) _) rfl rfl (hsv.alloc _) (by simp <;> omega) (by unfold maxLen; simp <;> omega) ?_); intro a7 c7 w7 hG7; have hF7 := (show Fresh w6.heap.size w7.heap.size w7 [.slice a7 xs.length c7] xs from (by have := hG7.fresh; simpa only [List.length_nil, Nat.zero_add, List.nil_append] using this)); have hb7 := ((Below.refl _ w6).alloc (Nat.le_refl _) (.cells #[] (Tid.tid ByteArray))).trans hG7.below; have hsz7 := hb7.size; have hsrc := more_src w7)
          | (at_builtin; go_must (refine wpList_app_leaf slz_string.slt rfl (.tmp 74) (.tmp 75) rfl rfl (hF7.alloc _) (le_alloc hsz7 _) rfl rfl hsrc (by simp <;> omega) (by unfold maxLen; simp <;> omega) ?_); intro a8 c8 w8 hG8))
        have hF8 : Fresh w6.heap.size w8.heap.size w8 [.slice a8 (xs.length + 1) c8] (xs ++ [⟨#[109, 111, 114, 101]⟩]) := hG8.fresh
        have hb8 := (hb7.alloc hsz7 (.cells #[.string ⟨#[109, 111, 114, 101]⟩] (Tid.tid ByteArray))).trans hG8.below
        have hX8 := Rep.lt (Rep.keep hX6 hb8)
        have hd8 := Rep.lt (Rep.keep hd6 hb8)
        have hbb8 := hbb6.trans (hb8.mono hbb6.size)
        refine (implDeltaDo_is _ _ u ds w8 hF8.rd hd8 hmore).mono ?_
        rintro e w9 ⟨z, rfl, hZ, hb9⟩
        have hX9 := Rep.lt (Rep.keep hX8 hb9)
        have hZ9 := Rep.lt hZ.rd
        have hbb9 := hbb8.trans (hb9.mono hbb8.size)
        go_wp2_with fail
        refine (smTexts_same z x r w9 hZ9 hX9).mono ?_
        rintro e w10 ⟨rfl, hb10⟩
        have hX10 := Rep.lt (Rep.keep hX9 hb10)
        go_wp2_with fail
        refine (textOk_is x r w10 hX10 ht2).mono ?_
        rintro e w11 ⟨rfl, rfl⟩
        go_wp2
        go_ret
        exact ⟨rfl, hbb9.trans (hb10.mono hbb9.size)⟩
end Go.Proofs.Ytjfhbepnomnalaa
