/-
  The walk of a law: what is made of another text is made again.
-/
import Derived.Test.YtjfhbepnomnalaaL2
import Derived.Test.YtjfhbepnomnalaaW10
import Derived.Test.YtjfhbepnomnalaaPlain5
import Derived.Test.YtjfhbepnomnalaaSm
import Derived.Test.YtjfhbepnomnalaaDraw5
namespace Go.Proofs.Ytjfhbepnomnalaa
open Go.RowKit Go.Vc
open Go.Vc.Rep (rd)
open Go.Vc.Own (own)

theorem smDelta_same {S T : Nat → Prop} (v u : Value) (xs : List Delta) (w : World) (hv : rd S w [v] xs) (hu : rd T w [u] xs) :
    Calls Try.prog 32 #[v, u] w fun e w' => e = .returned (.bool true) ∧ Below w.heap.size w w' :=
  (smDelta_any v u xs xs w hv hu).mono fun e w' h => by
    have e1 : decide (xs = xs) = true := decide_eq_true rfl
    rw [e1] at h
    exact h
theorem smTexts_same {S T : Nat → Prop} (v u : Value) (xs : List ByteArray) (w : World) (hv : rd S w [v] xs) (hu : rd T w [u] xs) :
    Calls Try.prog 34 #[v, u] w fun e w' => e = .returned (.bool true) ∧ Below w.heap.size w w' :=
  (smTexts_any v u xs xs w hv hu).mono fun e w' h => by
    have e1 : decide (xs = xs) = true := decide_eq_true rfl
    rw [e1] at h
    obtain ⟨h1, n, rfl⟩ := h
    exact ⟨h1, below_drewN (Below.refl _ _) n⟩
theorem textOk_is {S : Nat → Prop} (v : Value) (xs : List ByteArray) (w : World) (hv : rd S w [v] xs) {b : Bool} (h : textB xs = b) :
    Calls Try.prog 33 #[v] w fun e w' => e = .returned (.bool b) ∧ w = w' :=
  (textOk_any v xs w hv).mono fun e w' h' => by rw [← h]; exact h'
theorem deltaOk_is {S : Nat → Prop} (v : Value) (xs : List Delta) (w : World) (hv : rd S w [v] xs) {b : Bool} (h : deltaB xs = b) :
    Calls Try.prog 18 #[v] w fun e w' => e = .returned (.bool b) ∧ Below w.heap.size w w' :=
  (deltaOk_any v xs w hv).mono fun e w' h' => by rw [← h]; exact h'
theorem implDeltaOf_is {S T : Nat → Prop} (v : Value) (xs : List ByteArray) (u : Value) (ys : List ByteArray) (w : World) (hv : rd S w [v] xs) (hu : rd T w [u] ys) {D : List Delta} (h : dOf xs ys = D) :
    Calls Try.prog 23 #[v, u] w fun e w' => ∃ v', e = .returned v' ∧ Fresh w.heap.size w'.heap.size w' [v'] D ∧ Below w.heap.size w w' :=
  (implDeltaOf v xs u ys w hv hu).mono fun e w' h' => by rw [← h]; exact h'
theorem implDeltaDo_is {S T : Nat → Prop} (v : Value) (xs : List ByteArray) (u : Value) (ds : List Delta) (w : World) (hv : rd S w [v] xs) (hu : rd T w [u] ds) {r : List ByteArray} {b : Bool} (h : dDo xs ds = (r, b)) :
    Calls Try.prog 29 #[v, u] w fun e w' => ∃ v', e = .returned (.tuple #[v', .bool b]) ∧ Fresh w.heap.size w'.heap.size w' [v'] r ∧ Below w.heap.size w w' :=
  (implDeltaDo v xs u ds w hv hu).mono fun e w' h' => by rw [h] at h'; exact h'
theorem dOf_both {xs ys : List ByteArray} (h1 : textB xs = true) (h2 : textB ys = true) : dOf xs ys = deltaOf xs ys := by rw [dOf, if_pos h1, if_pos h2]

set_option maxHeartbeats 4000000 in
set_option maxRecDepth 100000 in
theorem lawFnDeltaOf (v0 : Value) (bs : List UInt8) (w : World) (h0 : rd (fun b => b < w.heap.size) w [v0] bs) :
    Calls Try.prog 6 #[v0] w fun e w' => e = .returned (.bool true) ∧ Below w.heap.size w w' := by
  obtain ⟨a0, c0, rfl, hs0⟩ := rd_slice_elim h0
  have hle := hs0.le
  by_cases hbig : 1048576 < bs.length
  · go_enter Try.func6, Try.ntmps6
    go_wp2
    go_ret
    exact ⟨rfl, Below.refl _ _⟩
  · go_enter Try.func6, Try.ntmps6
    go_wp2_with fail
    refine (drawDeltaOf_any _ bs w h0 (by omega)).mono ?_
    rintro e w1 ⟨v, u, xs, ys, rfl, hxl, hyl, hx, hy, hb1⟩
    have hx := Rep.lt hx
    have hy := Rep.lt hy
    go_wp2_with fail
    refine (implDeltaOf v xs u ys w1 hx hy).mono ?_
    rintro e w2 ⟨d, rfl, hD, hb2⟩
    have hD2 := Rep.lt hD.rd
    have hx2 := Rep.lt (Rep.keep hx hb2)
    have hy2 := Rep.lt (Rep.keep hy hb2)
    have hbb2 := hb1.trans (hb2.mono hb1.size)
    go_wp2_with fail
    refine (specDeltaOf v xs u ys w2 hx2 hy2).mono ?_
    rintro e w3 ⟨d2, rfl, hE, hb3⟩
    have hD3 := Rep.lt (Rep.keep hD2 hb3)
    have hx3 := Rep.lt (Rep.keep hx2 hb3)
    have hy3 := Rep.lt (Rep.keep hy2 hb3)
    have hbb3 := hbb2.trans (hb3.mono hbb2.size)
    go_wp2_with fail
    refine (smDelta_same d d2 (dOf xs ys) w3 hD3 hE.rd).mono ?_
    rintro e w4 ⟨rfl, hb4⟩
    have hD4 := Rep.lt (Rep.keep hD3 hb4)
    have hx4 := Rep.lt (Rep.keep hx3 hb4)
    have hy4 := Rep.lt (Rep.keep hy3 hb4)
    have hbb4 := hbb3.trans (hb4.mono hbb3.size)
    clear hx hy hx2 hy2 hD hD2 hE hx3 hy3 hD3 hb1 hb2 hb3 hb4 hbb2 hbb3
    cases ht1 : textB xs with
    | false =>
      go_wp2_with fail
      refine (textOk_is v xs w4 hx4 ht1).mono ?_
      rintro e w5 ⟨rfl, rfl⟩
      go_wp2_with fail
      refine (specDeltaOf v xs u ys w4 hx4 hy4).mono ?_
      rintro e w5 ⟨d3, rfl, hE, hb5⟩
      have hD5 := Rep.lt (Rep.keep hD4 hb5)
      have hbb5 := hbb4.trans (hb5.mono hbb4.size)
      go_wp2_with fail
      refine (smDelta_same d d3 (dOf xs ys) w5 hD5 hE.rd).mono ?_
      rintro e w6 ⟨rfl, hb6⟩
      go_wp2
      go_ret
      exact ⟨rfl, hbb5.trans (hb6.mono hbb5.size)⟩
    | true =>
      go_wp2_with fail
      refine (textOk_is v xs w4 hx4 ht1).mono ?_
      rintro e w5 ⟨rfl, rfl⟩
      cases ht2 : textB ys with
      | false =>
        go_wp2_with fail
        refine (textOk_is u ys w4 hy4 ht2).mono ?_
        rintro e w5 ⟨rfl, rfl⟩
        go_wp2_with fail
        refine (specDeltaOf v xs u ys w4 hx4 hy4).mono ?_
        rintro e w5 ⟨d3, rfl, hE, hb5⟩
        have hD5 := Rep.lt (Rep.keep hD4 hb5)
        have hbb5 := hbb4.trans (hb5.mono hbb4.size)
        go_wp2_with fail
        refine (smDelta_same d d3 (dOf xs ys) w5 hD5 hE.rd).mono ?_
        rintro e w6 ⟨rfl, hb6⟩
        go_wp2
        go_ret
        exact ⟨rfl, hbb5.trans (hb6.mono hbb5.size)⟩
      | true =>
        go_wp2_with fail
        refine (textOk_is u ys w4 hy4 ht2).mono ?_
        rintro e w5 ⟨rfl, rfl⟩
        rw [dOf_both ht1 ht2] at hD4
        go_wp2_with fail
        refine (implDeltaDo_is v xs d (deltaOf xs ys) w4 hx4 hD4 (do_of ht1 ht2)).mono ?_
        rintro e w5 ⟨x, rfl, hX, hb5⟩
        have hX5 := Rep.lt hX.rd
        have hy5 := Rep.lt (Rep.keep hy4 hb5)
        have hD5 := Rep.lt (Rep.keep hD4 hb5)
        have hbb5 := hbb4.trans (hb5.mono hbb4.size)
        go_wp2_with fail
        refine (implDeltaOf_is u ys u ys w5 hy5 hy5 (dOf_both ht2 ht2)).mono ?_
        rintro e w6 ⟨o, rfl, hO, hb6⟩
        have hO6 := Rep.lt hO.rd
        have hX6 := Rep.lt (Rep.keep hX5 hb6)
        have hy6 := Rep.lt (Rep.keep hy5 hb6)
        have hD6 := Rep.lt (Rep.keep hD5 hb6)
        have hbb6 := hbb5.trans (hb6.mono hbb5.size)
        go_wp2_with fail
        refine (implDeltaOf_is (.slice none 0 0) [] u ys w6 (rd_slice_nil (fun _ => True) w6) hy6 (dOf_both rfl ht2)).mono ?_
        rintro e w7 ⟨z, rfl, hZ, hb7⟩
        have hZ7 := Rep.lt hZ.rd
        have hO7 := Rep.lt (Rep.keep hO6 hb7)
        have hX7 := Rep.lt (Rep.keep hX6 hb7)
        have hy7 := Rep.lt (Rep.keep hy6 hb7)
        have hD7 := Rep.lt (Rep.keep hD6 hb7)
        have hbb7 := hbb6.trans (hb7.mono hbb6.size)
        go_wp2_with fail
        refine (smTexts_same x u ys w7 hX7 hy7).mono ?_
        rintro e w8 ⟨rfl, hb8⟩
        have hZ8 := Rep.lt (Rep.keep hZ7 hb8)
        have hO8 := Rep.lt (Rep.keep hO7 hb8)
        have hy8 := Rep.lt (Rep.keep hy7 hb8)
        have hD8 := Rep.lt (Rep.keep hD7 hb8)
        have hbb8 := hbb7.trans (hb8.mono hbb7.size)
        go_wp2_with fail
        refine (deltaOk_is d _ w8 hD8 (deltaOf_ok ht1 ht2)).mono ?_
        rintro e w9 ⟨rfl, hb9⟩
        have hZ9 := Rep.lt (Rep.keep hZ8 hb9)
        have hO9 := Rep.lt (Rep.keep hO8 hb9)
        have hy9 := Rep.lt (Rep.keep hy8 hb9)
        have hbb9 := hbb8.trans (hb9.mono hbb8.size)
        clear hx4 hy4 hD4 hy5 hD5 hX hX5 hO hO6 hX6 hy6 hD6 hZ hZ7 hO7 hX7 hy7 hD7 hZ8 hO8 hy8 hD8 hb5 hb6 hb7 hb8 hb9
        cases ys with
        | nil =>
          rw [deltaOf_nil] at hZ9 hO9
          obtain ⟨a5, c5, rfl, _⟩ := rd_slice_elim hO9
          obtain ⟨a6, c6, rfl, _⟩ := rd_slice_elim hZ9
          obtain ⟨a7, c7, rfl, _⟩ := rd_slice_elim hy9
          go_wp2
          go_ret
          exact ⟨rfl, hbb9⟩
        | cons y r =>
          rw [deltaOf_self] at hO9
          rw [deltaOf_none] at hZ9
          obtain ⟨a5, c5, rfl, hs5⟩ := rd_slice_elim hO9
          obtain ⟨a6, c6, rfl, hs6⟩ := rd_slice_elim hZ9
          obtain ⟨g, off, b1, n1, rfl, hc0, hc1, hc2, _, _, _⟩ := hs5.delta (i := 0) (by simp)
          obtain ⟨g', off', b1', n1', rfl, hc0', hc1', hc2', _, _, hl⟩ := hs6.delta (i := 0) (by simp)
          obtain ⟨a7, c7, rfl, hs7⟩ := rd_slice_elim hy9
          go_wp2_with fail
          refine (smTexts_same _ _ (y :: r) w9 (IsSlice.rd hl) (IsSlice.rd hs7)).mono ?_
          rintro e w10 ⟨rfl, hb10⟩
          go_wp2
          go_ret
          exact ⟨rfl, hbb9.trans (hb10.mono hbb9.size)⟩
end Go.Proofs.Ytjfhbepnomnalaa
