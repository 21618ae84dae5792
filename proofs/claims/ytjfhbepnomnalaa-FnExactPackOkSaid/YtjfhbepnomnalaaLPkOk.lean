/-
  The walk of the law 'FnExactPackOk'.
-/
import Derived.Test.YtjfhbepnomnalaaPacked1
import Derived.Test.YtjfhbepnomnalaaPk4
set_option linter.unusedVariables false
namespace Go.Proofs.Ytjfhbepnomnalaa
open Go.RowKit Go.Vc
open Go.Vc.Rep (rd)
open Go.Vc.Own (own)

theorem specPackOk_u {S : Nat → Prop} (v : Value) (xs : List Packed) (w : World) (hv : rd S w [v] xs) (hlen : bulk_P xs ≤ 1048576) :
    Calls Try.prog 37 #[v] w fun e w' => e = .returned (.bool (packB xs)) ∧ Below w.heap.size w w' :=
  specPackOk_is v xs w hv (by unfold bulk_P bulkL at hlen; omega) rfl
theorem implPackOk_u {S : Nat → Prop} (v : Value) (xs : List Packed) (w : World) (hv : rd S w [v] xs) :
    Calls Try.prog 39 #[v] w fun e w' => e = .returned (.bool (packB xs)) ∧ Below w.heap.size w w' :=
  implPackOk_is v xs w hv rfl

set_option maxHeartbeats 400000 in
set_option maxRecDepth 100000 in
theorem lawPackOk (v0 : Value) (x0 : List Packed) (w : World) (h0 : rd (fun b => b < w.heap.size) w [v0] x0) :
    Calls Try.prog 8 #[v0] w fun e w' => e = .returned (.bool true) ∧ Below w.heap.size w w' := by
  have HB := Below.refl w.heap.size w
  go_enter Try.func8, Try.ntmps8
  go_wp2_with fail
  refine (sz_P _ x0 (1048576) _ h0 (by omega) (by omega)).mono ?_
  rintro e w1 ⟨rfl, hb1⟩
  have hs1 := hb1.size
  have h0 := Rep.below h0 (Nat.le_refl _) hb1
  have HB := HB.trans (Below.mono hb1 HB.size)
  by_cases hn0 : sub (1048576) (bulk_P x0) < 0
  · go_wp2
    go_ret
    exact ⟨rfl, HB⟩
  · have hp0 := sub_pos (show 0 ≤ sub (1048576) (bulk_P x0) by omega)
    have hq0 := hp0.1
    have hle0 := sub_le (l := 1048576) (bulk_P x0) (by omega)
    have hx0 : bulk_P x0 ≤ 1048576 := by omega
    clear hp0
    go_wp2_with fail
    refine (to_P _ x0 _ h0 hx0).mono ?_
    rintro e w2 ⟨Av0, rfl, A0, hb2⟩
    have hs2 := hb2.size
    have h0 := Rep.below h0 (Nat.le_refl _) hb2
    have HB := HB.trans (Below.mono hb2 HB.size)
    go_wp2_with fail
    refine (specPackOk_u _ x0 _ (A0.rd) hx0).mono ?_
    rintro e w3 ⟨rfl, hb3⟩
    have hs3 := hb3.size
    have h0 := Rep.below h0 (Nat.le_refl _) hb3
    have A0 := Fresh.below A0 (Nat.le_refl _) hb3
    have HB := HB.trans (Below.mono hb3 HB.size)
    clear A0
    go_wp2_with fail
    refine (to_P _ x0 _ h0 hx0).mono ?_
    rintro e w4 ⟨Xv0, rfl, X0, hb4⟩
    have hs4 := hb4.size
    have h0 := Rep.below h0 (Nat.le_refl _) hb4
    have HB := HB.trans (Below.mono hb4 HB.size)
    go_wp2_with fail
    refine (implPackOk_u _ x0 _ (X0.rd)).mono ?_
    rintro e w5 ⟨rfl, hb5⟩
    have hs5 := hb5.size
    have h0 := Rep.below h0 (Nat.le_refl _) hb5
    have X0 := Fresh.below X0 (Nat.le_refl _) hb5
    have HB := HB.trans (Below.mono hb5 HB.size)
    go_wp2_with fail
    refine (to_P _ x0 _ h0 hx0).mono ?_
    rintro e w6 ⟨Yv0, rfl, Y0, hb6⟩
    have hs6 := hb6.size
    have h0 := Rep.below h0 (Nat.le_refl _) hb6
    have X0 := Fresh.below X0 (Nat.le_refl _) hb6
    have HB := HB.trans (Below.mono hb6 HB.size)
    go_wp2_with fail
    refine (eq_P _ _ _ _ _ X0.rd Y0.rd).mono ?_
    rintro e w7 ⟨rfl, hb7⟩
    have hs7 := hb7.size
    have h0 := Rep.below h0 (Nat.le_refl _) hb7
    have X0 := Fresh.below X0 (Nat.le_refl _) hb7
    have Y0 := Fresh.below Y0 (Nat.le_refl _) hb7
    have HB := HB.trans (Below.mono hb7 HB.size)
    clear Y0
    go_wp2
    go_ret
    exact ⟨rfl, HB⟩
end Go.Proofs.Ytjfhbepnomnalaa
