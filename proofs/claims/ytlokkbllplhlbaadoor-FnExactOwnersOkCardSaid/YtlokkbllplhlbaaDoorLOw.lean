/-
  The walk of the law 'FnExactOwnersOk'.
-/
import Derived.Test.YtlokkbllplhlbaaDoorWOwn
import Derived.Test.YtlokkbllplhlbaaDoorOwner1
set_option linter.unusedVariables false
namespace Go.Proofs.YtlokkbllplhlbaaDoor
open Go.RowKit Go.Vc
open Go.Vc.Rep (rd)
open Go.Vc.Own (own)
theorem owners_short {xs : List Owner} (h : bulk_O xs ≤ 1048576) : ∀ x, x ∈ xs → ShortS x.path := by
  intro x hx
  obtain ⟨i, hi, rfl⟩ := List.getElem_of_mem hx
  have h1 := bsum_at bulk1_owner xs i hi
  have h2 : bulk_O xs = xs.length + bsum bulk1_owner xs := rfl
  have h3 : bulk1_owner xs[i] = xs[i].path.size + xs[i].who.size := rfl
  exact short_of (by omega)

set_option maxHeartbeats 400000 in
set_option maxRecDepth 100000 in
theorem lawOwnersOk (v0 : Value) (x0 : List Owner) (w : World) (h0 : rd (fun b => b < w.heap.size) w [v0] x0) (hM : ML w) :
    Calls Tryd.prog 3 #[v0] w fun e w' => e = .returned (.bool true) ∧ Below w.heap.size w w' := by
  have HB := Below.refl w.heap.size w
  go_enter Tryd.func3, Tryd.ntmps3
  go_wp2_with fail
  refine (sz_O _ x0 (1048576) _ h0 (by omega) (by omega)).mono ?_
  rintro e w1 ⟨rfl, hb1⟩
  have hs1 := hb1.size
  have hM := ML.keep hM hb1
  have h0 := Rep.below h0 (Nat.le_refl _) hb1
  have HB := HB.trans (Below.mono hb1 HB.size)
  by_cases hn0 : sub (1048576) (bulk_O x0) < 0
  · go_wp2
    go_ret
    exact ⟨rfl, HB⟩
  · have hp0 := sub_pos (show 0 ≤ sub (1048576) (bulk_O x0) by omega)
    have hq0 := hp0.1
    have hle0 := sub_le (l := 1048576) (bulk_O x0) (by omega)
    have hx0 : bulk_O x0 ≤ 1048576 := by omega
    clear hp0
    go_wp2_with fail
    refine (to_O _ x0 _ h0 hx0).mono ?_
    rintro e w2 ⟨Av0, rfl, A0, hb2⟩
    have hs2 := hb2.size
    have hM := ML.keep hM hb2
    have h0 := Rep.below h0 (Nat.le_refl _) hb2
    have HB := HB.trans (Below.mono hb2 HB.size)
    go_wp2_with fail
    refine (specOwnersOk _ x0 _ (A0.rd)).mono ?_
    rintro e w3 ⟨rfl, hb3⟩
    have hs3 := hb3.size
    have hM := ML.keep hM hb3
    have h0 := Rep.below h0 (Nat.le_refl _) hb3
    have A0 := Fresh.below A0 (Nat.le_refl _) hb3
    have HB := HB.trans (Below.mono hb3 HB.size)
    clear A0
    go_wp2_with fail
    refine (to_O _ x0 _ h0 hx0).mono ?_
    rintro e w4 ⟨Xv0, rfl, X0, hb4⟩
    have hs4 := hb4.size
    have hM := ML.keep hM hb4
    have h0 := Rep.below h0 (Nat.le_refl _) hb4
    have HB := HB.trans (Below.mono hb4 HB.size)
    go_wp2_with fail
    refine (implOwnersOk _ x0 _ (X0.rd) (owners_short hx0) hM).mono ?_
    rintro e w5 ⟨rfl, hb5⟩
    have hs5 := hb5.size
    have hM := ML.keep hM hb5
    have h0 := Rep.below h0 (Nat.le_refl _) hb5
    have X0 := Fresh.below X0 (Nat.le_refl _) hb5
    have HB := HB.trans (Below.mono hb5 HB.size)
    go_wp2_with fail
    refine (to_O _ x0 _ h0 hx0).mono ?_
    rintro e w6 ⟨Yv0, rfl, Y0, hb6⟩
    have hs6 := hb6.size
    have hM := ML.keep hM hb6
    have h0 := Rep.below h0 (Nat.le_refl _) hb6
    have X0 := Fresh.below X0 (Nat.le_refl _) hb6
    have HB := HB.trans (Below.mono hb6 HB.size)
    go_wp2_with fail
    refine (eq_O _ _ _ _ _ X0.rd Y0.rd).mono ?_
    rintro e w7 ⟨rfl, hb7⟩
    have hs7 := hb7.size
    have hM := ML.keep hM hb7
    have h0 := Rep.below h0 (Nat.le_refl _) hb7
    have X0 := Fresh.below X0 (Nat.le_refl _) hb7
    have Y0 := Fresh.below Y0 (Nat.le_refl _) hb7
    have HB := HB.trans (Below.mono hb7 HB.size)
    clear Y0
    go_wp2
    go_ret
    exact ⟨rfl, HB⟩
end Go.Proofs.YtlokkbllplhlbaaDoor
