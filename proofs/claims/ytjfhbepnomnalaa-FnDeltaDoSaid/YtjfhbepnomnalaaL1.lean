/-
  The walk of a law: DeltaOk.
-/
import Derived.Test.YtjfhbepnomnalaaW4
namespace Go.Proofs.Ytjfhbepnomnalaa
open Go.RowKit Go.Vc
open Go.Vc.Rep (rd)
open Go.Vc.Own (own)

set_option maxHeartbeats 400000 in
theorem specDeltaOk_any {S : Nat → Prop} (v : Value) (xs : List Delta) (w : World) (hv : rd S w [v] xs) :
    Calls Try.prog 16 #[v] w fun e w' => e = .returned (.bool (deltaB xs)) ∧ Below w.heap.size w w' := by
  go_enter Try.func16, Try.ntmps16
  go_wp2_with fail
  refine (l13Ok_any _ _ _ hv).mono ?_
  rintro e w1 ⟨rfl, hb1⟩
  go_wp2
  go_ret
  exact ⟨rfl, hb1⟩

set_option maxHeartbeats 400000 in
theorem lawDeltaOk (v : Value) (xs : List Delta) (w : World) (hv : rd (fun b => b < w.heap.size) w [v] xs) :
    Calls Try.prog 3 #[v] w fun e w' => e = .returned (.bool true) ∧ Below w.heap.size w w' := by
  go_enter Try.func3, Try.ntmps3
  go_wp2_with fail
  refine (szDeltaS_any _ _ _ _ hv (by decide) (by decide)).mono ?_
  rintro e w1 ⟨rfl, hb1⟩
  by_cases hneg : sub 1048576 (bulkL bulkD xs) < 0
  · go_wp2
    go_ret
    exact ⟨rfl, hb1⟩
  · have hbulk := (sub_pos (by omega) : 0 ≤ 1048576 - ((bulkL bulkD xs : Nat) : Int) ∧ _).1
    have hlen : bulkL bulkD xs ≤ 1048576 := by omega
    have hv1 := Rep.keep hv hb1
    go_wp2_with fail
    refine (toDeltaS_any _ _ _ hv1 hlen).mono ?_
    rintro e w2 ⟨v2, rfl, hF2, hb2⟩
    have hb2' := hb1.trans (hb2.mono hb1.size)
    have hv2 := Rep.keep hv hb2'
    go_wp2_with fail
    refine (specDeltaOk_any _ _ _ hF2.rd).mono ?_
    rintro e w3 ⟨rfl, hb3⟩
    have hb3' := hb2'.trans (hb3.mono hb2'.size)
    have hv3 := Rep.keep hv hb3'
    go_wp2_with fail
    refine (toDeltaS_any _ _ _ hv3 hlen).mono ?_
    rintro e w4 ⟨v4, rfl, hF4, hb4⟩
    have hb4' := hb3'.trans (hb4.mono hb3'.size)
    go_wp2_with fail
    refine (deltaOk_any _ _ _ hF4.rd).mono ?_
    rintro e w5 ⟨rfl, hb5⟩
    have hb5' := hb4'.trans (hb5.mono hb4'.size)
    have hv5 := Rep.keep hv hb5'
    have hF5 := hF4.belowm (Nat.le_refl _) hb5
    go_wp2_with fail
    refine (toDeltaS_any _ _ _ hv5 hlen).mono ?_
    rintro e w6 ⟨v6, rfl, hF6, hb6⟩
    have hb6' := hb5'.trans (hb6.mono hb5'.size)
    have hF5' := hF5.below (Nat.le_refl _) hb6
    go_wp2_with fail
    refine (eqDeltaS_any _ _ _ _ _ hF5'.rd hF6.rd).mono ?_
    rintro e w7 ⟨rfl, hb7⟩
    have hb7' := hb6'.trans (hb7.mono hb6'.size)
    go_wp2
    go_ret
    exact ⟨rfl, hb7'⟩
end Go.Proofs.Ytjfhbepnomnalaa
