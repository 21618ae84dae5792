/-
  Walks: three texts drawn.
-/
import Derived.Test.YtlpfoekbccbhlaaVDR
import Derived.Test.YtlpfoekbccbhlaaDraw4
set_option linter.unusedVariables false
namespace Go.Proofs.Ytlpfoekbccbhlaa
open Go.RowKit Go.Vc
open Go.Vc.Rep (rd)
open Go.Vc.Own (own)

/-- three texts drawn -/
def ThreeTexts (w : World) (e : Ending) (w' : World) : Prop :=
  ∃ (v u x : Value) (os xs ys : List ByteArray), e = .returned (.tuple #[v, u, x]) ∧ os.length ≤ 18 ∧ xs.length ≤ 18 ∧ ys.length ≤ 18 ∧ rd (fun b => w.heap.size ≤ b) w' [v] os ∧ rd (fun b => w.heap.size ≤ b) w' [u] xs ∧ rd (fun b => w.heap.size ≤ b) w' [x] ys ∧ Below w.heap.size w w'

set_option maxHeartbeats 1000000 in
theorem l30Three_any {S : Nat → Prop} (v : Value) (bs : List UInt8) (w : World) (hv : rd S w [v] bs) (hl : bs.length ≤ 1048576) :
    Calls Try.prog 18 #[v] w (ThreeTexts w) := by
  go_enter Try.func18, Try.ntmps18
  go_wp2_with fail
  refine (l30Open_any v bs w hv hl).mono ?_
  rintro e w1 ⟨rfl, hr, hb, hsz⟩
  go_wp2_with fail
  refine (l30AnyText_any _ _ _ hr (by omega)).mono ?_
  rintro e w2 ⟨v, xs, rfl, hx, hF, hd, hr⟩
  have hsz2 := hd.size
  go_wp2_with fail
  refine (l30Turn_any _ _ _ _ _ hr (by omega) hF.rd hx).mono ?_
  rintro e w3 ⟨u, ys, rfl, hy, hG, hd3, hr3⟩
  have hF3 := (hd3.fresh hF (.inl (by omega)))
  have hd4 := hd.tr hd3
  have hsz3 := hd3.size
  go_wp2_with fail
  refine (pick_any _ _ _ _ hr3 (by omega) (by omega)).mono ?_
  rintro e w4 ⟨k, rfl, hk, hd5, hr5⟩
  have hF5 := (hd5.fresh hF3 (.inl (by omega)))
  have hG5 := (hd5.fresh hG (.inl (by omega)))
  have hd6 := hd4.tr hd5
  have hsz5 := hd5.size
  by_cases h0 : k = 0
  · subst h0
    go_wp2
    refine bodyPost_ret (results_tmp3 rfl _ _ _) rfl ?_
    exact ⟨v, u, u, xs, ys, ys, rfl, hx, hy, hy, Rep.mono (fun b hb => by omega) hF5.rd, Rep.mono (fun b hb => by omega) hG5.rd, Rep.mono (fun b hb => by omega) hG5.rd, hb.trans (hd6.low (Nat.le_refl _) (by omega))⟩
  · have h0' := nat_eq_f h0
    go_wp2_with fail
    refine (l30Turn_any _ _ _ _ _ hr5 (by omega) hF5.rd hx).mono ?_
    rintro e w6 ⟨x, zs, rfl, hz, hH, hd7, hr7⟩
    have hF7 := hd7.fresh hF5 (.inl (by omega))
    have hG7 := hd7.fresh hG5 (.inl (by omega))
    have hd8 := hd6.tr hd7
    go_wp2
    refine bodyPost_ret (results_tmp3 rfl _ _ _) rfl ?_
    exact ⟨v, u, x, xs, ys, zs, rfl, hx, hy, hz, Rep.mono (fun b hb => by omega) hF7.rd, Rep.mono (fun b hb => by omega) hG7.rd, Rep.mono (fun b hb => by omega) hH.rd, hb.trans (hd8.low (Nat.le_refl _) (by omega))⟩
end Go.Proofs.Ytlpfoekbccbhlaa
