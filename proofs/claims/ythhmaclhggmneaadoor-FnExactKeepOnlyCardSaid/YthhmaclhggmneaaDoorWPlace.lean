/-
  Walks: where a number is among others.
-/
import Derived.Test.YthhmaclhggmneaaDoorPlSend
import Derived.Test.YthhmaclhggmneaaDoorWAnc2
set_option linter.unusedVariables false
namespace Go.Proofs.YthhmaclhggmneaaDoor
open Go.RowKit Go.Vc
open Go.Vc.Rep (rd)
open Go.Vc.Own (own)

set_option maxHeartbeats 2000000 in
theorem l14Place_is {S : Nat → Prop} (u : Value) (xs : List Int) (n : Int) (w : World) (hu : rd S w [u] xs) (hl : xs.length ≤ 1000000) {p : Int} (h : place xs n = p) :
    Calls Tryd.prog 27 #[u, .int .i64 n] w fun e w' => e = .returned (.int .i64 p) ∧ w' = w := by
  obtain ⟨a, cap, rfl, hs⟩ := rd_slice_elim (Rep.lt hu)
  have hle := hs.le
  have H0 : Hid (p = placeF xs 0 n) := h.symm
  clear h
  go_enter Tryd.func27, Tryd.ntmps27
  go_wp2
  go_loopw [5] (fun i wr => (∃ k : Nat, k ≤ xs.length ∧ i = .int .i64 k ∧ Hid (p = placeF (xs.drop k) k n)) ∧ wr = w) (fun i _ => xs.length - (intOf i).toNat)
  case atStart => exact ⟨⟨0, by omega, rfl, H0.out⟩, rfl⟩
  case round =>
    obtain ⟨⟨k, hk, rfl, HA⟩, rfl⟩ := hrel
    by_cases hlt : k < xs.length
    · obtain ⟨g, off, rfl, hc, _⟩ := hs.int hlt
      by_cases he : xs[k] = n
      · have HN := Lib.hid (place_hit HA.out hlt he)
        have hd : (xs[k] == n) = true := by simp [he]
        clear he
        go_wp2
        go_ret
        exact ⟨ret_int HN.out.symm, rfl⟩
      · have HN := Lib.hid (place_next HA.out hlt he)
        have hd : (xs[k] == n) = false := by simp [he]
        clear he
        go_wp2
        go_roundw
        case rel => exact ⟨⟨k + 1, by omega, by go_num, HN.out⟩, trivial⟩
        case measure => simp [intOf] <;> omega
    · have HN := Lib.hid (place_end HA.out hlt)
      go_wp2
      go_ret
      exact ⟨ret_int HN.out.symm, rfl⟩
end Go.Proofs.YthhmaclhggmneaaDoor
