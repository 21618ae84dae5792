/-
  Walks: whether two texts are one.
-/
import Derived.Test.YthhmaclhggmneaaDoorVI
set_option linter.unusedVariables false
namespace Go.Proofs.YthhmaclhggmneaaDoor
open Go.RowKit Go.Vc
open Go.Vc.Rep (rd)
open Go.Vc.Own (own)

set_option maxHeartbeats 400000 in
theorem smTexts_any {S T : Nat → Prop} (v u : Value) (xs ys : List ByteArray) (w : World) (hv : rd S w [v] xs) (hu : rd T w [u] ys) :
    Calls Tryd.prog 50 #[v, u] w fun e w' => e = .returned (.bool (decide (xs = ys))) ∧ ∃ n, w' = w.drewN n := by
  obtain ⟨a, cap, rfl, hs⟩ := rd_slice_elim hv
  obtain ⟨b, cbp, rfl, ht⟩ := rd_slice_elim hu
  have hle := hs.le
  have hle' := ht.le
  by_cases hn : xs.length = ys.length
  · have hn2 : ((xs.length : Int) != ys.length) = false := by simp [hn]
    have HN := Lib.hid hn
    clear hn
    go_enter Tryd.func50, Tryd.ntmps50
    go_wp2
    go_loopw [5] (fun i wr => (∃ k : Nat, k ≤ xs.length ∧ i = .int .i64 k ∧ Hid (decide (xs = ys) = decide (xs.drop k = ys.drop k))) ∧ ∃ n, wr = w.drewN n) (fun i _ => xs.length - (intOf i).toNat)
    case atStart => exact ⟨⟨0, by omega, rfl, rfl⟩, 0, rfl⟩
    case round =>
      obtain ⟨⟨k, hk, rfl, HA⟩, nw, rfl⟩ := hrel
      by_cases hlt : k < xs.length
      · have hlt' : k < ys.length := by rw [← HN.out]; exact hlt
        obtain ⟨g, off, rfl, hc, _⟩ := hs.str hlt
        obtain ⟨g', off', rfl, hc', _⟩ := ht.str hlt'
        by_cases he : xs[k] = ys[k]
        · have he2 : decide (xs[k] = ys[k]) = true := decide_eq_true he
          have HE := Lib.hid he
          clear he
          go_wp2
          go_quiet (fail)
          go_wp2
          go_roundw
          case rel => exact ⟨⟨k + 1, by omega, by go_num, eq_next HA.out hlt hlt' HE.out⟩, _, rfl⟩
          case measure => simp [intOf]; omega
        · have he2 : decide (xs[k] = ys[k]) = false := decide_eq_false he
          go_wp2
          go_quiet (fail)
          go_wp2
          go_ret
          exact ⟨ret_bool (by rw [eq_bad HA.out hlt hlt' he]), drew_any⟩
      · go_wp2
        go_ret
        exact ⟨ret_bool (by rw [eq_end HA.out hlt (by have := HN.out; omega)]), _, rfl⟩
  · have hn2 : ((xs.length : Int) != ys.length) = true := by simp; omega
    go_enter Tryd.func50, Tryd.ntmps50
    go_wp2
    go_ret
    exact ⟨ret_bool (by symm; apply decide_eq_false; intro e; exact hn (by rw [e])), 0, rfl⟩
theorem smTexts_is {S T : Nat → Prop} (v u : Value) (xs ys : List ByteArray) (w : World) (hv : rd S w [v] xs) (hu : rd T w [u] ys) {b : Bool} (h : decide (xs = ys) = b) :
    Calls Tryd.prog 50 #[v, u] w fun e w' => e = .returned (.bool b) ∧ ∃ n, w' = w.drewN n := by rw [← h]; exact smTexts_any v u xs ys w hv hu
end Go.Proofs.YthhmaclhggmneaaDoor
