/-
  Walks: marks of [][]string, held.
-/
import Derived.Test.YtmblockojnaffaaDoorHlpSS
set_option linter.unusedVariables false
namespace Go.Proofs.YtmblockojnaffaaDoor
open Go.RowKit Go.Vc
open Go.Vc.Rep (rd)
open Go.Vc.Own (own)

set_option maxHeartbeats 4000000 in
theorem held_SS {S : Nat → Prop} (v : Value) (xs : List (List ByteArray)) (k : Int) (w : World) (hv : rd S w [v] (marks_SS k xs)) (hk0 : 0 ≤ k) (hk1 : k + cnt_SS xs ≤ 16777216) :
    Calls Tryd.prog 34 #[v, .int .i64 k] w fun e w' => e = .returned (.int .i64 (k + cnt_SS xs)) ∧ Below w.heap.size w w' := by
  obtain ⟨a, cap, rfl, hs⟩ := rd_slice_elim (Rep.lt hv)
  have hlm := marks_SS_len k xs
  have hle := hs.le
  rw [hlm] at hle ⊢
  have hk1 : k + bsum cnt_S xs ≤ 16777216 := hk1
  go_enter Tryd.func34, Tryd.ntmps34
  go_wp2
  go_loopw [1, 5] (fun m i wr => (∃ j : Nat, j ≤ xs.length ∧ i = .int .i64 j ∧ m = .int .i64 (k + bsum cnt_S (xs.take j))) ∧ Below w.heap.size w wr) (fun _ i _ => xs.length - (intOf i).toNat)
  case atStart => exact ⟨⟨0, by omega, rfl, by simp [bsum]⟩, Below.refl _ _⟩
  case round =>
    obtain ⟨⟨j, hj, rfl, rfl⟩, hb⟩ := hrel
    by_cases hlt : j < xs.length
    · have hat := marksL_at marks_S cnt_S xs k j hlt (by rw [hlm]; exact hlt)
      have hsum := bsum_take cnt_S xs j hlt
      have hsl := bsum_take_le cnt_S xs (j + 1)
      obtain ⟨g, off, b, n, rfl, hc, hl⟩ := elem_SS (hs.keep hb) (i := j) (by rw [hlm]; exact hlt)
      obtain ⟨kk, hkk⟩ : ∃ kk : Int, k + bsum cnt_S (xs.take j) = kk := ⟨_, rfl⟩
      have hkend : k + bsum cnt_S (xs.take (j + 1)) = kk + cnt_S xs[j] := by omega
      have hkk0 : 0 ≤ kk := by omega
      have hkk1 : kk + cnt_S xs[j] ≤ 16777216 := by omega
      rw [hat, hkk] at hc hl
      rw [hkk]
      have hr := hl.rd
      have HK := Lib.hid hkend
      have hnn : 0 ≤ (cnt_S xs[j] : Int) := by omega
      clear hsum hsl hkend hkk hat hl
      go_wp2_with fail
      refine (held_S _ xs[j] _ _ hr (by omega) (by omega)).mono ?_
      rintro e w1 ⟨rfl, hb1⟩
      have hnd : decide (kk + (cnt_S xs[j] : Int) < 0) = false := decide_eq_false (by omega)
      have hb := hb.trans (hb1.mono hb.size)
      go_wp2
      go_roundw
      case rel => exact ⟨⟨j + 1, by omega, by go_num, by rw [HK.out] <;> go_num⟩, hb⟩
      case measure => simp [intOf]; omega
    · go_wp2
      go_ret
      exact ⟨ret_int (by rw [List.take_of_length_le (by omega)]), hb⟩
end Go.Proofs.YtmblockojnaffaaDoor
