/-
  Walks: names.
-/
import Derived.Test.YtlokkbllplhlbaaDoorW1
import Derived.Test.YtlokkbllplhlbaaDoorPlN
set_option linter.unusedVariables false
namespace Go.Proofs.YtlokkbllplhlbaaDoor
open Go.RowKit Go.Vc
open Go.Vc.Rep (rd)
open Go.Vc.Own (own)

set_option maxHeartbeats 1000000 in
theorem wordByte_is (c : UInt8) (w : World) {b : Bool} (hb : wordB c = b) :
    Calls Tryd.prog 55 #[.int .u8 c.toNat] w fun e w' => e = .returned (.bool b) ∧ w = w' := by
  subst hb
  by_cases h1 : 97 ≤ c.toNat
  · by_cases h2 : c.toNat ≤ 122
    · have H := Lib.hid (show wordB c = true by unfold wordB; simp; omega)
      go_enter Tryd.func55, Tryd.ntmps55
      go_wp2
      go_ret
      exact ⟨ret_bool (by rw [H.out] <;> simp <;> omega), rfl⟩
    · have H := Lib.hid (show wordB c = false by unfold wordB; simp; omega)
      have h4 : ¬ c.toNat ≤ 57 := by omega
      have h3 : 48 ≤ c.toNat := by omega
      go_enter Tryd.func55, Tryd.ntmps55
      go_wp2
      go_ret
      exact ⟨ret_bool (by rw [H.out] <;> simp <;> omega), rfl⟩
  · by_cases h3 : 48 ≤ c.toNat
    · by_cases h4 : c.toNat ≤ 57
      · have H := Lib.hid (show wordB c = true by unfold wordB; simp; omega)
        go_enter Tryd.func55, Tryd.ntmps55
        go_wp2
        go_ret
        exact ⟨ret_bool (by rw [H.out] <;> simp <;> omega), rfl⟩
      · have H := Lib.hid (show wordB c = false by unfold wordB; simp; omega)
        go_enter Tryd.func55, Tryd.ntmps55
        go_wp2
        go_ret
        exact ⟨ret_bool (by rw [H.out] <;> simp <;> omega), rfl⟩
    · have H := Lib.hid (show wordB c = false by unfold wordB; simp; omega)
      go_enter Tryd.func55, Tryd.ntmps55
      go_wp2
      go_ret
      exact ⟨ret_bool (by rw [H.out] <;> simp <;> omega), rfl⟩
theorem within_eq (n lo hi : Int) (w : World) {b : Bool} (h : withinB n lo hi = b) :
    Calls Tryd.prog 42 #[.int .i64 n, .int .i64 lo, .int .i64 hi] w fun e w' => e = .returned (.bool b) ∧ w = w' :=
  (within_any n lo hi w).mono fun e w' h' => by rw [← h]; exact h'
theorem l1In_eq (n lo hi : Int) (w : World) {b : Bool} (h : withinB n lo hi = b) :
    Calls Tryd.prog 65 #[.int .i64 n, .int .i64 lo, .int .i64 hi] w fun e w' => e = .returned (.bool b) ∧ w = w' :=
  (l1In_any n lo hi w).mono fun e w' h' => by rw [← h]; exact h'

set_option maxHeartbeats 1000000 in
theorem nameOk_is (s : ByteArray) (w : World) (hs : s.size ≤ maxLen) {b : Bool} (hb : nameB s = b) :
    Calls Tryd.prog 29 #[.string s] w fun e w' => e = .returned (.bool b) ∧ w = w' := by
  subst hb
  unfold maxLen at hs
  cases h1 : withinB (s.size : Int) 1 6 with
  | false =>
    have HN := Lib.hid (nameB_bad1 h1)
    go_enter Tryd.func29, Tryd.ntmps29
    go_wp2_with fail
    refine (within_eq _ _ _ _ h1).mono ?_
    rintro e w1 ⟨rfl, rfl⟩
    go_wp2
    go_ret
    exact ⟨ret_bool HN.out.symm, rfl⟩
  | true =>
    have HN := Lib.hid (nameB_of h1)
    go_enter Tryd.func29, Tryd.ntmps29
    go_wp2_with fail
    refine (within_eq _ _ _ _ h1).mono ?_
    rintro e w1 ⟨rfl, rfl⟩
    clear h1
    go_wp2
    go_loop [3] (fun i => ∃ k : Nat, k ≤ s.size ∧ i = .int .i64 k ∧ Hid (s.data.toList.all wordB = (s.data.toList.drop k).all wordB)) (fun i => s.size - (intOf i).toNat)
    case atStart => exact ⟨0, by omega, rfl, rfl⟩
    case round =>
      obtain ⟨k, hk, rfl, HA⟩ := hrel
      by_cases hlt : k < s.size
      · cases hw : wordB s[k] with
        | false =>
          have HB := Lib.hid (all_bad HA.out (by simpa using hlt) (by rw [byte_at s k hlt]; exact hw))
          go_wp2_with fail
          refine (wordByte_is _ _ hw).mono ?_
          rintro e w1 ⟨rfl, rfl⟩
          go_wp2
          go_ret
          exact ⟨ret_bool (by rw [HN.out, HB.out]), rfl⟩
        | true =>
          have HB := Lib.hid (all_next HA.out (by simpa using hlt) (by rw [byte_at s k hlt]; exact hw))
          go_wp2_with fail
          refine (wordByte_is _ _ hw).mono ?_
          rintro e w1 ⟨rfl, rfl⟩
          go_wp2
          go_round
          case rel => exact ⟨k + 1, by omega, by go_num, HB.out⟩
          case measure => simp [intOf]; omega
      · go_wp2
        go_ret
        exact ⟨ret_bool (by rw [HN.out, all_end HA.out (by simpa using hlt)]), rfl⟩
end Go.Proofs.YtlokkbllplhlbaaDoor
