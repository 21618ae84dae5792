/-
  Walks: names, as the reference has it.
-/
import Derived.Test.YtlokkbllplhlbaaDoorWN
set_option linter.unusedVariables false
namespace Go.Vc
theorem wordB_cases (c : UInt8) : wordB c = !((decide (c.toNat < 97) || decide (122 < c.toNat)) && (decide (c.toNat < 48) || decide (57 < c.toNat))) := by
  unfold wordB
  by_cases h1 : 97 ≤ c.toNat <;> by_cases h2 : c.toNat ≤ 122 <;> by_cases h3 : 48 ≤ c.toNat <;> by_cases h4 : c.toNat ≤ 57 <;> simp [h1, h2, h3, h4] <;> omega
end Go.Vc
namespace Go.Proofs.YtlokkbllplhlbaaDoor
open Go.RowKit Go.Vc
open Go.Vc.Rep (rd)
open Go.Vc.Own (own)

set_option maxHeartbeats 1000000 in
theorem l4Name_is (s : ByteArray) (w : World) (hs : s.size ≤ maxLen) {b : Bool} (hb : nameB s = b) :
    Calls Tryd.prog 54 #[.string s] w fun e w' => e = .returned (.bool b) ∧ w = w' := by
  subst hb
  unfold maxLen at hs
  go_enter Tryd.func54, Tryd.ntmps54
  go_wp2
  go_loop [3] (fun i => ∃ k : Nat, k ≤ s.size ∧ i = .int .i64 k ∧ Hid (s.data.toList.all wordB = (s.data.toList.drop k).all wordB)) (fun i => s.size - (intOf i).toNat)
  case atStart => exact ⟨0, by omega, rfl, rfl⟩
  case round =>
    obtain ⟨k, hk, rfl, HA⟩ := hrel
    by_cases hlt : k < s.size
    · cases hw : wordB s[k] with
      | false =>
        have HB := Lib.hid (nameB_bad2 (all_bad HA.out (by simpa using hlt) (by rw [byte_at s k hlt]; exact hw)))
        have hc := wordB_cases s[k]
        rw [hw] at hc
        by_cases h1 : s[k].toNat < 97
        · have h3 : s[k].toNat < 48 ∨ 57 < s[k].toNat := by simp [h1] at hc; omega
          have h1' : decide (s[k].toNat < 97) = true := decide_eq_true h1
          clear hc hw
          by_cases h4 : s[k].toNat < 48
          · go_wp2
            go_ret
            exact ⟨ret_bool HB.out.symm, rfl⟩
          · have h5 : 57 < s[k].toNat := by omega
            go_wp2
            go_ret
            exact ⟨ret_bool HB.out.symm, rfl⟩
        · have h2 : 122 < s[k].toNat := by simp [h1] at hc; omega
          have h4 : ¬ s[k].toNat < 48 := by omega
          have h5 : 57 < s[k].toNat := by omega
          clear hc hw
          go_wp2
          go_ret
          exact ⟨ret_bool HB.out.symm, rfl⟩
      | true =>
        have HB := Lib.hid (all_next HA.out (by simpa using hlt) (by rw [byte_at s k hlt]; exact hw))
        have hc := wordB_cases s[k]
        rw [hw] at hc
        by_cases h1 : s[k].toNat < 97
        · have h4 : ¬ s[k].toNat < 48 := by simp [h1] at hc; omega
          have h5 : ¬ 57 < s[k].toNat := by simp [h1] at hc; omega
          clear hc hw
          go_wp2
          go_round
          case rel => exact ⟨k + 1, by omega, by go_num, HB.out⟩
          case measure => simp [intOf]; omega
        · by_cases h2 : 122 < s[k].toNat
          · exfalso
            have h5 : 57 < s[k].toNat := by omega
            simp [h2, h5] at hc
          · clear hc hw
            go_wp2
            go_round
            case rel => exact ⟨k + 1, by omega, by go_num, HB.out⟩
            case measure => simp [intOf]; omega
    · have HE := Lib.hid (all_end HA.out (by simpa using hlt))
      go_wp2_with fail
      refine (l1In_eq _ _ _ _ rfl).mono ?_
      rintro e w1 ⟨rfl, rfl⟩
      go_wp2
      go_ret
      exact ⟨ret_bool (by rw [nameB, HE.out, Bool.and_true]), rfl⟩
end Go.Proofs.YtlokkbllplhlbaaDoor
