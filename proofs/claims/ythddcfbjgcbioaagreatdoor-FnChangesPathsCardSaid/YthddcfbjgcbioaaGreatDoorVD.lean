/-
  Walks: lines and texts. / Walks: the laws' own helpers on []string: what they take of a budget, copies, whether two are one. / Walks: the laws' own helpers on File: what it takes of a budget, copies, whether two are one. / Walks: the laws' own helpers on []int: what they take of a budget, copies, whether two are one.
-/
import Derived.Test.YthddcfbjgcbioaaGreatDoorVTY
import Derived.Test.YthddcfbjgcbioaaGreatDoorVB
import Derived.Test.YthddcfbjgcbioaaGreatDoorVC
set_option linter.unusedVariables false
namespace Go.Proofs.YthddcfbjgcbioaaGreatDoor
open Go.RowKit Go.Vc
open Go.Vc.Rep (rd)
open Go.Vc.Own (own)

theorem ret_bool {a b : Bool} (h : a = b) : Ending.returned (.bool a) = .returned (.bool b) := by rw [h]
theorem ret_int {k : IntKind} {a b : Int} (h : a = b) : Ending.returned (.int k a) = .returned (.int k b) := by rw [h]

theorem bnot_t {b : Bool} (h : (!b) = true) : b = false := by simpa using h
theorem bnot_f {b : Bool} (h : (!b) = false) : b = true := by simpa using h

set_option maxHeartbeats 400000 in
theorem within_any (n lo hi : Int) (w : World) :
    Calls Tryz.prog 69 #[.int .i64 n, .int .i64 lo, .int .i64 hi] w fun e w' => e = .returned (.bool (withinB n lo hi)) ∧ w = w' := by
  unfold withinB
  by_cases h1 : lo ≤ n
  all_goals
    go_enter Tryz.func69, Tryz.ntmps69
    go_wp2
    go_ret
    exact ⟨by simp; try omega, rfl⟩

set_option maxHeartbeats 400000 in
theorem lineOk_any (s : ByteArray) (w : World) (hs : s.size ≤ maxLen) :
    Calls Tryz.prog 65 #[.string s] w fun e w' => e = .returned (.bool (lineB s)) ∧ w = w' := by
  unfold maxLen at hs
  by_cases h12 : 12 < s.size
  · go_enter Tryz.func65, Tryz.ntmps65
    go_wp2
    go_ret
    exact ⟨ret_bool (by simp [lineB]; omega), rfl⟩
  · go_enter Tryz.func65, Tryz.ntmps65
    go_wp2
    go_loop [3] (fun i => ∃ k : Nat, k ≤ s.size ∧ i = .int .i64 k ∧ Hid (s.data.toList.all byteOk = (s.data.toList.drop k).all byteOk)) (fun i => s.size - (intOf i).toNat)
    case atStart => exact ⟨0, by omega, rfl, rfl⟩
    case round =>
      obtain ⟨k, hk, rfl, HA⟩ := hrel
      by_cases hlt : k < s.size
      · by_cases h1 : s[k].toNat < 32
        · go_wp2
          go_ret
          exact ⟨ret_bool (by rw [lineB, all_bad HA.out (by simpa using hlt) (by rw [byte_at s k hlt]; unfold byteOk; simp; omega), Bool.and_false]), rfl⟩
        · by_cases h2 : 126 < s[k].toNat
          · go_wp2
            go_ret
            exact ⟨ret_bool (by rw [lineB, all_bad HA.out (by simpa using hlt) (by rw [byte_at s k hlt]; unfold byteOk; simp; omega), Bool.and_false]), rfl⟩
          · go_wp2
            go_round
            case rel => exact ⟨k + 1, by omega, by go_num, all_next HA.out (by simpa using hlt) (by rw [byte_at s k hlt]; unfold byteOk; simp; omega)⟩
            case measure => simp [intOf]; omega
      · go_wp2
        go_ret
        exact ⟨ret_bool (by rw [lineB, all_end HA.out (by simpa using hlt)]; simp; omega), rfl⟩

set_option maxHeartbeats 400000 in
theorem textOk_any {S : Nat → Prop} (v : Value) (xs : List ByteArray) (w : World) (hv : rd S w [v] xs) :
    Calls Tryz.prog 46 #[v] w fun e w' => e = .returned (.bool (textB xs)) ∧ w = w' := by
  obtain ⟨a, cap, rfl, hs⟩ := rd_slice_elim hv
  have hle := hs.le
  by_cases h10 : 10 < xs.length
  · go_enter Tryz.func46, Tryz.ntmps46
    go_wp2
    go_ret
    exact ⟨ret_bool (by simp [textB]; omega), rfl⟩
  · go_enter Tryz.func46, Tryz.ntmps46
    go_wp2
    go_loop [10] (fun i => ∃ k : Nat, k ≤ xs.length ∧ i = .int .i64 k ∧ Hid (xs.all lineB = (xs.drop k).all lineB)) (fun i => xs.length - (intOf i).toNat)
    case atStart => exact ⟨0, by omega, rfl, rfl⟩
    case round =>
      obtain ⟨k, hk, rfl, HA⟩ := hrel
      by_cases hlt : k < xs.length
      · obtain ⟨g, off, rfl, hc, hsz⟩ := hs.str hlt
        go_wp2_with (go_at_call 65; refine (lineOk_any _ _ hsz).mono ?_; rintro e w' ⟨rfl, rfl⟩)
        · go_ret
          exact ⟨ret_bool (by rw [textB, all_bad HA.out hlt (bnot_t (by assumption)), Bool.and_false]), rfl⟩
        · go_round
          case rel => exact ⟨k + 1, by omega, by go_num, all_next HA.out hlt (bnot_f (by assumption))⟩
          case measure => simp [intOf]; omega
      · go_wp2
        go_ret
        exact ⟨ret_bool (by rw [textB, all_end HA.out hlt]; simp; omega), rfl⟩

set_option maxHeartbeats 400000 in
theorem l1In_any (n lo hi : Int) (w : World) :
    Calls Tryz.prog 96 #[.int .i64 n, .int .i64 lo, .int .i64 hi] w fun e w' => e = .returned (.bool (withinB n lo hi)) ∧ w = w' := by
  unfold withinB
  by_cases h1 : lo ≤ n
  all_goals
    go_enter Tryz.func96, Tryz.ntmps96
    go_wp2
    go_ret
    exact ⟨by simp; try omega, rfl⟩

set_option maxHeartbeats 400000 in
theorem l1Line_any (s : ByteArray) (w : World) (hs : s.size ≤ maxLen) :
    Calls Tryz.prog 80 #[.string s] w fun e w' => e = .returned (.bool (lineB s)) ∧ w = w' := by
  unfold maxLen at hs
  go_enter Tryz.func80, Tryz.ntmps80
  go_wp2
  go_loop [3] (fun i => ∃ k : Nat, k ≤ s.size ∧ i = .int .i64 k ∧ Hid (s.data.toList.all byteOk = (s.data.toList.drop k).all byteOk)) (fun i => s.size - (intOf i).toNat)
  case atStart => exact ⟨0, by omega, rfl, rfl⟩
  case round =>
    obtain ⟨k, hk, rfl, HA⟩ := hrel
    by_cases hlt : k < s.size
    · by_cases h1 : s[k].toNat < 32
      · go_wp2
        go_ret
        exact ⟨ret_bool (by rw [lineB, all_bad HA.out (by simpa using hlt) (by rw [byte_at s k hlt]; unfold byteOk; simp; omega), Bool.and_false]), rfl⟩
      · by_cases h2 : 126 < s[k].toNat
        · go_wp2
          go_ret
          exact ⟨ret_bool (by rw [lineB, all_bad HA.out (by simpa using hlt) (by rw [byte_at s k hlt]; unfold byteOk; simp; omega), Bool.and_false]), rfl⟩
        · go_wp2
          go_round
          case rel => exact ⟨k + 1, by omega, by go_num, all_next HA.out (by simpa using hlt) (by rw [byte_at s k hlt]; unfold byteOk; simp; omega)⟩
          case measure => simp [intOf]; omega
    · go_wp2
      go_ret
      exact ⟨ret_bool (by rw [lineB, all_end HA.out (by simpa using hlt)]; simp; omega), rfl⟩

set_option maxHeartbeats 400000 in
theorem l1Ok_any {S : Nat → Prop} (v : Value) (xs : List ByteArray) (w : World) (hv : rd S w [v] xs) :
    Calls Tryz.prog 64 #[v] w fun e w' => e = .returned (.bool (textB xs)) ∧ w = w' := by
  obtain ⟨a, cap, rfl, hs⟩ := rd_slice_elim hv
  have hle := hs.le
  go_enter Tryz.func64, Tryz.ntmps64
  go_wp2
  go_loop [3] (fun i => ∃ k : Nat, k ≤ xs.length ∧ i = .int .i64 k ∧ Hid (xs.all lineB = (xs.drop k).all lineB)) (fun i => xs.length - (intOf i).toNat)
  case atStart => exact ⟨0, by omega, rfl, rfl⟩
  case round =>
    obtain ⟨k, hk, rfl, HA⟩ := hrel
    by_cases hlt : k < xs.length
    · obtain ⟨g, off, rfl, hc, hsz⟩ := hs.str hlt
      go_wp2_with (go_at_call 80; refine (l1Line_any _ _ hsz).mono ?_; rintro e w' ⟨rfl, rfl⟩)
      · go_ret
        exact ⟨ret_bool (by rw [textB, all_bad HA.out hlt (bnot_t (by assumption)), Bool.and_false]), rfl⟩
      · go_round
        case rel => exact ⟨k + 1, by omega, by go_num, all_next HA.out hlt (bnot_f (by assumption))⟩
        case measure => simp [intOf]; omega
    · go_wp2
      go_ret
      exact ⟨ret_bool (by rw [textB, all_end HA.out hlt]; simp; omega), rfl⟩
end Go.Proofs.YthddcfbjgcbioaaGreatDoor
namespace Go.Proofs.YthddcfbjgcbioaaGreatDoor
open Go.RowKit Go.Vc
open Go.Vc.Rep (rd)
open Go.Vc.Own (own)

abbrev bulk_S (xs : List ByteArray) : Nat := bulkS xs
end Go.Proofs.YthddcfbjgcbioaaGreatDoor
namespace Go.Proofs.YthddcfbjgcbioaaGreatDoor
open Go.RowKit Go.Vc
open Go.Vc.Rep (rd)
open Go.Vc.Own (own)

def bulk1_file (d : File) : Nat := d.path.size + bulk_S d.text
abbrev bulk_F (xs : List File) : Nat := bulkL bulk1_file xs
end Go.Proofs.YthddcfbjgcbioaaGreatDoor
namespace Go.Proofs.YthddcfbjgcbioaaGreatDoor
open Go.RowKit Go.Vc
open Go.Vc.Rep (rd)
open Go.Vc.Own (own)

abbrev bulk_I (xs : List Int) : Nat := xs.length

end Go.Proofs.YthddcfbjgcbioaaGreatDoor
