/-
  Walks: lines and texts.
-/
import Derived.Test.YtjfhbepnomnalaaTypes
namespace Go.Proofs.Ytjfhbepnomnalaa
open Go.RowKit Go.Vc
open Go.Vc.Rep (rd)
open Go.Vc.Own (own)

theorem ret_bool {a b : Bool} (h : a = b) : Ending.returned (.bool a) = .returned (.bool b) := by rw [h]
theorem ret_int {k : IntKind} {a b : Int} (h : a = b) : Ending.returned (.int k a) = .returned (.int k b) := by rw [h]

theorem bnot_t {b : Bool} (h : (!b) = true) : b = false := by simpa using h
theorem bnot_f {b : Bool} (h : (!b) = false) : b = true := by simpa using h

set_option maxHeartbeats 400000 in
theorem within_any (n lo hi : Int) (w : World) :
    Calls Try.prog 60 #[.int .i64 n, .int .i64 lo, .int .i64 hi] w fun e w' => e = .returned (.bool (withinB n lo hi)) ∧ w = w' := by
  unfold withinB
  by_cases h1 : lo ≤ n
  all_goals
    go_enter Try.func60, Try.ntmps60
    go_wp2
    go_ret
    exact ⟨by simp; try omega, rfl⟩

set_option maxHeartbeats 400000 in
theorem lineOk_any (s : ByteArray) (w : World) (hs : s.size ≤ maxLen) :
    Calls Try.prog 68 #[.string s] w fun e w' => e = .returned (.bool (lineB s)) ∧ w = w' := by
  unfold maxLen at hs
  by_cases h12 : 12 < s.size
  · go_enter Try.func68, Try.ntmps68
    go_wp2
    go_ret
    exact ⟨ret_bool (by simp [lineB]; omega), rfl⟩
  · go_enter Try.func68, Try.ntmps68
    go_wp2
    go_loop [3] (fun i => ∃ k : Nat, k ≤ s.size ∧ i = .int .i64 k ∧ Hid (s.data.toList.all byteOk = (s.data.toList.drop k).all byteOk)) (fun i => s.size - (intOf i).toNat)
    case atStart => exact ⟨0, by omega, rfl, rfl⟩
    case round =>
      obtain ⟨k, hk, rfl, HA⟩ := hrel
      by_cases hlt : k < s.size
      · by_cases h1 : s[k].toNat < 32
        · go_wp2
          go_ret
          exact ⟨ret_bool (by rw [lineB, all_bad HA.out (by simpa using hlt) (by rw [byte_at s k hlt]; unfold byteOk; simp; omega), Bool.and_false]), rfl⟩
        · by_cases h2 : 126 < s[k].toNat
          · go_wp2
            go_ret
            exact ⟨ret_bool (by rw [lineB, all_bad HA.out (by simpa using hlt) (by rw [byte_at s k hlt]; unfold byteOk; simp; omega), Bool.and_false]), rfl⟩
          · go_wp2
            go_round
            case rel => exact ⟨k + 1, by omega, by go_num, all_next HA.out (by simpa using hlt) (by rw [byte_at s k hlt]; unfold byteOk; simp; omega)⟩
            case measure => simp [intOf]; omega
      · go_wp2
        go_ret
        exact ⟨ret_bool (by rw [lineB, all_end HA.out (by simpa using hlt)]; simp; omega), rfl⟩

set_option maxHeartbeats 400000 in
theorem textOk_any {S : Nat → Prop} (v : Value) (xs : List ByteArray) (w : World) (hv : rd S w [v] xs) :
    Calls Try.prog 33 #[v] w fun e w' => e = .returned (.bool (textB xs)) ∧ w = w' := by
  obtain ⟨a, cap, rfl, hs⟩ := rd_slice_elim hv
  have hle := hs.le
  by_cases h10 : 10 < xs.length
  · go_enter Try.func33, Try.ntmps33
    go_wp2
    go_ret
    exact ⟨ret_bool (by simp [textB]; omega), rfl⟩
  · go_enter Try.func33, Try.ntmps33
    go_wp2
    go_loop [10] (fun i => ∃ k : Nat, k ≤ xs.length ∧ i = .int .i64 k ∧ Hid (xs.all lineB = (xs.drop k).all lineB)) (fun i => xs.length - (intOf i).toNat)
    case atStart => exact ⟨0, by omega, rfl, rfl⟩
    case round =>
      obtain ⟨k, hk, rfl, HA⟩ := hrel
      by_cases hlt : k < xs.length
      · obtain ⟨g, off, rfl, hc, hsz⟩ := hs.str hlt
        go_wp2_with (go_at_call 68; refine (lineOk_any _ _ hsz).mono ?_; rintro e w' ⟨rfl, rfl⟩)
        · go_ret
          exact ⟨ret_bool (by rw [textB, all_bad HA.out hlt (bnot_t (by assumption)), Bool.and_false]), rfl⟩
        · go_round
          case rel => exact ⟨k + 1, by omega, by go_num, all_next HA.out hlt (bnot_f (by assumption))⟩
          case measure => simp [intOf]; omega
      · go_wp2
        go_ret
        exact ⟨ret_bool (by rw [textB, all_end HA.out hlt]; simp; omega), rfl⟩

set_option maxHeartbeats 400000 in
theorem l1In_any (n lo hi : Int) (w : World) :
    Calls Try.prog 80 #[.int .i64 n, .int .i64 lo, .int .i64 hi] w fun e w' => e = .returned (.bool (withinB n lo hi)) ∧ w = w' := by
  unfold withinB
  by_cases h1 : lo ≤ n
  all_goals
    go_enter Try.func80, Try.ntmps80
    go_wp2
    go_ret
    exact ⟨by simp; try omega, rfl⟩

set_option maxHeartbeats 400000 in
theorem l1Line_any (s : ByteArray) (w : World) (hs : s.size ≤ maxLen) :
    Calls Try.prog 86 #[.string s] w fun e w' => e = .returned (.bool (lineB s)) ∧ w = w' := by
  unfold maxLen at hs
  go_enter Try.func86, Try.ntmps86
  go_wp2
  go_loop [3] (fun i => ∃ k : Nat, k ≤ s.size ∧ i = .int .i64 k ∧ Hid (s.data.toList.all byteOk = (s.data.toList.drop k).all byteOk)) (fun i => s.size - (intOf i).toNat)
  case atStart => exact ⟨0, by omega, rfl, rfl⟩
  case round =>
    obtain ⟨k, hk, rfl, HA⟩ := hrel
    by_cases hlt : k < s.size
    · by_cases h1 : s[k].toNat < 32
      · go_wp2
        go_ret
        exact ⟨ret_bool (by rw [lineB, all_bad HA.out (by simpa using hlt) (by rw [byte_at s k hlt]; unfold byteOk; simp; omega), Bool.and_false]), rfl⟩
      · by_cases h2 : 126 < s[k].toNat
        · go_wp2
          go_ret
          exact ⟨ret_bool (by rw [lineB, all_bad HA.out (by simpa using hlt) (by rw [byte_at s k hlt]; unfold byteOk; simp; omega), Bool.and_false]), rfl⟩
        · go_wp2
          go_round
          case rel => exact ⟨k + 1, by omega, by go_num, all_next HA.out (by simpa using hlt) (by rw [byte_at s k hlt]; unfold byteOk; simp; omega)⟩
          case measure => simp [intOf]; omega
    · go_wp2
      go_ret
      exact ⟨ret_bool (by rw [lineB, all_end HA.out (by simpa using hlt)]; simp; omega), rfl⟩

set_option maxHeartbeats 400000 in
theorem l1Ok_any {S : Nat → Prop} (v : Value) (xs : List ByteArray) (w : World) (hv : rd S w [v] xs) :
    Calls Try.prog 62 #[v] w fun e w' => e = .returned (.bool (textB xs)) ∧ w = w' := by
  obtain ⟨a, cap, rfl, hs⟩ := rd_slice_elim hv
  have hle := hs.le
  go_enter Try.func62, Try.ntmps62
  go_wp2
  go_loop [3] (fun i => ∃ k : Nat, k ≤ xs.length ∧ i = .int .i64 k ∧ Hid (xs.all lineB = (xs.drop k).all lineB)) (fun i => xs.length - (intOf i).toNat)
  case atStart => exact ⟨0, by omega, rfl, rfl⟩
  case round =>
    obtain ⟨k, hk, rfl, HA⟩ := hrel
    by_cases hlt : k < xs.length
    · obtain ⟨g, off, rfl, hc, hsz⟩ := hs.str hlt
      go_wp2_with (go_at_call 86; refine (l1Line_any _ _ hsz).mono ?_; rintro e w' ⟨rfl, rfl⟩)
      · go_ret
        exact ⟨ret_bool (by rw [textB, all_bad HA.out hlt (bnot_t (by assumption)), Bool.and_false]), rfl⟩
      · go_round
        case rel => exact ⟨k + 1, by omega, by go_num, all_next HA.out hlt (bnot_f (by assumption))⟩
        case measure => simp [intOf]; omega
    · go_wp2
      go_ret
      exact ⟨ret_bool (by rw [textB, all_end HA.out hlt]; simp; omega), rfl⟩

set_option maxHeartbeats 400000 in
theorem szStringS_any {S : Nat → Prop} (v : Value) (xs : List ByteArray) (l : Int) (w : World) (hv : rd S w [v] xs) (hl0 : 0 ≤ l) (hl1 : l ≤ 1048576) :
    Calls Try.prog 20 #[v, .int .i64 l] w fun e w' => e = .returned (.int .i64 (sub l (bulkS xs))) ∧ w = w' := by
  obtain ⟨a, cap, rfl, hs⟩ := rd_slice_elim hv
  have hle := hs.le
  by_cases h0 : l - xs.length < 0
  · go_enter Try.func20, Try.ntmps20
    go_wp2
    go_ret
    exact ⟨ret_int (by rw [bulkS, bulkL, sub_bad _ (by omega)]), rfl⟩
  · go_enter Try.func20, Try.ntmps20
    go_wp2
    go_loop [1, 5] (fun left i => ∃ (k : Nat) (m : Int), k ≤ xs.length ∧ i = .int .i64 k ∧ left = .int .i64 m ∧ 0 ≤ m ∧ m ≤ 1048576 ∧ Hid (sub l (bulkS xs) = sub m (bsum ByteArray.size (xs.drop k)))) (fun _ i => xs.length - (intOf i).toNat)
    case atStart => exact ⟨0, _, by omega, rfl, rfl, by omega, by omega, by show _ = _; rw [bulkS, bulkL, sub_next _ (by omega)]; rfl⟩
    case round =>
      obtain ⟨k, m, hk, rfl, rfl, hm0, hm1, HA⟩ := hrel
      by_cases hlt : k < xs.length
      · obtain ⟨g, off, rfl, hc, hsz⟩ := hs.str hlt
        unfold maxLen at hsz
        by_cases hneg : m - xs[k].size < 0
        · go_wp2
          go_ret
          exact ⟨ret_int (by rw [HA.out, bsum_drop _ _ _ hlt, sub_bad _ (by omega)]), rfl⟩
        · go_wp2
          go_round
          case rel => exact ⟨k + 1, m - xs[k].size, by omega, by go_num, rfl, by omega, by omega, by show _ = _; rw [HA.out, bsum_drop _ _ _ hlt, sub_next _ (by omega)]⟩
          case measure => simp [intOf]; omega
      · go_wp2
        go_ret
        exact ⟨ret_int (by rw [HA.out, bsum_end _ _ _ hlt, sub_zero _ hm0]), rfl⟩

set_option maxHeartbeats 400000 in
theorem eqStringS_any {S T : Nat → Prop} (v u : Value) (xs ys : List ByteArray) (w : World) (hv : rd S w [v] xs) (hu : rd T w [u] ys) :
    Calls Try.prog 24 #[v, u] w fun e w' => e = .returned (.bool (decide (xs = ys))) ∧ ∃ n, w' = w.drewN n := by
  obtain ⟨a, cap, rfl, hs⟩ := rd_slice_elim hv
  obtain ⟨b, cbp, rfl, ht⟩ := rd_slice_elim hu
  have hle := hs.le
  have hle' := ht.le
  by_cases hn : xs.length = ys.length
  · have hn2 : ((xs.length : Int) != ys.length) = false := by simp [hn]
    have HN := Lib.hid hn
    clear hn
    go_enter Try.func24, Try.ntmps24
    go_wp2
    go_loopw [5] (fun i wr => (∃ k : Nat, k ≤ xs.length ∧ i = .int .i64 k ∧ Hid (decide (xs = ys) = decide (xs.drop k = ys.drop k))) ∧ ∃ n, wr = w.drewN n) (fun i _ => xs.length - (intOf i).toNat)
    case atStart => exact ⟨⟨0, by omega, rfl, rfl⟩, 0, rfl⟩
    case round =>
      obtain ⟨⟨k, hk, rfl, HA⟩, nw, rfl⟩ := hrel
      by_cases hlt : k < xs.length
      · have hlt' : k < ys.length := by rw [← HN.out]; exact hlt
        obtain ⟨g, off, rfl, hc, _⟩ := hs.str hlt
        obtain ⟨g', off', rfl, hc', _⟩ := ht.str hlt'
        by_cases he : xs[k] = ys[k]
        · have he2 : decide (xs[k] = ys[k]) = true := decide_eq_true he
          have HE := Lib.hid he
          clear he
          go_wp2
          go_quiet (fail)
          go_wp2
          go_roundw
          case rel => exact ⟨⟨k + 1, by omega, by go_num, eq_next HA.out hlt hlt' HE.out⟩, _, rfl⟩
          case measure => simp [intOf]; omega
        · have he2 : decide (xs[k] = ys[k]) = false := decide_eq_false he
          go_wp2
          go_quiet (fail)
          go_wp2
          go_ret
          exact ⟨ret_bool (by rw [eq_bad HA.out hlt hlt' he]), drew_any⟩
      · go_wp2
        go_ret
        exact ⟨ret_bool (by rw [eq_end HA.out hlt (by have := HN.out; omega)]), _, rfl⟩
  · have hn2 : ((xs.length : Int) != ys.length) = true := by simp; omega
    go_enter Try.func24, Try.ntmps24
    go_wp2
    go_ret
    exact ⟨ret_bool (by symm; apply decide_eq_false; intro e; exact hn (by rw [e])), 0, rfl⟩
end Go.Proofs.Ytjfhbepnomnalaa
