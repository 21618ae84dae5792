/-
  Walks: what the laws of texts compare with.
-/
import Derived.Test.YtlpfoekbccbhlaaWEq
import Derived.Test.YtlpfoekbccbhlaaPlHas
set_option linter.unusedVariables false
namespace Go.Proofs.Ytlpfoekbccbhlaa
open Go.RowKit Go.Vc
open Go.Vc.Rep (rd)
open Go.Vc.Own (own)

theorem smTexts_c {S T : Nat → Prop} (v u : Value) (xs ys : List ByteArray) (w : World) (hv : rd S w [v] xs) (hu : rd T w [u] ys) {b : Bool} (h : decide (xs = ys) = b) :
    Calls Try.prog 7 #[v, u] w fun e w' => e = .returned (.bool b) ∧ Below w.heap.size w w' :=
  (smTexts_is v u xs ys w hv hu h).mono fun e w' h' => by
    obtain ⟨h1, n, rfl⟩ := h'
    exact ⟨h1, below_drewN (Below.refl _ _) n⟩
set_option maxHeartbeats 1000000 in
theorem smHas_is {S : Nat → Prop} (v : Value) (xs : List ByteArray) (s : ByteArray) (w : World) (hv : rd S w [v] xs) {b : Bool} (h : hasS s xs = b) :
    Calls Try.prog 11 #[v, .string s] w fun e w' => e = .returned (.bool b) ∧ Below w.heap.size w w' := by
  obtain ⟨a, cap, rfl, hs⟩ := rd_slice_elim (Rep.lt hv)
  have hle := hs.le
  have H0 : Hid (b = hasS s xs) := h.symm
  clear h
  go_enter Try.func11, Try.ntmps11
  go_wp2
  go_loopw [5] (fun i wr => (∃ k : Nat, k ≤ xs.length ∧ i = .int .i64 k ∧ Hid (b = hasS s (xs.drop k))) ∧ Below w.heap.size w wr) (fun i _ => xs.length - (intOf i).toNat)
  case atStart => exact ⟨⟨0, by omega, rfl, H0.out⟩, Below.refl _ _⟩
  case round =>
    obtain ⟨⟨k, hk, rfl, HA⟩, hb⟩ := hrel
    by_cases hlt : k < xs.length
    · obtain ⟨g, off, rfl, hc, _⟩ := (hs.keep hb).str hlt
      by_cases he : xs[k] = s
      · have HN := Lib.hid (hasS_hit HA.out hlt he)
        have hd : decide (xs[k] = s) = true := decide_eq_true he
        clear he
        go_wp2
        go_ret
        exact ⟨ret_bool HN.out.symm, hb⟩
      · have HN := Lib.hid (hasS_next HA.out hlt he)
        have hd : decide (xs[k] = s) = false := decide_eq_false he
        clear he
        go_wp2
        go_roundw
        case rel => exact ⟨⟨k + 1, by omega, by go_num, HN.out⟩, hb⟩
        case measure => simp [intOf] <;> omega
    · have HN := Lib.hid (hasS_end HA.out hlt)
      go_wp2
      go_ret
      exact ⟨ret_bool HN.out.symm, hb⟩
set_option maxHeartbeats 1000000 in
theorem smMany_is {S : Nat → Prop} (v : Value) (xs : List ByteArray) (s : ByteArray) (w : World) (hv : rd S w [v] xs) (hl : xs.length ≤ 1000000) {m : Nat} (h : manyT s xs = m) :
    Calls Try.prog 12 #[v, .string s] w fun e w' => e = .returned (.int .i64 m) ∧ Below w.heap.size w w' := by
  obtain ⟨a, cap, rfl, hs⟩ := rd_slice_elim (Rep.lt hv)
  have hle := hs.le
  have H0 : Hid (m = 0 + manyT s xs) := by show _ = _; omega
  clear h
  go_enter Try.func12, Try.ntmps12
  go_wp2
  go_loopw [5, 6] (fun c i wr => (∃ k n : Nat, k ≤ xs.length ∧ n ≤ k ∧ i = .int .i64 k ∧ c = .int .i64 n ∧ Hid (m = n + manyT s (xs.drop k))) ∧ Below w.heap.size w wr) (fun _ i _ => xs.length - (intOf i).toNat)
  case atStart => exact ⟨⟨0, 0, by omega, by omega, rfl, rfl, H0.out⟩, Below.refl _ _⟩
  case round =>
    obtain ⟨⟨k, n, hk, hn, rfl, rfl, HA⟩, hb⟩ := hrel
    by_cases hlt : k < xs.length
    · obtain ⟨g, off, rfl, hc, _⟩ := (hs.keep hb).str hlt
      by_cases he : xs[k] = s
      · have HN := Lib.hid (many_yes HA.out hlt he)
        have hd : decide (xs[k] = s) = true := decide_eq_true he
        clear he
        go_wp2
        go_roundw
        case rel => exact ⟨⟨k + 1, n + 1, by omega, by omega, by go_num, by go_num, HN.out⟩, hb⟩
        case measure => simp [intOf] <;> omega
      · have HN := Lib.hid (many_no HA.out hlt he)
        have hd : decide (xs[k] = s) = false := decide_eq_false he
        clear he
        go_wp2
        go_roundw
        case rel => exact ⟨⟨k + 1, n, by omega, by omega, by go_num, rfl, HN.out⟩, hb⟩
        case measure => simp [intOf] <;> omega
    · have HN := Lib.hid (many_end HA.out hlt)
      go_wp2
      go_ret
      exact ⟨ret_int (by rw [HN.out]), hb⟩
end Go.Proofs.Ytlpfoekbccbhlaa
