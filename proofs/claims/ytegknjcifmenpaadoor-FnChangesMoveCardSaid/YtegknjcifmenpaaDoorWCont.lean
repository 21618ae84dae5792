/-
  Walks: whether a text is among texts, as the library asks it.
-/
import Derived.Test.YtegknjcifmenpaaDoorVI
import Derived.Test.YtegknjcifmenpaaDoorVSM
set_option linter.unusedVariables false
namespace Go.Vc
open Go.RowKit
def idxS (s : ByteArray) : List ByteArray → Nat → Int
  | [], _ => -1
  | x :: r, k => if s = x then (k : Int) else idxS s r (k + 1)
theorem idxS_ge (s : ByteArray) : ∀ (xs : List ByteArray) (k : Nat), decide (0 ≤ idxS s xs k) = hasS s xs
  | [], k => by simp [idxS, hasS]
  | x :: r, k => by
    rw [idxS]
    have e : hasS s (x :: r) = (decide (x = s) || hasS s r) := rfl
    rw [e]
    by_cases h : s = x
    · rw [if_pos h, decide_eq_true h.symm]
      have : (0 : Int) ≤ (k : Int) := by omega
      simp
    · rw [if_neg h, idxS_ge s r (k + 1), decide_eq_false (fun e => h e.symm), Bool.false_or]
section
variable {s : ByteArray} {xs : List ByteArray} {k : Nat} {n : Int}
theorem idx_hit (H : n = idxS s (xs.drop k) k) (h : k < xs.length) (e : s = xs[k]) : n = k := by rw [H, drop_cons xs k h, idxS, if_pos e]
theorem idx_next (H : n = idxS s (xs.drop k) k) (h : k < xs.length) (e : ¬ s = xs[k]) : n = idxS s (xs.drop (k + 1)) (k + 1) := by rw [H, drop_cons xs k h, idxS, if_neg e]
theorem idx_end (H : n = idxS s (xs.drop k) k) (h : ¬ k < xs.length) : n = -1 := by rw [H, drop_nil xs k h]; rfl
end
end Go.Vc
namespace Go.Proofs.YtegknjcifmenpaaDoor
open Go.RowKit Go.Vc
open Go.Vc.Rep (rd)
open Go.Vc.Own (own)
set_option maxHeartbeats 2000000 in
theorem indexS_any {S : Nat → Prop} (v : Value) (xs : List ByteArray) (s : ByteArray) (w : World) (hv : rd S w [v] xs) :
    Calls Tryd.prog 58 #[v, .string s] w fun e w' => e = .returned (.int .i64 (idxS s xs 0)) ∧ w = w' := by
  obtain ⟨a, cap, rfl, hs⟩ := rd_slice_elim hv
  have hle := hs.le
  obtain ⟨n, hn⟩ : ∃ n, n = idxS s xs 0 := ⟨_, rfl⟩
  have H0 : Hid (n = idxS s (xs.drop 0) 0) := hn
  rw [← hn]
  clear hn
  go_enter Tryd.func58, Tryd.ntmps58
  go_wp2
  go_loopw [8] (fun i wr => (∃ k : Nat, k ≤ xs.length ∧ i = .int .i64 k ∧ Hid (n = idxS s (xs.drop k) k)) ∧ wr = w) (fun i _ => xs.length - (intOf i).toNat)
  case atStart => exact ⟨⟨0, by omega, rfl, H0.out⟩, rfl⟩
  case round =>
    obtain ⟨⟨k, hk, rfl, HA⟩, rfl⟩ := hrel
    by_cases hlt : k < xs.length
    · obtain ⟨g, off, rfl, hc, hz⟩ := hs.str hlt
      have hH := idx_hit HA.out hlt
      have hN := idx_next HA.out hlt
      obtain ⟨x, hx⟩ : ∃ x, x = xs[k] := ⟨_, rfl⟩
      rw [← hx] at hc hz hH hN
      by_cases he : s = x
      · have hd : decide (s = x) = true := decide_eq_true he
        have HE := Lib.hid (hH he)
        clear he hH hN hx
        go_wp2
        go_ret
        exact ⟨by rw [HE.out]; rfl, rfl⟩
      · have hd : decide (s = x) = false := decide_eq_false he
        have HE := Lib.hid (hN he)
        clear he hH hN hx
        go_wp2
        go_roundw
        case rel => exact ⟨⟨k + 1, by omega, by go_num, HE.out⟩, trivial⟩
        case measure => simp [intOf]; omega
    · have HE := Lib.hid (idx_end HA.out hlt)
      go_wp2
      go_ret
      exact ⟨by rw [HE.out]; rfl, rfl⟩
set_option maxHeartbeats 2000000 in
theorem containsS_is {S : Nat → Prop} (v : Value) (xs : List ByteArray) (s : ByteArray) (w : World) (hv : rd S w [v] xs) {b : Bool} (h : hasS s xs = b) :
    Calls Tryd.prog 38 #[v, .string s] w fun e w' => e = .returned (.bool b) ∧ w = w' := by
  have hg := idxS_ge s xs 0
  rw [h] at hg
  have hi := indexS_any v xs s w hv
  obtain ⟨n, hn⟩ : ∃ n, n = idxS s xs 0 := ⟨_, rfl⟩
  rw [← hn] at hg hi
  clear hn
  go_enter Tryd.func38, Tryd.ntmps38
  go_wp2_with fail
  refine hi.mono ?_
  rintro e w1 ⟨rfl, rfl⟩
  cases b with
  | true =>
    have hg2 : 0 ≤ n := of_decide_eq_true hg
    go_wp2
    go_ret
    exact ⟨rfl, rfl⟩
  | false =>
    have hg2 : ¬ 0 ≤ n := of_decide_eq_false hg
    go_wp2
    go_ret
    exact ⟨rfl, rfl⟩
end Go.Proofs.YtegknjcifmenpaaDoor
