/-
  The walk of a law: DeltaOf.
-/
import Derived.Test.YtjfhbepnomnalaaW7
import Derived.Test.YtjfhbepnomnalaaEx1
namespace Go.Proofs.Ytjfhbepnomnalaa
open Go.RowKit Go.Vc
open Go.Vc.Rep (rd)
open Go.Vc.Own (own)

def dOf (xs ys : List ByteArray) : List Delta := if textB xs = true then (if textB ys = true then deltaOf xs ys else []) else []
theorem text_len {xs : List ByteArray} (h : textB xs = true) : xs.length ≤ 10 := by simp [textB] at h; exact h.1

set_option maxHeartbeats 1000000 in
theorem implDeltaOf {S T : Nat → Prop} (v : Value) (xs : List ByteArray) (u : Value) (ys : List ByteArray) (w : World) (hv : rd S w [v] xs) (hu : rd T w [u] ys) :
    Calls Try.prog 23 #[v, u] w fun e w' => ∃ v', e = .returned v' ∧ Fresh w.heap.size w'.heap.size w' [v'] (dOf xs ys) ∧ Below w.heap.size w w' := by
  cases h1 : textB xs with
  | false =>
    have HD : Hid (dOf xs ys = []) := by show _ = _; rw [dOf, if_neg (by rw [h1]; simp)]
    go_enter Try.func23, Try.ntmps23
    go_wp2_with (go_at_call 33; refine (textOk_any _ _ _ hv).mono ?_; rintro e w' ⟨rfl, rfl⟩)
    go_ret
    exact ⟨_, rfl, by rw [HD.out]; exact Fresh.nil _ _ _ (by decide), Below.refl _ _⟩
  | true =>
    cases h2 : textB ys with
    | false =>
      have HD : Hid (dOf xs ys = []) := by show _ = _; rw [dOf, if_pos h1, if_neg (by rw [h2]; simp)]
      go_enter Try.func23, Try.ntmps23
      go_wp2_with fail
      refine (textOk_any _ _ _ hv).mono ?_
      rintro e w' ⟨rfl, rfl⟩
      go_wp2_with fail
      refine (textOk_any _ _ _ hu).mono ?_
      rintro e w' ⟨rfl, rfl⟩
      go_wp2
      go_ret
      exact ⟨_, rfl, by rw [HD.out]; exact Fresh.nil _ _ _ (by decide), Below.refl _ _⟩
    | true =>
      have HD : Hid (dOf xs ys = deltaOf xs ys) := by show _ = _; rw [dOf, if_pos h1, if_pos h2]
      have l1 := text_len h1
      have l2 := text_len h2
      go_enter Try.func23, Try.ntmps23
      go_wp2_with fail
      refine (textOk_any _ _ _ hv).mono ?_
      rintro e w' ⟨rfl, rfl⟩
      go_wp2_with fail
      refine (textOk_any _ _ _ hu).mono ?_
      rintro e w' ⟨rfl, rfl⟩
      go_wp2_with fail
      refine (delta_any _ _ _ _ _ hv hu l1 l2).mono ?_
      rintro e w1 ⟨v', rfl, hF, hb⟩
      go_wp2
      go_ret
      exact ⟨_, rfl, by rw [HD.out]; exact hF, hb⟩

set_option maxHeartbeats 1000000 in
theorem specDeltaOf {S T : Nat → Prop} (v : Value) (xs : List ByteArray) (u : Value) (ys : List ByteArray) (w : World) (hv : rd S w [v] xs) (hu : rd T w [u] ys) :
    Calls Try.prog 21 #[v, u] w fun e w' => ∃ v', e = .returned v' ∧ Fresh w.heap.size w'.heap.size w' [v'] (dOf xs ys) ∧ Below w.heap.size w w' := by
  cases h1 : textB xs with
  | false =>
    have HD : Hid (dOf xs ys = []) := by show _ = _; rw [dOf, if_neg (by rw [h1]; simp)]
    go_enter Try.func21, Try.ntmps21
    go_wp2_with (go_at_call 62; refine (l1Ok_any _ _ _ hv).mono ?_; rintro e w' ⟨rfl, rfl⟩)
    go_ret
    exact ⟨_, rfl, by rw [HD.out]; exact Fresh.nil _ _ _ (by decide), Below.refl _ _⟩
  | true =>
    cases h2 : textB ys with
    | false =>
      have HD : Hid (dOf xs ys = []) := by show _ = _; rw [dOf, if_pos h1, if_neg (by rw [h2]; simp)]
      go_enter Try.func21, Try.ntmps21
      go_wp2_with fail
      refine (l1Ok_any _ _ _ hv).mono ?_
      rintro e w' ⟨rfl, rfl⟩
      go_wp2_with fail
      refine (l1Ok_any _ _ _ hu).mono ?_
      rintro e w' ⟨rfl, rfl⟩
      go_wp2
      go_ret
      exact ⟨_, rfl, by rw [HD.out]; exact Fresh.nil _ _ _ (by decide), Below.refl _ _⟩
    | true =>
      have HD : Hid (dOf xs ys = deltaOf xs ys) := by show _ = _; rw [dOf, if_pos h1, if_pos h2]
      have l1 := text_len h1
      have l2 := text_len h2
      go_enter Try.func21, Try.ntmps21
      go_wp2_with fail
      refine (l1Ok_any _ _ _ hv).mono ?_
      rintro e w' ⟨rfl, rfl⟩
      go_wp2_with fail
      refine (l1Ok_any _ _ _ hu).mono ?_
      rintro e w' ⟨rfl, rfl⟩
      go_wp2_with fail
      refine (l13Of_any _ _ _ _ _ hv hu l1 l2).mono ?_
      rintro e w1 ⟨v', rfl, hF, hb⟩
      go_wp2
      go_ret
      exact ⟨_, rfl, by rw [HD.out]; exact hF, hb⟩
end Go.Proofs.Ytjfhbepnomnalaa
