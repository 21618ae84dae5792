/-
  Walks: whether there is a review.
-/
import Derived.Test.YtlokkbllplhlbaaWR
set_option linter.unusedVariables false
namespace Go.Vc
theorem reviewB_f {v : Review} (h : nameB v.branch = false ∨ nameB v.into = false ∨ nameB v.by_ = false ∨ v.branch = v.into ∨ ¬ v.yes.length ≤ 5 ∨ namesB v.yes = false) : reviewB v = false := by
  unfold reviewB
  rcases h with h | h | h | h | h | h <;> simp [h]
theorem reviewB_t {v : Review} (h1 : nameB v.branch = true) (h2 : nameB v.into = true) (h3 : nameB v.by_ = true) (h4 : ¬ v.branch = v.into) (h5 : v.yes.length ≤ 5) (h6 : namesB v.yes = true) : reviewB v = true := by
  unfold reviewB
  simp [h1, h2, h3, h4, h5, h6]
end Go.Vc
namespace Go.Proofs.Ytlokkbllplhlbaa
open Go.RowKit Go.Vc
open Go.Vc.Rep (rd)
open Go.Vc.Own (own)

set_option maxHeartbeats 4000000 in
theorem implReviewOk {S : Nat → Prop} (x : Review) (v3 : Value) (w : World) (h0 : x.branch.size ≤ maxLen) (h1 : x.into.size ≤ maxLen) (h2 : x.by_.size ≤ maxLen) (hv : rd S w [v3] x.yes) :
    Calls Try.prog 12 #[.agg #[.string x.branch, .string x.into, .string x.by_, v3]] w fun e w' => e = .returned (.bool (reviewB x)) ∧ Below w.heap.size w w' := by
  obtain ⟨a, cap, rfl, hs⟩ := rd_slice_elim (Rep.lt hv)
  have hle := hs.le
  have hs1 := hs.alloc (.cells #[.string x.branch, .string x.into, .string x.by_, .slice a x.yes.length cap] 27)
  cases b0 : nameB x.branch with
  | false =>
    have HN := Lib.hid (reviewB_f (v := x) (.inl b0))
    go_enter Try.func12, Try.ntmps12
    go_wp2_with fail
    refine (nameOk_is _ _ h0 b0).mono ?_
    rintro e w1 ⟨rfl, rfl⟩
    go_wp2
    go_ret
    exact ⟨ret_bool HN.out.symm, ((Below.refl _ _).alloc (by simp <;> omega) _)⟩
  | true =>
    cases b1 : nameB x.into with
    | false =>
      have HN := Lib.hid (reviewB_f (v := x) (.inr (.inl b1)))
      go_enter Try.func12, Try.ntmps12
      go_wp2_with fail
      refine (nameOk_is _ _ h0 b0).mono ?_
      rintro e w1 ⟨rfl, rfl⟩
      go_wp2_with fail
      refine (nameOk_is _ _ h1 b1).mono ?_
      rintro e w1 ⟨rfl, rfl⟩
      go_wp2
      go_ret
      exact ⟨ret_bool HN.out.symm, ((Below.refl _ _).alloc (by simp <;> omega) _)⟩
    | true =>
      cases b2 : nameB x.by_ with
      | false =>
        have HN := Lib.hid (reviewB_f (v := x) (.inr (.inr (.inl b2))))
        go_enter Try.func12, Try.ntmps12
        go_wp2_with fail
        refine (nameOk_is _ _ h0 b0).mono ?_
        rintro e w1 ⟨rfl, rfl⟩
        go_wp2_with fail
        refine (nameOk_is _ _ h1 b1).mono ?_
        rintro e w1 ⟨rfl, rfl⟩
        go_wp2_with fail
        refine (nameOk_is _ _ h2 b2).mono ?_
        rintro e w1 ⟨rfl, rfl⟩
        go_wp2
        go_ret
        exact ⟨ret_bool HN.out.symm, ((Below.refl _ _).alloc (by simp <;> omega) _)⟩
      | true =>
        by_cases b3 : x.branch = x.into
        · have HN := Lib.hid (reviewB_f (v := x) (.inr (.inr (.inr (.inl b3)))))
          have d3 : decide (x.branch = x.into) = true := decide_eq_true b3
          clear b3
          go_enter Try.func12, Try.ntmps12
          go_wp2_with fail
          refine (nameOk_is _ _ h0 b0).mono ?_
          rintro e w1 ⟨rfl, rfl⟩
          go_wp2_with fail
          refine (nameOk_is _ _ h1 b1).mono ?_
          rintro e w1 ⟨rfl, rfl⟩
          go_wp2_with fail
          refine (nameOk_is _ _ h2 b2).mono ?_
          rintro e w1 ⟨rfl, rfl⟩
          go_wp2
          go_ret
          exact ⟨ret_bool HN.out.symm, ((Below.refl _ _).alloc (by simp <;> omega) _)⟩
        · have d3 : decide (x.branch = x.into) = false := decide_eq_false b3
          have B3 := Lib.hid b3
          clear b3
          by_cases b4 : x.yes.length ≤ 5
          · have d4 : decide (x.yes.length ≤ 5) = true := decide_eq_true b4
            cases b5 : namesB x.yes with
            | false =>
              have HN := Lib.hid (reviewB_f (v := x) (.inr (.inr (.inr (.inr (.inr b5))))))
              go_enter Try.func12, Try.ntmps12
              go_wp2_with fail
              refine (nameOk_is _ _ h0 b0).mono ?_
              rintro e w1 ⟨rfl, rfl⟩
              go_wp2_with fail
              refine (nameOk_is _ _ h1 b1).mono ?_
              rintro e w1 ⟨rfl, rfl⟩
              go_wp2_with fail
              refine (nameOk_is _ _ h2 b2).mono ?_
              rintro e w1 ⟨rfl, rfl⟩
              go_wp2_with fail
              refine (namesOk_is _ _ _ hs1.rd b5).mono ?_
              rintro e w1 ⟨rfl, rfl⟩
              go_wp2
              go_ret
              exact ⟨ret_bool HN.out.symm, ((Below.refl _ _).alloc (by simp <;> omega) _)⟩
            | true =>
              have HN := Lib.hid (reviewB_t (v := x) b0 b1 b2 B3.out b4 b5)
              go_enter Try.func12, Try.ntmps12
              go_wp2_with fail
              refine (nameOk_is _ _ h0 b0).mono ?_
              rintro e w1 ⟨rfl, rfl⟩
              go_wp2_with fail
              refine (nameOk_is _ _ h1 b1).mono ?_
              rintro e w1 ⟨rfl, rfl⟩
              go_wp2_with fail
              refine (nameOk_is _ _ h2 b2).mono ?_
              rintro e w1 ⟨rfl, rfl⟩
              go_wp2_with fail
              refine (namesOk_is _ _ _ hs1.rd b5).mono ?_
              rintro e w1 ⟨rfl, rfl⟩
              go_wp2
              go_ret
              exact ⟨ret_bool HN.out.symm, ((Below.refl _ _).alloc (by simp <;> omega) _)⟩
          · have HN := Lib.hid (reviewB_f (v := x) (.inr (.inr (.inr (.inr (.inl b4))))))
            have d4 : decide (x.yes.length ≤ 5) = false := decide_eq_false b4
            go_enter Try.func12, Try.ntmps12
            go_wp2_with fail
            refine (nameOk_is _ _ h0 b0).mono ?_
            rintro e w1 ⟨rfl, rfl⟩
            go_wp2_with fail
            refine (nameOk_is _ _ h1 b1).mono ?_
            rintro e w1 ⟨rfl, rfl⟩
            go_wp2_with fail
            refine (nameOk_is _ _ h2 b2).mono ?_
            rintro e w1 ⟨rfl, rfl⟩
            go_wp2
            go_ret
            exact ⟨ret_bool HN.out.symm, ((Below.refl _ _).alloc (by simp <;> omega) _)⟩
end Go.Proofs.Ytlokkbllplhlbaa
