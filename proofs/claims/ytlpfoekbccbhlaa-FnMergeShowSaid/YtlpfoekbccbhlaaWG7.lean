/-
  Walks: what comes of a merge, as the reference has it.
-/
import Derived.Test.YtlpfoekbccbhlaaWG5
set_option linter.unusedVariables false
namespace Go.Proofs.Ytlpfoekbccbhlaa
open Go.RowKit Go.Vc
open Go.Vc.Rep (rd)
open Go.Vc.Own (own)




set_option maxHeartbeats 1000000 in
theorem specMergeOf {S T U : Nat → Prop} (v u x : Value) (o a b : List ByteArray) (w : World) (hv : rd S w [v] o) (hu : rd T w [u] a) (hx : rd U w [x] b) :
    Calls Try.prog 20 #[v, u, x] w fun e w' => ∃ v', e = .returned v' ∧ Fresh w.heap.size w'.heap.size w' [v'] (mOf o a b) ∧ Below w.heap.size w w' := by
  have hv := Rep.lt hv
  have hu := Rep.lt hu
  have hx := Rep.lt hx
  cases h1 : textB o with
  | false =>
    have HD := Lib.hid (show mOf o a b = [] by rw [mOf, if_neg (by rw [three_bad1 h1]; simp)])
    go_enter Try.func20, Try.ntmps20
    go_wp2_with fail
    refine (l1Ok_is _ _ _ hv h1).mono ?_
    rintro e w' ⟨rfl, rfl⟩
    go_wp2
    go_ret
    exact ⟨.slice none 0 0, rfl, by rw [HD.out]; exact Fresh.nil _ _ _ (by decide), Below.refl _ _⟩
  | true =>
    cases h2 : textB a with
    | false =>
      have HD := Lib.hid (show mOf o a b = [] by rw [mOf, if_neg (by rw [three_bad2 h2]; simp)])
      go_enter Try.func20, Try.ntmps20
      go_wp2_with fail
      refine (l1Ok_is _ _ _ hv h1).mono ?_
      rintro e w' ⟨rfl, rfl⟩
      go_wp2_with fail
      refine (l1Ok_is _ _ _ hu h2).mono ?_
      rintro e w' ⟨rfl, rfl⟩
      go_wp2
      go_ret
      exact ⟨.slice none 0 0, rfl, by rw [HD.out]; exact Fresh.nil _ _ _ (by decide), Below.refl _ _⟩
    | true =>
      cases h3 : textB b with
      | false =>
        have HD := Lib.hid (show mOf o a b = [] by rw [mOf, if_neg (by rw [three_bad3 h3]; simp)])
        go_enter Try.func20, Try.ntmps20
        go_wp2_with fail
        refine (l1Ok_is _ _ _ hv h1).mono ?_
        rintro e w' ⟨rfl, rfl⟩
        go_wp2_with fail
        refine (l1Ok_is _ _ _ hu h2).mono ?_
        rintro e w' ⟨rfl, rfl⟩
        go_wp2_with fail
        refine (l1Ok_is _ _ _ hx h3).mono ?_
        rintro e w' ⟨rfl, rfl⟩
        go_wp2
        go_ret
        exact ⟨.slice none 0 0, rfl, by rw [HD.out]; exact Fresh.nil _ _ _ (by decide), Below.refl _ _⟩
      | true =>
        have h123 := three_iff.2 ⟨h1, h2, h3⟩
        have l1 := text_len10 h1
        have l2 := text_len10 h2
        have l3 := text_len10 h3
        have hsm := mergeT_small l1 l2 l3
        have HD := Lib.hid (show mOf o a b = mergeT o a b by rw [mOf, if_pos h123])
        go_enter Try.func20, Try.ntmps20
        go_wp2_with fail
        refine (l1Ok_is _ _ _ hv h1).mono ?_
        rintro e w' ⟨rfl, rfl⟩
        go_wp2_with fail
        refine (l1Ok_is _ _ _ hu h2).mono ?_
        rintro e w' ⟨rfl, rfl⟩
        go_wp2_with fail
        refine (l1Ok_is _ _ _ hx h3).mono ?_
        rintro e w' ⟨rfl, rfl⟩
        go_wp2_with fail
        refine (l3Of_any _ _ _ o a b _ hv hu hx l1 l2 l3).mono ?_
        rintro e wm ⟨vm, rfl, hM, hbm⟩
        have hszm := hbm.size
        go_wp2
        go_ret
        exact ⟨vm, rfl, by rw [HD.out]; exact hM, hbm⟩

end Go.Proofs.Ytlpfoekbccbhlaa
