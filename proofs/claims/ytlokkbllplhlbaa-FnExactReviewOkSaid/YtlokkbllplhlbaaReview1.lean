/-
  Walks: the laws' own helpers on Review: what it takes of a budget, copies, whether two are one.
-/
import Derived.Test.YtlokkbllplhlbaaReview0
import Derived.Test.YtlokkbllplhlbaaHlp
set_option linter.unusedVariables false
namespace Go.Proofs.Ytlokkbllplhlbaa
open Go.RowKit Go.Vc
open Go.Vc.Rep (rd)
open Go.Vc.Own (own)

def bulk1_review (d : Review) : Nat := d.branch.size + d.into.size + d.by_.size + bulk_S d.yes
set_option maxHeartbeats 1000000 in
theorem sz1_review {S : Nat → Prop} (d : Review) (v3 : Value) (l : Int) (w : World) (hs0 : d.branch.size ≤ maxLen) (hs1 : d.into.size ≤ maxLen) (hs2 : d.by_.size ≤ maxLen) (hv3 : rd S w [v3] d.yes) (hl0 : 0 ≤ l) (hl1 : l ≤ 1048576) :
    Calls Try.prog 9 #[.agg #[.string d.branch, .string d.into, .string d.by_, v3], .int .i64 l] w fun e w' => e = .returned (.int .i64 (sub l (bulk1_review d))) ∧ Below w.heap.size w w' := by
  have hv3 := Rep.lt hv3
  unfold maxLen at hs0
  unfold maxLen at hs1
  unfold maxLen at hs2
  have HB := (Below.refl w.heap.size w).alloc (Nat.le_refl _) (.cells #[.string d.branch, .string d.into, .string d.by_, v3] 24)
  have hv3 := Rep.keep hv3 HB
  go_enter Try.func9, Try.ntmps9
  by_cases h0 : l - (d.branch.size : Int) < 0
  · go_wp2
    go_ret
    exact ⟨ret_int (by rw [sub_lt (l := l) (n := bulk1_review d) (by unfold bulk1_review; omega)]), HB⟩
  · have hd0 : 0 ≤ l - (d.branch.size : Int) := by omega
    have he0 : decide (l - (d.branch.size : Int) < 0) = false := decide_eq_false h0
    by_cases h1 : (l - (d.branch.size : Int)) - (d.into.size : Int) < 0
    · go_wp2
      go_ret
      exact ⟨ret_int (by rw [sub_lt (l := l) (n := bulk1_review d) (by unfold bulk1_review; omega)]), HB⟩
    · have hd1 : 0 ≤ (l - (d.branch.size : Int)) - (d.into.size : Int) := by omega
      have he1 : decide ((l - (d.branch.size : Int)) - (d.into.size : Int) < 0) = false := decide_eq_false h1
      by_cases h2 : ((l - (d.branch.size : Int)) - (d.into.size : Int)) - (d.by_.size : Int) < 0
      · go_wp2
        go_ret
        exact ⟨ret_int (by rw [sub_lt (l := l) (n := bulk1_review d) (by unfold bulk1_review; omega)]), HB⟩
      · have hd2 : 0 ≤ ((l - (d.branch.size : Int)) - (d.into.size : Int)) - (d.by_.size : Int) := by omega
        have he2 : decide (((l - (d.branch.size : Int)) - (d.into.size : Int)) - (d.by_.size : Int) < 0) = false := decide_eq_false h2
        go_wp2_with fail
        refine (sz_S _ d.yes _ _ hv3 (by omega) (by omega)).mono ?_
        rintro e w1 ⟨rfl, hb1⟩
        have HB := HB.trans (hb1.mono HB.size)
        by_cases h3 : sub (((l - (d.branch.size : Int)) - (d.into.size : Int)) - (d.by_.size : Int)) (bulk_S d.yes) < 0
        · have hq := sub_facts' (by omega) h3
          go_wp2
          go_ret
          exact ⟨ret_int (by rw [sub_lt (l := l) (n := bulk1_review d) (by unfold bulk1_review; omega)]), HB⟩
        · obtain ⟨hq3, hp3, hr3⟩ := sub_facts (by omega) h3
          have HQ3 := Lib.hid hq3
          clear hq3
          go_wp2
          go_ret
          exact ⟨ret_int (by have e3 := HQ3.out; rw [sub_eq (l := l) (n := bulk1_review d) (by unfold bulk1_review; omega)]; unfold bulk1_review; omega), HB⟩

set_option maxHeartbeats 1000000 in
theorem to1_review {S : Nat → Prop} (d : Review) (v3 : Value) (w : World) (hv3 : rd S w [v3] d.yes) (hl3 : bulk_S d.yes ≤ 1048576) :
    Calls Try.prog 11 #[.agg #[.string d.branch, .string d.into, .string d.by_, v3]] w fun e w' => ∃ a3 c3, e = .returned (.agg #[.string d.branch, .string d.into, .string d.by_, .slice a3 d.yes.length c3]) ∧ Fresh w.heap.size w'.heap.size w' [.slice a3 d.yes.length c3] d.yes ∧ Below w.heap.size w w' := by
  have hv3 := Rep.lt hv3
  go_enter Try.func11, Try.ntmps11
  go_wp2_with fail
  refine (to_S _ d.yes _ (Rep.alloc (Rep.alloc (Rep.alloc hv3 _) _) _) hl3).mono ?_
  rintro e w1 ⟨x3, rfl, hF3, hb1⟩
  obtain ⟨a3, c3, rfl, _⟩ := hF3.shape
  have hz : w.heap.size + 2 < w1.heap.size := by have := hb1.size; simp at this; omega
  have HB1 := (((((Below.refl _ _).alloc (by simp <;> omega) _).alloc (by simp <;> omega) _).alloc (by simp <;> omega) _) : Below w.heap.size w _).trans (hb1.mono (by simp <;> omega))
  have hF3 := hF3.mono (B' := w.heap.size + 3) (by simp <;> omega) (Nat.le_refl _)
  obtain ⟨hc1, hf1⟩ := bcell hb1
  go_wp2
  refine bodyPost_ret (v := .agg #[.string d.branch, .string d.into, .string d.by_, .slice a3 d.yes.length c3]) (by simp [results, Try.results11, go_sem, hc1]) rfl ⟨a3, c3, rfl, ?_, ?_⟩
  · exact (((((hF3.setCell (.inl (by simp <;> omega))).setCell (.inl (by simp <;> omega))).setCell (.inl (by simp <;> omega))).setCell (.inl (by simp <;> omega))).setCell (.inl (by simp <;> omega))).now.mono (by simp <;> omega) (Nat.le_refl _)
  · exact (((((HB1.setCell (by simp <;> omega) _).setCell (by simp <;> omega) _).setCell (by simp <;> omega) _).setCell (by simp <;> omega) _).setCell (by simp <;> omega) _)

set_option maxHeartbeats 1000000 in
theorem eq1_review {S T : Nat → Prop} (d e : Review) (v3 u3 : Value) (w : World) (hv3 : rd S w [v3] d.yes) (hu3 : rd T w [u3] e.yes) :
    Calls Try.prog 13 #[.agg #[.string d.branch, .string d.into, .string d.by_, v3], .agg #[.string e.branch, .string e.into, .string e.by_, u3]] w fun r w' => r = .returned (.bool (decide (d = e))) ∧ Below w.heap.size w w' := by
  have HB := ((Below.refl w.heap.size w).alloc (Nat.le_refl _) (.cells #[.string d.branch, .string d.into, .string d.by_, v3] 27)).alloc (by simp <;> omega) (.cells #[.string e.branch, .string e.into, .string e.by_, u3] 27)
  have hv3 := Rep.keep (Rep.lt hv3) HB
  have hu3 := Rep.keep (Rep.lt hu3) HB
  go_enter Try.func13, Try.ntmps13
  by_cases h0 : d.branch = e.branch
  rotate_left
  · have H := Lib.hid (show decide (d = e) = false from decide_eq_false (by rw [eq_review]; simp [h0]))
    have hd : decide (d.branch = e.branch) = false := decide_eq_false h0
    clear h0
    go_wp2
    go_ret
    exact ⟨ret_bool H.out.symm, HB⟩
  have K0 := Lib.hid h0
  have hd0 : decide (d.branch = e.branch) = true := decide_eq_true h0
  clear h0
  by_cases h1 : d.into = e.into
  rotate_left
  · have H := Lib.hid (show decide (d = e) = false from decide_eq_false (by rw [eq_review]; simp [h1]))
    have hd : decide (d.into = e.into) = false := decide_eq_false h1
    clear h1
    go_wp2
    go_ret
    exact ⟨ret_bool H.out.symm, HB⟩
  have K1 := Lib.hid h1
  have hd1 : decide (d.into = e.into) = true := decide_eq_true h1
  clear h1
  by_cases h2 : d.by_ = e.by_
  rotate_left
  · have H := Lib.hid (show decide (d = e) = false from decide_eq_false (by rw [eq_review]; simp [h2]))
    have hd : decide (d.by_ = e.by_) = false := decide_eq_false h2
    clear h2
    go_wp2
    go_ret
    exact ⟨ret_bool H.out.symm, HB⟩
  have K2 := Lib.hid h2
  have hd2 : decide (d.by_ = e.by_) = true := decide_eq_true h2
  clear h2
  go_wp2_with fail
  refine (eq_S _ _ _ _ _ hv3 hu3).mono ?_
  rintro r w1 ⟨rfl, hb1⟩
  have HB := HB.trans (hb1.mono HB.size)
  by_cases h3 : d.yes = e.yes
  rotate_left
  · have H := Lib.hid (show decide (d = e) = false from decide_eq_false (by rw [eq_review]; simp [h3]))
    have hd : decide (d.yes = e.yes) = false := decide_eq_false h3
    clear h3
    go_wp2
    go_ret
    exact ⟨ret_bool H.out.symm, HB⟩
  have K3 := Lib.hid h3
  have hd3 : decide (d.yes = e.yes) = true := decide_eq_true h3
  clear h3
  go_wp2
  go_ret
  exact ⟨ret_bool (by symm; apply decide_eq_true; rw [eq_review]; exact ⟨K0.out, K1.out, K2.out, K3.out⟩), HB⟩
end Go.Proofs.Ytlokkbllplhlbaa
