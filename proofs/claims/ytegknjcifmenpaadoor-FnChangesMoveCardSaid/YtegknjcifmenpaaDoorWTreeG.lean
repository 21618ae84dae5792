/-
  Walks: what is read of a tree.
-/
import Derived.Test.YtegknjcifmenpaaDoorVUM
import Derived.Test.YtegknjcifmenpaaDoorVGR
import Derived.Test.YtegknjcifmenpaaDoorVTR
import Derived.Test.YtegknjcifmenpaaDoorWTreeS
import Derived.Test.YtegknjcifmenpaaDoorVPB
import Derived.Test.YtegknjcifmenpaaDoorWUses
set_option linter.unusedVariables false
namespace Go.Proofs.YtegknjcifmenpaaDoor
open Go.RowKit Go.Vc
open Go.Vc.Rep (rd)
open Go.Vc.Own (own)

set_option maxHeartbeats 1000000 in
theorem implTreeGet {S : Nat → Prop} (v : Value) (t : List File) (path : ByteArray) (w : World) (hv : rd S w [v] t) (hS : ∀ f, f ∈ t → ShortS f.path) (hM : ML w) {M : Option (List ByteArray)} (h : treeGet t path = M) :
    Calls Tryd.prog 8 #[v, .string path] w fun e w' => ∃ v', e = .returned (.tuple #[v', .bool M.isSome]) ∧ Fresh w.heap.size w'.heap.size w' [v'] (M.getD []) ∧ Below w.heap.size w w' := by
  have hv := Rep.lt hv
  cases hb : treeB t with
  | false =>
    rw [treeGet_bad hb] at h
    subst h
    go_enter Tryd.func8, Tryd.ntmps8
    go_wp2_with fail
    refine (treeOk_is _ t _ hv hS hM hb).mono ?_
    rintro e w1 ⟨rfl, hb1⟩
    go_wp2
    go_ret2
    exact ⟨.slice none 0 0, rfl, Fresh.nil _ _ _ (by decide), hb1⟩
  | true =>
    rw [treeGet_ok hb] at h
    have HH := Lib.hid h
    clear h
    obtain ⟨h8, h10⟩ := tree_files hb
    go_enter Tryd.func8, Tryd.ntmps8
    go_wp2_with fail
    refine (treeOk_is _ t _ hv hS hM hb).mono ?_
    rintro e w1 ⟨rfl, hb1⟩
    go_wp2_with fail
    refine (get_any _ t path _ (Rep.keep hv hb1) h10 HH.out).mono ?_
    rintro e w2 ⟨v2, rfl, hF, hb2⟩
    go_wp2
    go_ret2
    exact ⟨v2, rfl, hF.mono hb1.size (Nat.le_refl _), hb1.trans (hb2.mono hb1.size)⟩
end Go.Proofs.YtegknjcifmenpaaDoor
