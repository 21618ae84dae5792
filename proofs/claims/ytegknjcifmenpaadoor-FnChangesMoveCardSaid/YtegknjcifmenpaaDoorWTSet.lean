/-
  Walks: a file set in a tree, as the program does it.
-/
import Derived.Test.YtegknjcifmenpaaDoorVIN
import Derived.Test.YtegknjcifmenpaaDoorVTR
import Derived.Test.YtegknjcifmenpaaDoorVPB
set_option linter.unusedVariables false
namespace Go.Proofs.YtegknjcifmenpaaDoor
open Go.RowKit Go.Vc
open Go.Vc.Rep (rd)
open Go.Vc.Own (own)
set_option maxHeartbeats 4000000 in
set_option maxRecDepth 100000 in
/-- a new tree if it is ok, else the old one -/
theorem implChanged {S : Nat → Prop} {B : Nat} (v vo : Value) (t out : List File) (w : World) (hv : rd S w [v] t) (ho : Fresh B w.heap.size w [vo] out) (hl : t.length ≤ 900) (hx : ∀ f, f ∈ t → f.text.length ≤ 10) (hS : ∀ f, f ∈ out → ShortS f.path) (hM : ML w) (hB : B ≤ w.heap.size) {b : Bool} (hb : treeB out = b) {x : List File} (hxx : (if b = true then out else t) = x) :
    Calls Tryd.prog 26 #[v, vo] w fun e w' => ∃ v', e = .returned (.tuple #[v', .bool b]) ∧ Fresh B w'.heap.size w' [v'] x ∧ Below w.heap.size w w' := by
  subst hxx
  obtain ⟨a, cap, rfl, hs⟩ := rd_slice_elim (Rep.lt hv)
  obtain ⟨ao, co, rfl, _⟩ := ho.shape
  cases b with
  | false =>
    go_enter Tryd.func26, Tryd.ntmps26
    go_wp2_with fail
    refine (treeOk_is _ out _ (Rep.lt ho.rd) hS hM hb).mono ?_
    rintro e w1 ⟨rfl, hb1⟩
    have hs1 := hb1.size
    go_wp2_with fail
    refine (copyTree_any _ t _ (hs.keep hb1).rd (by omega) hx).mono ?_
    rintro e w2 ⟨vc, rfl, hC, hb2⟩
    go_wp2
    go_ret2
    exact ⟨_, rfl, hC.mono (by omega) (Nat.le_refl _), hb1.trans (hb2.mono hs1)⟩
  | true =>
    go_enter Tryd.func26, Tryd.ntmps26
    go_wp2_with fail
    refine (treeOk_is _ out _ (Rep.lt ho.rd) hS hM hb).mono ?_
    rintro e w1 ⟨rfl, hb1⟩
    have ho := (ho.below (Nat.le_refl _) hb1).now
    go_wp2
    go_ret2
    exact ⟨_, rfl, ho, hb1⟩
end Go.Proofs.YtegknjcifmenpaaDoor
