/-
  Walks: what the law of owners draws.
-/
import Derived.Test.YtfpneepnnoldeaaDoorDrawO
set_option linter.unusedVariables false
namespace Go.Proofs.YtfpneepnnoldeaaDoor
open Go.RowKit Go.Vc
open Go.Vc.Rep (rd)
open Go.Vc.Own (own)
/-- owners and a path drawn -/
def OwnersPath (w : World) (e : Ending) (w' : World) : Prop :=
  ∃ (v : Value) (xs : List Owner) (s : ByteArray), e = .returned (.tuple #[v, .string s]) ∧ xs.length ≤ 5 ∧ (∀ o, o ∈ xs → o.path.size ≤ 100) ∧ s.size ≤ 100 ∧ rd (fun b => w.heap.size ≤ b) w' [v] xs ∧ Below w.heap.size w w'
set_option maxHeartbeats 1000000 in
theorem drawOwnerOf_any {S : Nat → Prop} (v : Value) (bs : List UInt8) (w : World) (hv : rd S w [v] bs) (hl : bs.length ≤ 1048576) :
    Calls Tryd.prog 12 #[v] w (OwnersPath w) := by
  go_enter Tryd.func12, Tryd.ntmps12
  go_wp2_with fail
  refine (l30Open_any v bs w hv hl).mono ?_
  rintro e w1 ⟨rfl, hr, hb, hsz⟩
  go_wp2_with fail
  refine (l30Owners_any _ _ _ hr (by omega)).mono ?_
  rintro e w2 ⟨u, xs, rfl, hl5, hS, ht, hd, hr⟩
  obtain ⟨a2, c2, rfl, _⟩ := rd_slice_elim ht
  have hs2 := hd.size
  go_wp2_with fail
  refine (l30AnyPath_any _ _ _ hr (by omega)).mono ?_
  rintro e w3 ⟨s, rfl, hs, hd3, hr3⟩
  have ht := hd3.rdS ht (fun b hb => by omega)
  have hd4 := hd.tr hd3
  go_wp2
  go_ret2
  exact ⟨_, xs, s, rfl, hl5, hS, hs, Rep.mono (fun b hb => by omega) ht, hb.trans (hd4.low (Nat.le_refl _) (by omega))⟩
end Go.Proofs.YtfpneepnnoldeaaDoor
