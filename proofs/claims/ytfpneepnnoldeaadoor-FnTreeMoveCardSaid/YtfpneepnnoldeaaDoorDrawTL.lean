/-
  Walks: what the laws of trees draw.
-/
import Derived.Test.YtfpneepnnoldeaaDoorDrawT
set_option linter.unusedVariables false
namespace Go.Proofs.YtfpneepnnoldeaaDoor
open Go.RowKit Go.Vc
open Go.Vc.Rep (rd)
open Go.Vc.Own (own)
/-- a tree and a path drawn -/
def TreePath (w : World) (e : Ending) (w' : World) : Prop :=
  ∃ (v : Value) (t : List File) (s : ByteArray), e = .returned (.tuple #[v, .string s]) ∧ SmallF t ∧ s.size ≤ 100 ∧ rd (fun b => w.heap.size ≤ b) w' [v] t ∧ Below w.heap.size w w'
set_option maxHeartbeats 1000000 in
theorem drawTreeGet_any {S : Nat → Prop} (v : Value) (bs : List UInt8) (w : World) (hv : rd S w [v] bs) (hl : bs.length ≤ 1048576) :
    Calls Tryd.prog 35 #[v] w (TreePath w) := by
  go_enter Tryd.func35, Tryd.ntmps35
  go_wp2_with fail
  refine (l30Open_any v bs w hv hl).mono ?_
  rintro e w1 ⟨rfl, hr, hb, hsz⟩
  go_wp2_with fail
  refine (l30AnyTree_any _ _ _ hr (by omega)).mono ?_
  rintro e w2 ⟨u, t, rfl, hS, ht, hd, hr⟩
  obtain ⟨a2, c2, rfl, _⟩ := rd_slice_elim ht
  have hs2 := hd.size
  go_wp2_with fail
  refine (l30AnyPath_any _ _ _ hr (by omega)).mono ?_
  rintro e w3 ⟨s, rfl, hs, hd3, hr3⟩
  have ht := hd3.rdS ht (fun b hb => by omega)
  have hd4 := hd.tr hd3
  go_wp2
  go_ret2
  exact ⟨_, t, s, rfl, hS, hs, Rep.mono (fun b hb => by omega) ht, hb.trans (hd4.low (Nat.le_refl _) (by omega))⟩
set_option maxHeartbeats 1000000 in
theorem drawRuleUses_any {S : Nat → Prop} (v : Value) (bs : List UInt8) (w : World) (hv : rd S w [v] bs) (hl : bs.length ≤ 1048576) :
    Calls Tryd.prog 25 #[v] w (TreePath w) := by
  go_enter Tryd.func25, Tryd.ntmps25
  go_wp2_with fail
  refine (l30Open_any v bs w hv hl).mono ?_
  rintro e w1 ⟨rfl, hr, hb, hsz⟩
  go_wp2_with fail
  refine (l30AnyTree_any _ _ _ hr (by omega)).mono ?_
  rintro e w2 ⟨u, t, rfl, hS, ht, hd, hr⟩
  obtain ⟨a2, c2, rfl, _⟩ := rd_slice_elim ht
  have hs2 := hd.size
  go_wp2_with fail
  refine (of_any (S := fun b => b = w2.heap.size) _ _ _ [⟨#[97]⟩, ⟨#[100, 47, 101]⟩, ⟨#[98]⟩] _ (hr.alloc _) (by omega)
    (lit_strs _ (heap_alloc_new _ _) (by decide) (by decide)).rd (by intro b hb; omega) (by decide) (by decide)).mono ?_
  rintro e w3 ⟨s, rfl, hm, _, hd3, hr3⟩
  have hs : s.size ≤ 100 := (show ∀ s ∈ ([⟨#[97]⟩, ⟨#[100, 47, 101]⟩, ⟨#[98]⟩] : List ByteArray), s.size ≤ 100 by decide) s hm
  have hd3 := (Drew.of ((Below.refl w2.heap.size w2).alloc (Nat.le_refl _) _)).tr hd3
  clear hm
  have ht := hd3.rdS ht (fun b hb => by omega)
  have hd4 := hd.tr hd3
  go_wp2
  go_ret2
  exact ⟨_, t, s, rfl, hS, hs, Rep.mono (fun b hb => by omega) ht, hb.trans (hd4.low (Nat.le_refl _) (by omega))⟩
set_option maxHeartbeats 1000000 in
theorem drawTreeDrop_any {S : Nat → Prop} (v : Value) (bs : List UInt8) (w : World) (hv : rd S w [v] bs) (hl : bs.length ≤ 1048576) :
    Calls Tryd.prog 19 #[v] w (TreePath w) := by
  go_enter Tryd.func19, Tryd.ntmps19
  go_wp2_with fail
  refine (drawTreeGet_any v bs w hv hl).mono ?_
  rintro e w2 ⟨u, t, s, rfl, hS, hs, ht, hb⟩
  obtain ⟨a2, c2, rfl, _⟩ := rd_slice_elim ht
  go_wp2
  go_ret2
  exact ⟨_, t, s, rfl, hS, hs, ht, hb⟩
set_option maxHeartbeats 1000000 in
theorem drawRuleLost_any {S : Nat → Prop} (v : Value) (bs : List UInt8) (w : World) (hv : rd S w [v] bs) (hl : bs.length ≤ 1048576) :
    Calls Tryd.prog 48 #[v] w fun e w' => ∃ (v : Value) (t : List File), e = .returned v ∧ SmallF t ∧ rd (fun b => w.heap.size ≤ b) w' [v] t ∧ Below w.heap.size w w' := by
  go_enter Tryd.func48, Tryd.ntmps48
  go_wp2_with fail
  refine (l30Open_any v bs w hv hl).mono ?_
  rintro e w1 ⟨rfl, hr, hb, hsz⟩
  go_wp2_with fail
  refine (l30AnyTree_any _ _ _ hr (by omega)).mono ?_
  rintro e w2 ⟨u, t, rfl, hS, ht, hd, hr⟩
  go_wp2
  go_ret
  exact ⟨_, t, rfl, hS, Rep.mono (fun b hb => by omega) ht, hb.trans (hd.low (Nat.le_refl _) (by omega))⟩
end Go.Proofs.YtfpneepnnoldeaaDoor
