/-
  Walks: whether there are branches, as the program has it. / Slices of bools. / Literals of strings and of ints, as slices. No program is in sight here. / Walks: which commits come from which, as the program has it.
-/
import Derived.Test.YthddcfbjgcbioaaGreatDoorVI
import Derived.Test.YthddcfbjgcbioaaGreatDoorVJ
import Derived.Test.YthddcfbjgcbioaaGreatDoorVTY
import Derived.Test.YthddcfbjgcbioaaGreatDoorVB
import Derived.Test.YthddcfbjgcbioaaGreatDoorVC
set_option linter.unusedVariables false
namespace Go.Proofs.YthddcfbjgcbioaaGreatDoor
open Go.RowKit Go.Vc
open Go.Vc.Rep (rd)
open Go.Vc.Own (own)

end Go.Proofs.YthddcfbjgcbioaaGreatDoor
namespace Go.Vc
open Go.RowKit
open Rep (rd)
open Own (own)
theorem IsSlice.bool {S : Nat → Prop} {w : World} {a : Option Addr} {cap : Nat} {xs : List Bool} (h : IsSlice S w a cap xs) {i : Nat} (hi : i < xs.length) :
    ∃ g off, a = some ⟨g, off, none⟩ ∧ w.cell? ⟨g, off + i, none⟩ = some (.bool xs[i]) := by
  obtain ⟨g, off, us, h1, _, h3, h4⟩ := h.elem hi
  subst h4
  refine ⟨g, off, h1, ?_⟩
  have := h3 0 _ rfl
  simpa [Rep.sz] using this
/-- a bool of an own slice -/
theorem Fresh.boolAt [Tid Bool] {B m g n cap : Nat} {w : World} {xs : List Bool} (h : Fresh B m w [.slice (some ⟨g, 0, none⟩) n cap] xs) {i : Nat} (hi : i < xs.length) : w.cell? ⟨g, i, none⟩ = some (.bool xs[i]) := by
  obtain ⟨hn, hs⟩ := rd_slice_of h.rd2
  obtain ⟨g', off, hg, hc⟩ := hs.bool hi
  obtain ⟨rfl, rfl⟩ : g = g' ∧ 0 = off := by simpa using hg
  simpa using hc
theorem ownAll_none {α : Type} [Own α] [Leaf α] {w : World} : ∀ (Fs : List (List Nat)) (cs : List (List Value)) (xs : List α), ownAll w Fs cs xs → Fs.flatten = []
  | [], _, _, _ => rfl
  | F :: Fs, c :: cs, x :: xs, h => by
    have h1 := Leaf.none h.1
    have h2 := ownAll_none Fs cs xs h.2
    simp [h1, h2]
  | _ :: _, [], _, h => h.elim
  | _ :: _, _ :: _, [], h => h.elim
/-- an own slice of leaves has one block -/
theorem Fresh.one {α : Type} [Own α] [Tid α] [Leaf α] {B m g n cap : Nat} {w : World} {xs : List α} (h : Fresh B m w [.slice (some ⟨g, 0, none⟩) n cap] xs) : Fresh g (g + 1) w [.slice (some ⟨g, 0, none⟩) n cap] xs := by
  obtain ⟨F, ho, hn, hb⟩ := h
  have ho' := ho
  obtain ⟨v, cs, Fs, hv, hrow, rfl, hall, hz⟩ := ho
  have hf := ownAll_none _ _ _ hall
  obtain rfl : _ = v := by simpa using hv
  refine ⟨_, ho', hn, fun b hb => ?_⟩
  rw [hf] at hb
  simp [Value.ownBlock] at hb
  omega
end Go.Vc
namespace Go.Proofs.YthddcfbjgcbioaaGreatDoor
open Go.RowKit Go.Vc
open Go.Vc.Rep (rd)
open Go.Vc.Own (own)
instance : Tid Bool := ⟨4⟩
theorem bool_own (b : Bool) (w : World) : own [] w [.bool b] b := ⟨rfl, rfl⟩
end Go.Proofs.YthddcfbjgcbioaaGreatDoor
namespace Go.Vc
open Go.RowKit
open Rep (rd)
open Own (own)

/-- a literal of strings -/
theorem lit_strs {w : World} {g : Nat} {e : TypeId} (ss : List ByteArray) (h : w.heap[g]? = some (.cells (ss.map Value.string).toArray e (0, 0))) (hz : ∀ s ∈ ss, s.size ≤ maxLen) (hl : ss.length ≤ maxLen) :
    IsSlice (fun b => b = g) w (some ⟨g, 0, none⟩) ss.length ss := by
  refine ⟨Nat.le_refl _, hl, fun i hi => ⟨g, 0, [.string ss[i]], rfl, rfl, ?_, ⟨rfl, hz _ (List.getElem_mem hi)⟩, by decide⟩⟩
  intro j u hu
  have hj : j = 0 := by
    have := (List.getElem?_eq_some_iff.1 hu).1
    simpa using this
  subst hj
  simp at hu
  subst hu
  rw [cell_of_row w g _ _ e (0, 0) h]
  simp [Rep.sz, hi]
/-- a literal of ints -/
theorem lit_ints {w : World} {g : Nat} {e : TypeId} (ss : List Int) (h : w.heap[g]? = some (.cells (ss.map (Value.int .i64)).toArray e (0, 0))) (hz : ∀ s ∈ ss, I64 s) (hl : ss.length ≤ maxLen) :
    IsSlice (fun b => b = g) w (some ⟨g, 0, none⟩) ss.length ss := by
  refine ⟨Nat.le_refl _, hl, fun i hi => ⟨g, 0, [.int .i64 ss[i]], rfl, rfl, ?_, ⟨rfl, hz _ (List.getElem_mem hi)⟩, by decide⟩⟩
  intro j u hu
  have hj : j = 0 := by
    have := (List.getElem?_eq_some_iff.1 hu).1
    simpa using this
  subst hj
  simp at hu
  subst hu
  rw [cell_of_row w g _ _ e (0, 0) h]
  simp [Rep.sz, hi]
end Go.Vc
namespace Go.Proofs.YthddcfbjgcbioaaGreatDoor
open Go.RowKit Go.Vc
open Go.Vc.Rep (rd)
open Go.Vc.Own (own)

end Go.Proofs.YthddcfbjgcbioaaGreatDoor
