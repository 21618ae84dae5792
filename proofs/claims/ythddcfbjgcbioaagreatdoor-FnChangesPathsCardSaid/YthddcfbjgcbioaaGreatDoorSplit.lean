/-
  The library's Split at a stroke: its pieces, in new memory.
-/
import Derived.Test.YthddcfbjgcbioaaGreatDoorVTY
import Derived.Test.YthddcfbjgcbioaaGreatDoorVI
import Derived.Test.YthddcfbjgcbioaaGreatDoorVH
import Derived.Test.YthddcfbjgcbioaaGreatDoorShelf
import Derived.Test.YthddcfbjgcbioaaGreatDoorVK
set_option linter.unusedVariables false
namespace Go.Proofs.YthddcfbjgcbioaaGreatDoor
open Go.RowKit Go.Vc
open Go.Vc.Rep (rd)
open Go.Vc.Own (own)

/-- the library's variable holds some number -/
def ML (w : World) : Prop := ∃ m, w.cell? ⟨0, 0, none⟩ = some (.int .i64 m)
theorem ML.keep {w w' : World} (h : ML w) (hb : Below w.heap.size w w') : ML w' := h.imp fun _ hm => keepc hm hb
theorem ML.lt {w : World} (h : ML w) : 0 < w.heap.size := by
  obtain ⟨m, hm⟩ := h
  exact World.block_lt_of_cell? w _ hm
theorem ML.below {B : Nat} {w w' : World} (h : ML w) (hB : 0 < B) (hb : Below B w w') : ML w' := h.imp fun _ hm => by rw [hb.cell hB]; exact hm
theorem ML.drew {w : World} (h : ML w) : ML w.drew := h
theorem ML.bw {w : World} (h : ML w) (n : BW w) : ML n.w := h.keep n.below
/-- a text that the library cuts -/
def ShortS (s : ByteArray) : Prop := s.size < 4294967281
theorem short_of {s : ByteArray} (h : s.size ≤ 1048576) : ShortS s := by unfold ShortS; omega
theorem split_any (s : ByteArray) (w : World) (hs : ShortS s) (hm : ML w) :
    Calls Tryz.prog 66 #[.string s, .string ⟨#[47]⟩] w fun e w' => ∃ v, e = .returned v ∧ rd (fun b => w.heap.size ≤ b) w' [v] (pieces 47 s) ∧ Below w.heap.size w w' := by
  obtain ⟨m, hm⟩ := hm
  have hc := countB_pieces 47 s
  refine (Tryz.strings_Split s ⟨#[47]⟩ m w hs hm (by decide)).mono fun e w' h => ?_
  obtain ⟨he, hw⟩ := h
  rw [splitB_pieces] at hw
  have hl : (pieces 47 s).length ≤ maxLen := by
    rw [pieces_len, cutL_len]
    have := List.count_le_length (a := (47 : UInt8)) (l := s.data.toList)
    have h2 : s.data.toList.length = s.size := by simp
    unfold ShortS at hs
    unfold maxLen
    omega
  have hz : ∀ x ∈ pieces 47 s, x.size ≤ maxLen := by
    intro x hx
    obtain ⟨i, hi, rfl⟩ := List.getElem_of_mem hx
    have := pieces_small hi
    unfold ShortS at hs
    unfold maxLen
    omega
  refine ⟨_, he, ?_, ?_⟩
  · rw [hw, hc]
    exact Rep.mono (S := fun b => b = w.heap.size) (fun b hb => by omega) (lit_strs (pieces 47 s) (heap_alloc_new _ _) hz hl).rd
  · rw [hw]
    exact (Below.refl _ _).alloc (Nat.le_refl _) _
end Go.Proofs.YthddcfbjgcbioaaGreatDoor
