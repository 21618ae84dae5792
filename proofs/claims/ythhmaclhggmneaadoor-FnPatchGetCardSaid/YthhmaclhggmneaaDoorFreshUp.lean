/-
  What an append leaves alone, and a slice of rows read. No program is in sight here.
-/
import Derived.Test.YthhmaclhggmneaaDoorVRW
import Derived.Test.YthhmaclhggmneaaDoorVL
import Derived.Test.YthhmaclhggmneaaDoorVB
set_option linter.unusedVariables false
namespace Go.Vc
open Go.RowKit
open Rep (rd)
/-- what an append at a laid literal leaves alone -/
theorem po_old {α : Type} [Own α] [Tid α] {H : Nat → Prop} {B m : Nat} {wx w5 : World} {v : Value} {xs : List α} {o : Obj} (hG : GrewX H B m (wx.alloc o) w5 v xs) {b : Nat} (hb : b < wx.heap.size) (h : b < B ∨ H b) : w5.heap[b]? = wx.heap[b]? := by
  have e := Below.heap_alloc wx o b hb
  rcases h with h | h
  · exact (hG.below.block b h).trans e
  · exact (hG.holes b (by simp; omega) h).trans e
theorem FreshX.poUp {α : Type} [Own α] {H : Nat → Prop} {B m m' : Nat} {w : World} {vs : List Value} {x : α} (h : FreshX H B m w vs x) (hm : m ≤ m') : FreshX H B m' w vs x := by
  obtain ⟨F, ho, hn, hb, hh⟩ := h
  exact ⟨F, ho, hn, fun b hb' => ⟨(hb b hb').1, by have := hb b hb'; omega⟩, hh⟩
/-- a slice of rows, read -/
theorem FreshX.poRaw {α : Type} [Rep α] [Tid α] {H T : Nat → Prop} {B m : Nat} {w' : World} {v : Value} {rs : List (Raw α)} {xs : List α} (h : FreshX H B m w' [v] rs) (h2 : All2 (fun r x => Rep.rd T w' (Raw.vs r) x) rs xs) : Rep.rd (fun b => B ≤ b ∨ T b) w' [v] xs := by
  obtain ⟨a, cap, rfl, hs⟩ := h.fresh.shape
  have hl := h2.len
  rw [hl]
  exact (hs.unraw h2).rd
theorem po_ten {t : List ByteArray} (h : textB t = true) : t.length ≤ 10 := by simp [textB] at h; exact h.1
end Go.Vc
