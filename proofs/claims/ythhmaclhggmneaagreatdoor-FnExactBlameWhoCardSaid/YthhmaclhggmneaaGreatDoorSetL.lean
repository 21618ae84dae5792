/-
  A field of an own slice's element written anew, with what was made since. No program is in sight here.
-/
import Derived.Test.YthhmaclhggmneaaGreatDoorVB
namespace Go.Vc
open Go.RowKit
open Rep (rd)
open Own (own)

section
variable {w : World} {α β : Type} [Own α] [Tid α] [Own β]
theorem Fresh.setL {f : Nat} {get : α → β} {put : α → β → α} (L : Lens α β f get put) {B m g n cap : Nat} {xs : List α} (h : Fresh B m w [.slice (some ⟨g, 0, none⟩) n cap] xs) (hB : B ≤ w.heap.size) {i : Nat} (hi : i < xs.length)
    {w1 : World} (hbw : Below w.heap.size w w1) {u : Value} {y : β} {m1 : Nat} (hy : Fresh w.heap.size m1 w1 [u] y) :
    (∃ u', w1.cell? ⟨g, i * Rep.sz α + f, none⟩ = some u') ∧ w1.frozen? ⟨g, i * Rep.sz α + f, none⟩ = false ∧ B ≤ g ∧
      Fresh B (w1.setCell ⟨g, i * Rep.sz α + f, none⟩ u).heap.size (w1.setCell ⟨g, i * Rep.sz α + f, none⟩ u) [.slice (some ⟨g, 0, none⟩) n cap] (xs.set i (put xs[i] y)) := by
  obtain ⟨F, ho, hn, hb⟩ := h
  obtain ⟨G, hoy, hnG, hbG⟩ := hy
  obtain ⟨ce, Fi, hoi, hsub, hnFi, hgFi, hgF, hcells, hfz, hfoc⟩ := own_focus ho hn hi
  obtain ⟨hf, hL⟩ := L
  obtain ⟨F1, Fl, F2, lv, hlv, rfl, hol, hput⟩ := hL Fi w ce xs[i] hoi
  obtain ⟨hn1, hn23, hd1⟩ := List.nodup_append.1 hnFi
  obtain ⟨hnl', hn2, hd2⟩ := List.nodup_append.1 hn23
  have hcell := hcells f lv hlv
  have hglt : g < w.heap.size := World.block_lt_of_cell? w _ hcell
  have hgb : w1.heap[g]? = w.heap[g]? := hbw.block g hglt
  have hltF : ∀ b, b ∈ F1 ++ (Fl ++ F2) → b < w.heap.size := Own.lt hoi
  refine ⟨⟨_, by rw [World.cell?_of_block (w := w) hgb]; exact hcell⟩, by rw [World.frozen?_of_block (w := w) hgb]; exact hfz _, (hb g hgF).1, ?_⟩
  have hol' : own G (w1.setCell ⟨g, i * Rep.sz α + f, none⟩ u) [u] y :=
    Own.oframe (fun b hbm => Below.heap_setCell w1 _ _ b fun e => by
      simp only at e
      subst e
      have := (hbG b hbm).1
      omega) hoy
  have hin : ∀ b, b ∈ F1 ++ F2 → b ∈ F1 ++ (Fl ++ F2) := fun b hbm => by
    rcases List.mem_append.1 hbm with h | h
    · exact List.mem_append.2 (.inl h)
    · exact List.mem_append.2 (.inr (List.mem_append.2 (.inr h)))
  have hkeep : ∀ b, b ∈ F1 ++ F2 → (w1.setCell ⟨g, i * Rep.sz α + f, none⟩ u).heap[b]? = w.heap[b]? := fun b hbm => by
    rw [Below.heap_setCell w1 _ _ b fun e => hgFi (by simp only at e; rw [← e]; exact hin b hbm)]
    exact hbw.block b (hltF b (hin b hbm))
  have hfl' : ∀ b, b ∈ G → b ∉ F1 ∧ b ∉ F2 := fun b hbm => by
    have h := (hbG b hbm).1
    exact ⟨fun h1 => by have := hltF b (List.mem_append.2 (.inl h1)); omega, fun h1 => by have := hltF b (List.mem_append.2 (.inr (List.mem_append.2 (.inr h1)))); omega⟩
  have hlce : ce.length = Rep.sz α := Rep.len (Own.rd_of hoi)
  obtain ⟨FF, hoF, hnF, hFF⟩ := hfoc _ (ce.set f u) (put xs[i] y) (F1 ++ (G ++ F2)) (hput _ G _ _ hkeep hol')
    (List.nodup_append.2 ⟨hn1, List.nodup_append.2 ⟨hnG, hn2, fun a ha b hbb e => (hfl' a ha).2 (e ▸ hbb)⟩, fun a ha b hbb e => by
      subst e
      rcases List.mem_append.1 hbb with h | h
      · exact (hfl' a h).1 ha
      · exact hd1 a ha a (List.mem_append.2 (.inr h)) rfl⟩)
    (fun b hbm => by
      rcases List.mem_append.1 hbm with h | h
      · exact .inl (List.mem_append.2 (.inl h))
      · rcases List.mem_append.1 h with h | h
        · exact .inr (hbG b h).1
        · exact .inl (List.mem_append.2 (.inr (List.mem_append.2 (.inr h)))))
    (fun b hbl2 hbF hbg => by
      rw [Below.heap_setCell w1 _ _ b hbg]
      exact hbw.block b hbl2)
    (fun cur e hgc => by
      have hgc1 : w1.heap[g]? = some (.cells cur e (0, 0)) := hgb.trans hgc
      refine ⟨_, heap_setCell_same w1 g _ cur e _ hgc1, by simp, fun j hj => ?_, fun j hj => ?_⟩
      · by_cases hjf : j = f
        · subst hjf
          have hlt : i * Rep.sz α + j < cur.size := by
            have := hcell
            rw [cell_of_row w g _ cur e (0, 0) hgc] at this
            exact (Array.getElem?_eq_some_iff.1 this).1
          rw [Array.getElem?_setIfInBounds_self_of_lt hlt, List.getElem?_set_self (by omega)]
        · rw [Array.getElem?_setIfInBounds_ne (by omega), List.getElem?_set_ne (by omega)]
          have hjc : ce[j]? = some (ce[j]'(by omega)) := List.getElem?_eq_getElem _
          have := hcells j _ hjc
          rw [cell_of_row w g _ cur e (0, 0) hgc] at this
          rw [this, hjc]
      · rw [Array.getElem?_setIfInBounds_ne (by omega)])
  exact ⟨FF, hoF, hnF, fun b hbm => ⟨by
    rcases hFF b hbm with h | h
    · exact (hb b h).1
    · omega, Own.lt hoF b hbm⟩⟩
end
end Go.Vc
