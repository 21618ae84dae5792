/-
  A boxed variable that owns what it holds. No program is in sight here.
-/
import Derived.Test.YthhmaclhggmneaaDoorVFS
set_option linter.unusedVariables false
namespace Go.Vc
open Go.RowKit
open Rep (rd)
open Own (own)

/-- a variable in memory -/
structure Box (α : Type) where
  val : α
instance repBox {α : Type} [Rep α] : Rep (Box α) where
  sz := 1
  rd := fun S w vs x => ∃ b cs e, vs = [.pointer (some ⟨b, 0, none⟩)] ∧ S b ∧ w.heap[b]? = some (.cells (List.toArray cs) e (0, 0)) ∧ rd S w cs x.val
  len := fun ⟨_, _, _, h, _⟩ => by rw [h]; rfl
  one := fun ⟨_, _, _, h, _⟩ => by rw [h]; intro u hu; simp at hu; rw [hu]; rfl
  frame := fun h ⟨b, cs, e, hv, hs, hh, hr⟩ => by
    have hl := (Array.getElem?_eq_some_iff.1 hh).1
    exact ⟨b, cs, e, hv, (h b hs hl).2, by rw [(h b hs hl).1]; exact hh, Rep.frame h hr⟩
instance ownBox {α : Type} [Own α] : Own (Box α) where
  own := fun F w vs x => ∃ b cs e G, vs = [.pointer (some ⟨b, 0, none⟩)] ∧ w.heap[b]? = some (.cells (List.toArray cs) e (0, 0)) ∧ own G w cs x.val ∧ F = b :: G
  rd_of := fun ⟨b, cs, e, G, hv, hh, ho, hF⟩ => ⟨b, cs, e, hv, by rw [hF]; simp, hh, Rep.mono (fun k hk => by rw [hF]; simp [hk]) (Own.rd_of ho)⟩
  oframe := fun h ⟨b, cs, e, G, hv, hh, ho, hF⟩ => ⟨b, cs, e, G, hv, by rw [h b (by rw [hF]; simp)]; exact hh, Own.oframe (fun k hk => h k (by rw [hF]; simp [hk])) ho, hF⟩
  lt := fun ⟨b, cs, e, G, hv, hh, ho, hF⟩ k hk => by
    rw [hF] at hk
    rcases List.mem_cons.1 hk with rfl | hk
    · exact (Array.getElem?_eq_some_iff.1 hh).1
    · exact Own.lt ho k hk

section
variable {α : Type} [Own α] {w : World} {B m b : Nat} {x : α}
/-- what a boxed variable holds -/
theorem Fresh.unbox (h : Fresh B m w [.pointer (some ⟨b, 0, none⟩)] (⟨x⟩ : Box α)) : ∃ cs e, w.heap[b]? = some (.cells (List.toArray cs) e (0, 0)) ∧ Fresh B m w cs x ∧ B ≤ b ∧ b < m := by
  obtain ⟨F, ⟨b', cs, e, G, hv, hh, ho, rfl⟩, hn, hb⟩ := h
  simp at hv
  subst hv
  exact ⟨cs, e, hh, ⟨G, ho, (List.nodup_cons.1 hn).2, fun k hk => hb k (by simp [hk])⟩, hb b (by simp)⟩
theorem Fresh.box {cs : List Value} {e : TypeId} (h : Fresh B m w cs x) (hB : B ≤ w.heap.size) : Fresh B (w.heap.size + 1) (w.alloc (.cells (List.toArray cs) e)) [.pointer (some ⟨w.heap.size, 0, none⟩)] (⟨x⟩ : Box α) := by
  obtain ⟨G, ho, hn, hb⟩ := h
  have hl := Own.lt ho
  refine ⟨w.heap.size :: G, ⟨w.heap.size, cs, e, G, rfl, heap_alloc_new _ _, Own.oframe (fun k hk => Below.heap_alloc w _ k (hl k hk)) ho, rfl⟩, List.nodup_cons.2 ⟨fun hm => ?_, hn⟩, fun k hk => ?_⟩
  · have := hl _ hm; omega
  · rcases List.mem_cons.1 hk with rfl | hk
    · omega
    · have := hl k hk
      exact ⟨(hb k hk).1, by omega⟩
/-- a boxed variable set -/
theorem Fresh.setbox {m' : Nat} {y : α} {d : List Value} (h : Fresh B m w [.pointer (some ⟨b, 0, none⟩)] (⟨x⟩ : Box α)) (hy : Fresh m m' w d y) (hB : B ≤ m) :
    Fresh B w.heap.size (setCellsAt w b 0 d) [.pointer (some ⟨b, 0, none⟩)] (⟨y⟩ : Box α) := by
  obtain ⟨cs, e, hh, hx, hb1, hb2⟩ := h.unbox
  obtain ⟨F, ho, _, _⟩ := hx
  obtain ⟨G, go, gn, gb⟩ := hy
  have l1 := Rep.len (Own.rd_of ho)
  have l2 := Rep.len (Own.rd_of go)
  have hset : (setAll cs.toArray 0 d) = d.toArray := by
    apply Array.ext'
    rw [setAll_toList _ _ _ (by simp; omega)]
    simp
    omega
  have hbG : b ∉ G := fun hm => by have := gb b hm; omega
  have hlt := (Array.getElem?_eq_some_iff.1 hh).1
  refine ⟨b :: G, ⟨b, d, e, G, rfl, ?_, Own.oframe (fun k hk => setCellsAt_rest b k (fun e => hbG (e ▸ hk)) d w 0) go, rfl⟩, List.nodup_cons.2 ⟨hbG, gn⟩, fun k hk => ?_⟩
  · have := setCellsAt_heap b d w 0 _ _ hh
    rw [hset] at this
    exact this
  · rcases List.mem_cons.1 hk with rfl | hk
    · exact ⟨hb1, hlt⟩
    · have := gb k hk
      have := Own.lt go k hk
      omega
end
end Go.Vc
