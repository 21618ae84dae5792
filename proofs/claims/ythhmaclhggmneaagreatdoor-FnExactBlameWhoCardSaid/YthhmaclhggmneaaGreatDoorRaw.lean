/-
  Values of a slice that are cells of something else: the row is the call's own, what it points to is not. No program is in sight here.
-/
import Derived.Test.YthhmaclhggmneaaGreatDoorVB
set_option linter.unusedVariables false
namespace Go.Vc
open Go.RowKit
open Rep (rd)
open Own (own)
/-- the cells of a value of α, as they are -/
structure Raw (α : Type) [Rep α] where
  vs : List Value
  len : vs.length = Rep.sz α
  one : ∀ u ∈ vs, u.oneCell' = true
instance repRaw {α : Type} [Rep α] : Rep (Raw α) where
  sz := Rep.sz α
  rd := fun _ _ vs x => vs = x.vs
  len := fun {_ _ _ x} h => by rw [h]; exact x.len
  one := fun {_ _ _ x} h => by rw [h]; exact x.one
  frame := fun _ h => h
instance ownRaw {α : Type} [Rep α] : Own (Raw α) where
  own := fun F _ vs x => F = [] ∧ vs = x.vs
  rd_of := fun h => h.2
  oframe := fun _ h => h
  lt := fun h b hb => by rw [h.1] at hb; cases hb
instance {α : Type} [Rep α] : Leaf (Raw α) := ⟨fun h => ⟨rfl, h⟩, fun h => h.1⟩
instance tidRaw {α : Type} [Rep α] [Tid α] : Tid (Raw α) := ⟨Tid.tid α⟩
theorem SlT.raw {P : Program} {t : TypeId} {α : Type} [Rep α] [Tid α] {bytes : Nat} (h : SlT P t α bytes) : SlT P t (Raw α) bytes := ⟨h.ht, h.hi, h.pos⟩
/-- one by one -/
def All2 {α β : Type} (R : α → β → Prop) : List α → List β → Prop
  | [], [] => True
  | a :: aas, b :: bs => R a b ∧ All2 R aas bs
  | _, _ => False
section
variable {α β : Type} {R R' : α → β → Prop}
theorem All2.len : ∀ {aas : List α} {bs : List β}, All2 R aas bs → aas.length = bs.length
  | [], [], _ => rfl
  | _ :: _, _ :: _, h => by simp [All2.len h.2]
  | [], _ :: _, h => h.elim
  | _ :: _, [], h => h.elim
theorem All2.snoc : ∀ {aas : List α} {bs : List β} {a : α} {b : β}, All2 R aas bs → R a b → All2 R (aas ++ [a]) (bs ++ [b])
  | [], [], _, _, _, k => ⟨k, trivial⟩
  | _ :: _, _ :: _, _, _, h, k => ⟨h.1, All2.snoc h.2 k⟩
  | [], _ :: _, _, _, h, _ => h.elim
  | _ :: _, [], _, _, h, _ => h.elim
theorem All2.at : ∀ {aas : List α} {bs : List β}, All2 R aas bs → ∀ (i : Nat) (h : i < aas.length) (h' : i < bs.length), R aas[i] bs[i]
  | _ :: _, _ :: _, h, 0, _, _ => h.1
  | _ :: _, _ :: _, h, i + 1, h1, h2 => All2.at h.2 i (by simpa using h1) (by simpa using h2)
  | [], [], _, i, h1, _ => absurd h1 (by simp)
  | [], _ :: _, h, _, _, _ => h.elim
  | _ :: _, [], h, _, _, _ => h.elim
theorem All2.mono (hm : ∀ a b, R a b → R' a b) : ∀ {aas : List α} {bs : List β}, All2 R aas bs → All2 R' aas bs
  | [], [], _ => trivial
  | _ :: _, _ :: _, h => ⟨hm _ _ h.1, All2.mono hm h.2⟩
  | [], _ :: _, h => h.elim
  | _ :: _, [], h => h.elim
end
section
variable {α : Type} [Rep α] {S T : Nat → Prop} {w : World} {a : Option Addr} {cap : Nat}
theorem IsSlice.unraw {rs : List (Raw α)} {xs : List α} (h : IsSlice S w a cap rs) (h2 : All2 (fun r x => Rep.rd T w (Raw.vs r) x) rs xs) : IsSlice (fun b => S b ∨ T b) w a cap xs := by
  have hl := h2.len
  obtain ⟨h1, h3, h4⟩ := h
  refine ⟨by omega, h3, fun i hi => ?_⟩
  obtain ⟨g, off, us, ha, hg, hc, hr, hz⟩ := h4 i (by omega)
  have he : us = (rs[i]'(by omega)).vs := hr
  subst he
  exact ⟨g, off, _, ha, .inl hg, hc, Rep.mono (fun b hb => .inr hb) (h2.at i (by omega) hi), hz⟩
/-- a literal of one value -/
theorem lit_raw {g : Nat} {e : TypeId} {us : List Value} (h : w.heap[g]? = some (.cells us.toArray e (0, 0))) (hl : us.length = Rep.sz α) (ho : ∀ u ∈ us, u.oneCell' = true) (hz : 0 < Rep.sz α) :
    IsSlice (fun b => b = g) w (some ⟨g, 0, none⟩) 1 [(⟨us, hl, ho⟩ : Raw α)] := by
  refine ⟨by simp, by unfold maxLen; omega, fun i hi => ?_⟩
  obtain rfl : i = 0 := by simpa using hi
  refine ⟨g, 0, us, rfl, rfl, fun j u hu => ?_, rfl, hz⟩
  rw [cell_of_row _ _ _ _ _ (0, 0) h]
  simpa using hu
end
/-- the row's values, and what they read as -/
theorem Fresh.unraw {α : Type} [Rep α] [Tid α] {B m D : Nat} {w w' : World} {v : Value} {rs : List (Raw α)} {xs : List α} (h : Fresh B m w' [v] rs) (h2 : All2 (fun r x => Rep.rd (fun b => b < D) w (Raw.vs r) x) rs xs) (hD : D ≤ w.heap.size) (hb : Below w.heap.size w w') (hm : m ≤ w'.heap.size) :
    Rep.rd (fun b => b < w'.heap.size) w' [v] xs := by
  obtain ⟨a, cap, rfl, hs⟩ := rd_slice_elim h.rd2
  have hsz := hb.size
  have h3 : All2 (fun r x => Rep.rd (fun b => b < w'.heap.size) w' (Raw.vs r) x) rs xs := h2.mono fun r x hr => Rep.frame (fun b hb' hl => ⟨hb.block b (by omega), by omega⟩) hr
  have := hs.unraw h3
  rw [h2.len]
  exact (this.mono (fun b hb' => by rcases hb' with h | h; omega; exact h)).rd
end Go.Vc
