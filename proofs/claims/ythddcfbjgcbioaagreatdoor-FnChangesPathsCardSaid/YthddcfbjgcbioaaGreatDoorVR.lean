/-
  Values of a slice that are cells of something else: the row is the call's own, what it points to is not. No program is in sight here. / A file's row. No program is in sight here. / An own row, its elements' own data aside; a text of an own tree written. No program is in sight here.
-/
import Derived.Test.YthddcfbjgcbioaaGreatDoorVB
import Derived.Test.YthddcfbjgcbioaaGreatDoorVC
import Derived.Test.YthddcfbjgcbioaaGreatDoorVL
set_option linter.unusedVariables false
namespace Go.Vc
open Go.RowKit
open Rep (rd)
open Own (own)
/-- the cells of a value of α, as they are -/
structure Raw (α : Type) [Rep α] where
  vs : List Value
  len : vs.length = Rep.sz α
  one : ∀ u ∈ vs, u.oneCell' = true
instance repRaw {α : Type} [Rep α] : Rep (Raw α) where
  sz := Rep.sz α
  rd := fun _ _ vs x => vs = x.vs
  len := fun {_ _ _ x} h => by rw [h]; exact x.len
  one := fun {_ _ _ x} h => by rw [h]; exact x.one
  frame := fun _ h => h
instance ownRaw {α : Type} [Rep α] : Own (Raw α) where
  own := fun F _ vs x => F = [] ∧ vs = x.vs
  rd_of := fun h => h.2
  oframe := fun _ h => h
  lt := fun h b hb => by rw [h.1] at hb; cases hb
instance {α : Type} [Rep α] : Leaf (Raw α) := ⟨fun h => ⟨rfl, h⟩, fun h => h.1⟩
instance tidRaw {α : Type} [Rep α] [Tid α] : Tid (Raw α) := ⟨Tid.tid α⟩
theorem SlT.raw {P : Program} {t : TypeId} {α : Type} [Rep α] [Tid α] {bytes : Nat} (h : SlT P t α bytes) : SlT P t (Raw α) bytes := ⟨h.ht, h.hi, h.pos⟩
/-- one by one -/
def All2 {α β : Type} (R : α → β → Prop) : List α → List β → Prop
  | [], [] => True
  | a :: aas, b :: bs => R a b ∧ All2 R aas bs
  | _, _ => False
section
variable {α β : Type} {R R' : α → β → Prop}
theorem All2.len : ∀ {aas : List α} {bs : List β}, All2 R aas bs → aas.length = bs.length
  | [], [], _ => rfl
  | _ :: _, _ :: _, h => by simp [All2.len h.2]
  | [], _ :: _, h => h.elim
  | _ :: _, [], h => h.elim
theorem All2.snoc : ∀ {aas : List α} {bs : List β} {a : α} {b : β}, All2 R aas bs → R a b → All2 R (aas ++ [a]) (bs ++ [b])
  | [], [], _, _, _, k => ⟨k, trivial⟩
  | _ :: _, _ :: _, _, _, h, k => ⟨h.1, All2.snoc h.2 k⟩
  | [], _ :: _, _, _, h, _ => h.elim
  | _ :: _, [], _, _, h, _ => h.elim
theorem All2.at : ∀ {aas : List α} {bs : List β}, All2 R aas bs → ∀ (i : Nat) (h : i < aas.length) (h' : i < bs.length), R aas[i] bs[i]
  | _ :: _, _ :: _, h, 0, _, _ => h.1
  | _ :: _, _ :: _, h, i + 1, h1, h2 => All2.at h.2 i (by simpa using h1) (by simpa using h2)
  | [], [], _, i, h1, _ => absurd h1 (by simp)
  | [], _ :: _, h, _, _, _ => h.elim
  | _ :: _, [], h, _, _, _ => h.elim
theorem All2.mono (hm : ∀ a b, R a b → R' a b) : ∀ {aas : List α} {bs : List β}, All2 R aas bs → All2 R' aas bs
  | [], [], _ => trivial
  | _ :: _, _ :: _, h => ⟨hm _ _ h.1, All2.mono hm h.2⟩
  | [], _ :: _, h => h.elim
  | _ :: _, [], h => h.elim
end
section
variable {α : Type} [Rep α] {S T : Nat → Prop} {w : World} {a : Option Addr} {cap : Nat}
theorem IsSlice.unraw {rs : List (Raw α)} {xs : List α} (h : IsSlice S w a cap rs) (h2 : All2 (fun r x => Rep.rd T w (Raw.vs r) x) rs xs) : IsSlice (fun b => S b ∨ T b) w a cap xs := by
  have hl := h2.len
  obtain ⟨h1, h3, h4⟩ := h
  refine ⟨by omega, h3, fun i hi => ?_⟩
  obtain ⟨g, off, us, ha, hg, hc, hr, hz⟩ := h4 i (by omega)
  have he : us = (rs[i]'(by omega)).vs := hr
  subst he
  exact ⟨g, off, _, ha, .inl hg, hc, Rep.mono (fun b hb => .inr hb) (h2.at i (by omega) hi), hz⟩
/-- a literal of one value -/
theorem lit_raw {g : Nat} {e : TypeId} {us : List Value} (h : w.heap[g]? = some (.cells us.toArray e (0, 0))) (hl : us.length = Rep.sz α) (ho : ∀ u ∈ us, u.oneCell' = true) (hz : 0 < Rep.sz α) :
    IsSlice (fun b => b = g) w (some ⟨g, 0, none⟩) 1 [(⟨us, hl, ho⟩ : Raw α)] := by
  refine ⟨by simp, by unfold maxLen; omega, fun i hi => ?_⟩
  obtain rfl : i = 0 := by simpa using hi
  refine ⟨g, 0, us, rfl, rfl, fun j u hu => ?_, rfl, hz⟩
  rw [cell_of_row _ _ _ _ _ (0, 0) h]
  simpa using hu
end
/-- the row's values, and what they read as -/
theorem Fresh.unraw {α : Type} [Rep α] [Tid α] {B m D : Nat} {w w' : World} {v : Value} {rs : List (Raw α)} {xs : List α} (h : Fresh B m w' [v] rs) (h2 : All2 (fun r x => Rep.rd (fun b => b < D) w (Raw.vs r) x) rs xs) (hD : D ≤ w.heap.size) (hb : Below w.heap.size w w') (hm : m ≤ w'.heap.size) :
    Rep.rd (fun b => b < w'.heap.size) w' [v] xs := by
  obtain ⟨a, cap, rfl, hs⟩ := rd_slice_elim h.rd2
  have hsz := hb.size
  have h3 : All2 (fun r x => Rep.rd (fun b => b < w'.heap.size) w' (Raw.vs r) x) rs xs := h2.mono fun r x hr => Rep.frame (fun b hb' hl => ⟨hb.block b (by omega), by omega⟩) hr
  have := hs.unraw h3
  rw [h2.len]
  exact (this.mono (fun b hb' => by rcases hb' with h | h; omega; exact h)).rd
end Go.Vc
namespace Go.Vc
open Go.RowKit
open Rep (rd)
open Own (own)
theorem rd_file_mk {S : Nat → Prop} {w : World} {f : File} {a1 : Option Addr} {c1 : Nat} (h : f.path.size ≤ maxLen) (hs : IsSlice S w a1 c1 f.text) : rd S w [.string f.path, .slice a1 f.text.length c1] f := ⟨[_], [_], rfl, ⟨rfl, h⟩, hs.rd⟩
theorem one_cells2 (s : ByteArray) (a : Option Addr) (n c : Nat) : ∀ u ∈ [Value.string s, .slice a n c], u.oneCell' = true := by
  intro u hu
  simp at hu
  rcases hu with rfl | rfl <;> rfl
end Go.Vc
namespace Go.Vc
open Go.RowKit
open Rep (rd)
open Own (own)
theorem rawAll {α : Type} [Own α] {w : World} : ∀ {Fs : List (List Nat)} {cs : List (List Value)} {xs : List α}, ownAll w Fs cs xs →
    ∃ rs : List (Raw α), rs.length = xs.length ∧ All2 (fun (r : Raw α) x => Rep.rd (fun b => b ∈ Fs.flatten) w (Raw.vs r) x) rs xs ∧ ownAll w (List.replicate rs.length []) cs rs
  | [], [], [], _ => ⟨[], rfl, trivial, trivial⟩
  | F :: Fs, c :: cs, x :: xs, h => by
    obtain ⟨h1, h2⟩ := h
    obtain ⟨rs, k1, k2, k3⟩ := rawAll h2
    have hr := Own.rd_of h1
    refine ⟨⟨c, Rep.len hr, Rep.one hr⟩ :: rs, by simp [k1], ⟨Rep.mono (fun b hb => List.mem_flatten.2 ⟨F, List.mem_cons_self .., hb⟩) hr, k2.mono fun r x h => Rep.mono (fun b hb => ?_) h⟩, ⟨⟨rfl, rfl⟩, k3⟩⟩
    rw [List.flatten_cons]
    exact List.mem_append.2 (.inr hb)
  | [], _ :: _, _, h => by cases h
  | [], [], _ :: _, h => by cases h
  | _ :: _, [], _, h => by cases h
  | _ :: _, _ :: _, [], h => by cases h
theorem Fresh.toRaw {α : Type} [Own α] [Tid α] {B m : Nat} {w : World} {v : Value} {xs : List α} (h : Fresh B m w [v] xs) :
    ∃ (H : Nat → Prop) (rs : List (Raw α)), rs.length = xs.length ∧ FreshX H B m w [v] rs ∧ All2 (fun (r : Raw α) x => Rep.rd H w (Raw.vs r) x) rs xs ∧ ∀ b, H b → B ≤ b ∧ b < m ∧ b < w.heap.size := by
  obtain ⟨F, ⟨v', cs, Fs, hv, hrow, rfl, hall, hz⟩, hn, hb⟩ := h
  simp at hv
  subst hv
  obtain ⟨rs, k1, k2, k3⟩ := rawAll hall
  obtain ⟨n1, n2, n3⟩ := List.nodup_append.1 hn
  refine ⟨fun b => b ∈ Fs.flatten, rs, k1, ⟨v.ownBlock.toList ++ (List.replicate rs.length ([] : List Nat)).flatten, ⟨v, cs, List.replicate rs.length [], rfl, ?_, rfl, k3, hz⟩, ?_, ?_, ?_⟩, k2, fun b h => ?_⟩
  · rw [k1]; exact hrow
  · rw [flatten_replicate_nil, List.append_nil]; exact n1
  · intro b h
    rw [flatten_replicate_nil, List.append_nil] at h
    exact hb b (List.mem_append.2 (.inl h))
  · intro b h h2
    rw [flatten_replicate_nil, List.append_nil] at h
    exact n3 b h b h2 rfl
  · have := hb b (List.mem_append.2 (.inr h))
    exact ⟨this.1, this.2, hall.lt b h⟩
theorem Fresh.setText {B m m' : Nat} {w : World} {g n cap : Nat} {xs : List File} (h : Fresh B m w [.slice (some ⟨g, 0, none⟩) n cap] xs) {k : Nat} (hk : k < xs.length)
    (hc : w.cell? ⟨g, k * 2, none⟩ = some (.string xs[k].path)) (hp : xs[k].path.size ≤ maxLen) {u : Value} {y : List ByteArray} (hy : Fresh m m' w [u] y) (hBm : B ≤ m) :
    Fresh B (w.setCell ⟨g, k * 2 + 1, none⟩ u).heap.size (w.setCell ⟨g, k * 2 + 1, none⟩ u) [.slice (some ⟨g, 0, none⟩) n cap] (xs.set k ⟨xs[k].path, y⟩) := by
  refine h.set hk (fun cur e hg => ?_) (fun b hb _ => Below.heap_setCell w _ u b hb) (Fresh.file (p := ⟨xs[k].path, y⟩) hp hy) hBm
  rw [heap_setCell_same w g (k * 2 + 1) cur e u hg]
  have h1 : cur[k * 2]? = some (.string xs[k].path) := by rw [← hc, cell_of_row w g _ cur e (0, 0) hg]
  have h2 : cur.setIfInBounds (k * 2) (.string xs[k].path) = cur := by
    apply Array.ext_getElem?
    intro j
    by_cases hj : k * 2 = j
    · subst hj
      rw [Array.getElem?_setIfInBounds_self_of_lt (Array.getElem?_eq_some_iff.1 h1).1, h1]
    · rw [Array.getElem?_setIfInBounds_ne (by omega)]
  show some (Obj.cells (cur.setIfInBounds (k * 2 + 1) u) e (0, 0)) = some (Obj.cells ((cur.setIfInBounds (k * 2) (.string xs[k].path)).setIfInBounds (k * 2 + 1) u) e (0, 0))
  rw [h2]
end Go.Vc
