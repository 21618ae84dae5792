/-
  Structs: a struct's cells are its fields' cells, one behind the other. No program is in sight here.
-/
import Derived.Test.YtlokkbllplhlbaaOwn2
import Derived.Test.YtlokkbllplhlbaaPlain
namespace Go.Vc
open Go.RowKit
open Rep (rd)
open Own (own)

instance repProd {α β : Type} [Rep α] [Rep β] : Rep (α × β) where
  sz := Rep.sz α + Rep.sz β
  rd := fun S w vs x => ∃ v1 v2, vs = v1 ++ v2 ∧ rd S w v1 x.1 ∧ rd S w v2 x.2
  len := fun ⟨v1, v2, h, h1, h2⟩ => by rw [h, List.length_append, Rep.len h1, Rep.len h2]
  one := fun ⟨v1, v2, h, h1, h2⟩ u hu => by
    rw [h] at hu
    rcases List.mem_append.1 hu with hu | hu
    · exact Rep.one h1 u hu
    · exact Rep.one h2 u hu
  frame := fun hf ⟨v1, v2, h, h1, h2⟩ => ⟨v1, v2, h, Rep.frame hf h1, Rep.frame hf h2⟩

instance ownProd {α β : Type} [Own α] [Own β] : Own (α × β) where
  own := fun F w vs x => ∃ v1 v2 F1 F2, vs = v1 ++ v2 ∧ F = F1 ++ F2 ∧ own F1 w v1 x.1 ∧ own F2 w v2 x.2
  rd_of := fun ⟨v1, v2, F1, F2, h, hF, h1, h2⟩ => by
    subst hF
    exact ⟨v1, v2, h, Rep.mono (fun b hb => List.mem_append.2 (.inl hb)) (Own.rd_of h1), Rep.mono (fun b hb => List.mem_append.2 (.inr hb)) (Own.rd_of h2)⟩
  oframe := fun hf ⟨v1, v2, F1, F2, h, hF, h1, h2⟩ => by
    subst hF
    exact ⟨v1, v2, F1, F2, h, rfl, Own.oframe (fun b hb => hf b (List.mem_append.2 (.inl hb))) h1, Own.oframe (fun b hb => hf b (List.mem_append.2 (.inr hb))) h2⟩
  lt := fun ⟨v1, v2, F1, F2, h, hF, h1, h2⟩ b hb => by
    subst hF
    rcases List.mem_append.1 hb with hb | hb
    · exact Own.lt h1 b hb
    · exact Own.lt h2 b hb

instance {α β : Type} [Own α] [Own β] [Leaf α] [Leaf β] : Leaf (α × β) :=
  ⟨fun ⟨v1, v2, h, h1, h2⟩ => ⟨v1, v2, [], [], h, rfl, Leaf.of_rd h1, Leaf.of_rd h2⟩, fun ⟨_, _, F1, F2, _, hF, h1, h2⟩ => by rw [hF, Leaf.none h1, Leaf.none h2]; rfl⟩

/-- a struct, by its fields as a tuple -/
@[reducible] def Rep.via {σ τ : Type} [Rep τ] (f : σ → τ) : Rep σ where
  sz := Rep.sz τ
  rd := fun S w vs x => rd S w vs (f x)
  len := fun h => Rep.len h
  one := fun h => Rep.one h
  frame := fun hf h => Rep.frame hf h
@[reducible] def Own.via {σ τ : Type} [Own τ] (f : σ → τ) : Own σ where
  toRep := Rep.via f
  own := fun F w vs x => own F w vs (f x)
  rd_of := fun h => Own.rd_of (α := τ) h
  oframe := fun hf h => Own.oframe (α := τ) hf h
  lt := fun h => Own.lt (α := τ) h

structure Delta where
  fr : Int
  many : Int
  lines : List ByteArray
  deriving DecidableEq
instance repDelta : Rep Delta := Rep.via fun d => (d.fr, d.many, d.lines)
instance ownDelta [Tid ByteArray] : Own Delta := Own.via fun d => (d.fr, d.many, d.lines)
instance : Zr Delta := ⟨⟨0, 0, []⟩⟩

theorem rd_delta {S : Nat → Prop} {w : World} {vs : List Value} {d : Delta} (h : rd S w vs d) :
    ∃ a cap, vs = [.int .i64 d.fr, .int .i64 d.many, .slice a d.lines.length cap] ∧ I64 d.fr ∧ I64 d.many ∧ IsSlice S w a cap d.lines := by
  obtain ⟨_, _, rfl, ⟨rfl, h1⟩, _, _, rfl, ⟨rfl, h2⟩, a, cap, rfl, h3⟩ := h
  exact ⟨a, cap, rfl, h1, h2, h3⟩
theorem rd_delta_mk {S : Nat → Prop} {w : World} {v : Value} {d : Delta} (h1 : I64 d.fr) (h2 : I64 d.many) (h3 : rd S w [v] d.lines) : rd S w [.int .i64 d.fr, .int .i64 d.many, v] d :=
  ⟨[_], [_, _], rfl, ⟨rfl, h1⟩, [_], [_], rfl, ⟨rfl, h2⟩, h3⟩
theorem IsSlice.delta {S : Nat → Prop} {w : World} {a : Option Addr} {cap : Nat} {xs : List Delta} (h : IsSlice S w a cap xs) {i : Nat} (hi : i < xs.length) :
    ∃ g off b n, a = some ⟨g, off, none⟩ ∧ w.cell? ⟨g, off + i * 3, none⟩ = some (.int .i64 xs[i].fr) ∧ w.cell? ⟨g, off + i * 3 + 1, none⟩ = some (.int .i64 xs[i].many) ∧
      w.cell? ⟨g, off + i * 3 + 2, none⟩ = some (.slice b xs[i].lines.length n) ∧ I64 xs[i].fr ∧ I64 xs[i].many ∧ IsSlice S w b n xs[i].lines := by
  obtain ⟨g, off, us, h1, _, h3, h4⟩ := h.elem hi
  obtain ⟨b, n, rfl, h5, h6, h7⟩ := rd_delta h4
  exact ⟨g, off, b, n, h1, h3 0 _ rfl, h3 1 _ rfl, h3 2 _ rfl, h5, h6, h7⟩
theorem Fresh.delta [Tid ByteArray] {B m : Nat} {w : World} {v : Value} {d : Delta} (h : Fresh B m w [v] d.lines) (h1 : I64 d.fr) (h2 : I64 d.many) : Fresh B m w [.int .i64 d.fr, .int .i64 d.many, v] d := by
  obtain ⟨F, ho, r⟩ := h
  exact ⟨F, ⟨[_], [_, _], [], F, rfl, rfl, ⟨rfl, rfl, h1⟩, [_], [_], [], F, rfl, rfl, ⟨rfl, rfl, h2⟩, ho⟩, r⟩
end Go.Vc
