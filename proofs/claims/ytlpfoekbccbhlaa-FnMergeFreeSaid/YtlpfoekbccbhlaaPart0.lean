/-
  Part, as data.
-/
import Derived.Test.YtlpfoekbccbhlaaTypes
import Derived.Test.YtlpfoekbccbhlaaVB
set_option linter.unusedVariables false
namespace Go.Vc
open Go.RowKit
open Rep (rd)
open Own (own)

structure Part where
  clash : Bool
  lines : List ByteArray
  old : List ByteArray
  one : List ByteArray
  two : List ByteArray
  deriving DecidableEq
instance repPart : Rep Part := Rep.via fun p => (p.clash, p.lines, p.old, p.one, p.two)
instance ownPart [Tid ByteArray] : Own Part := Own.via fun p => (p.clash, p.lines, p.old, p.one, p.two)
instance : Zr Part := ⟨⟨false, [], [], [], []⟩⟩
theorem rd_part {S : Nat → Prop} {w : World} {vs : List Value} {p : Part} (h : rd S w vs p) :
    ∃ a1 c1 a2 c2 a3 c3 a4 c4, vs = [.bool p.clash, .slice a1 p.lines.length c1, .slice a2 p.old.length c2, .slice a3 p.one.length c3, .slice a4 p.two.length c4] ∧
      IsSlice S w a1 c1 p.lines ∧ IsSlice S w a2 c2 p.old ∧ IsSlice S w a3 c3 p.one ∧ IsSlice S w a4 c4 p.two := by
  obtain ⟨_, _, rfl, rfl, _, _, rfl, ⟨a1, c1, rfl, h1⟩, _, _, rfl, ⟨a2, c2, rfl, h2⟩, _, _, rfl, ⟨a3, c3, rfl, h3⟩, a4, c4, rfl, h4⟩ := h
  exact ⟨a1, c1, a2, c2, a3, c3, a4, c4, rfl, h1, h2, h3, h4⟩
theorem IsSlice.part {S : Nat → Prop} {w : World} {a : Option Addr} {cap : Nat} {xs : List Part} (h : IsSlice S w a cap xs) {i : Nat} (hi : i < xs.length) :
    ∃ g off a1 c1 a2 c2 a3 c3 a4 c4, a = some ⟨g, off, none⟩ ∧ w.cell? ⟨g, off + i * 5, none⟩ = some (.bool xs[i].clash) ∧ w.cell? ⟨g, off + i * 5 + 1, none⟩ = some (.slice a1 xs[i].lines.length c1) ∧
      w.cell? ⟨g, off + i * 5 + 2, none⟩ = some (.slice a2 xs[i].old.length c2) ∧ w.cell? ⟨g, off + i * 5 + 3, none⟩ = some (.slice a3 xs[i].one.length c3) ∧ w.cell? ⟨g, off + i * 5 + 4, none⟩ = some (.slice a4 xs[i].two.length c4) ∧
      IsSlice S w a1 c1 xs[i].lines ∧ IsSlice S w a2 c2 xs[i].old ∧ IsSlice S w a3 c3 xs[i].one ∧ IsSlice S w a4 c4 xs[i].two := by
  obtain ⟨g, off, us, h1, _, h3, h4⟩ := h.elem hi
  obtain ⟨a1, c1, a2, c2, a3, c3, a4, c4, rfl, k1, k2, k3, k4⟩ := rd_part h4
  exact ⟨g, off, a1, c1, a2, c2, a3, c3, a4, c4, h1, h3 0 _ rfl, h3 1 _ rfl, h3 2 _ rfl, h3 3 _ rfl, h3 4 _ rfl, k1, k2, k3, k4⟩
section
variable [Tid ByteArray]
theorem own_nilS (w : World) : own [] w [.slice none 0 0] ([] : List ByteArray) := ⟨_, [], [], rfl, World.ownsRow_nil _ _ _ _, rfl, trivial, by decide⟩
theorem own_part0 (w : World) : own [] w [.bool false, .slice none 0 0, .slice none 0 0, .slice none 0 0, .slice none 0 0] (⟨false, [], [], [], []⟩ : Part) :=
  ⟨[_], [_, _, _, _], [], [], rfl, rfl, ⟨rfl, rfl⟩, [_], [_, _, _], [], [], rfl, rfl, own_nilS w, [_], [_, _], [], [], rfl, rfl, own_nilS w, [_], [_], [], [], rfl, rfl, own_nilS w, own_nilS w⟩
theorem Fresh.partL {B m : Nat} {w : World} {v : Value} {ls : List ByteArray} (h : Fresh B m w [v] ls) : Fresh B m w [.bool false, v, .slice none 0 0, .slice none 0 0, .slice none 0 0] (⟨false, ls, [], [], []⟩ : Part) := by
  have := Fresh.consL (show own [] w [.bool false] false from ⟨rfl, rfl⟩) (Fresh.snocL h (show own [] w [.slice none 0 0, .slice none 0 0, .slice none 0 0] (([], [], []) : List ByteArray × List ByteArray × List ByteArray) from
    ⟨[_], [_, _], [], [], rfl, rfl, own_nilS w, [_], [_], [], [], rfl, rfl, own_nilS w, own_nilS w⟩))
  exact this
theorem Fresh.partC {m0 m1 m2 m3 : Nat} {w : World} {v2 v3 v4 : Value} {old one two : List ByteArray} (h2 : Fresh m0 m1 w [v2] old) (h3 : Fresh m1 m2 w [v3] one) (h4 : Fresh m2 m3 w [v4] two) (o0 : m0 ≤ m1) (o1 : m1 ≤ m2) (o2 : m2 ≤ m3) :
    Fresh m0 m3 w [.bool true, .slice none 0 0, v2, v3, v4] (⟨true, [], old, one, two⟩ : Part) := by
  have := Fresh.consL (show own [] w [.bool true] true from ⟨rfl, rfl⟩) (Fresh.consL (own_nilS w) (Fresh.cat h2 (Fresh.cat h3 h4 o1 o2) o0 (Nat.le_trans o1 o2)))
  exact this
theorem lens_part_lines : Lens Part (List ByteArray) 1 (·.lines) (fun d y => ⟨d.clash, y, d.old, d.one, d.two⟩) := by
  have h := Lens.snd (α := Bool) (Lens.fst (β := List ByteArray × List ByteArray × List ByteArray) (lens_self (β := List ByteArray) rfl))
  exact ⟨h.1, fun F w c x h' => h.2 F w c (x.clash, x.lines, x.old, x.one, x.two) h'⟩
end
end Go.Vc
namespace Go.Proofs.Ytlpfoekbccbhlaa
open Go.RowKit Go.Vc
open Go.Vc.Rep (rd)
open Go.Vc.Own (own)

instance : Tid Part := ⟨45⟩
theorem info_part : (Try.prog.info? 45).map (fun i => (i.zero, i.size, i.bytes)) = some (some (.agg #[.bool false, .slice none 0 0, .slice none 0 0, .slice none 0 0, .slice none 0 0]), 5, 104) := by kernel_rfl
theorem slz_part : SlZ Try.prog 42 Part 104 (.agg #[.bool false, .slice none 0 0, .slice none 0 0, .slice none 0 0, .slice none 0 0]) := by
  obtain ⟨i, h1, h2, h3, h4⟩ := info_parts info_part
  exact ⟨Try.underlying42, ⟨i, h1, h2, h3, h4⟩, fun w => own_part0 w, by decide⟩
end Go.Proofs.Ytlpfoekbccbhlaa
