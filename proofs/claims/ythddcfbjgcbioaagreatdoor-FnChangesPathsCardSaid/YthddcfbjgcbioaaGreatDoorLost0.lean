/-
  Lost, as data.
-/
import Derived.Test.YthddcfbjgcbioaaGreatDoorVTY
import Derived.Test.YthddcfbjgcbioaaGreatDoorVB
set_option linter.unusedVariables false
namespace Go.Vc
open Go.RowKit
open Rep (rd)
open Own (own)

structure Lost where
  path : ByteArray
  line : Int
  ref : ByteArray
  deriving DecidableEq
instance repLost : Rep Lost := Rep.via fun p => (p.path, p.line, p.ref)
instance ownLost : Own Lost := Own.via fun p => (p.path, p.line, p.ref)
instance leafLost : Leaf Lost := ⟨fun h => Leaf.of_rd (α := ByteArray × Int × ByteArray) h, fun h => Leaf.none (α := ByteArray × Int × ByteArray) h⟩
instance : Zr Lost := ⟨⟨⟨#[]⟩, 0, ⟨#[]⟩⟩⟩
theorem rd_lost {S : Nat → Prop} {w : World} {vs : List Value} {p : Lost} (h : rd S w vs p) :
    vs = [.string p.path, .int .i64 p.line, .string p.ref] ∧ p.path.size ≤ maxLen ∧ I64 p.line ∧ p.ref.size ≤ maxLen := by
  obtain ⟨_, _, rfl, ⟨rfl, h0⟩, _, _, rfl, ⟨rfl, h1⟩, rfl, h2⟩ := h
  exact ⟨rfl, h0, h1, h2⟩
theorem IsSlice.lost {S : Nat → Prop} {w : World} {a : Option Addr} {cap : Nat} {xs : List Lost} (h : IsSlice S w a cap xs) {i : Nat} (hi : i < xs.length) :
    ∃ g off , a = some ⟨g, off, none⟩ ∧ w.cell? ⟨g, off + i * 3, none⟩ = some (.string xs[i].path) ∧ w.cell? ⟨g, off + i * 3 + 1, none⟩ = some (.int .i64 xs[i].line) ∧ w.cell? ⟨g, off + i * 3 + 2, none⟩ = some (.string xs[i].ref) ∧ xs[i].path.size ≤ maxLen ∧ I64 xs[i].line ∧ xs[i].ref.size ≤ maxLen := by
  obtain ⟨g, off, us, h1, _, h3, h4⟩ := h.elem hi
  obtain ⟨rfl, k0, k1, k2⟩ := rd_lost h4
  exact ⟨g, off, h1, h3 0 _ rfl, h3 1 _ rfl, h3 2 _ rfl, k0, k1, k2⟩
theorem own_lost {w : World} {p : Lost} (h0 : p.path.size ≤ maxLen) (h1 : I64 p.line) (h2 : p.ref.size ≤ maxLen) : own [] w [.string p.path, .int .i64 p.line, .string p.ref] p := ⟨[_], [_, _], [], [], rfl, rfl, ⟨rfl, rfl, h0⟩, ⟨[_], [_], [], [], rfl, rfl, ⟨rfl, rfl, h1⟩, ⟨rfl, rfl, h2⟩⟩⟩
theorem eq_lost (d e : Lost) : d = e ↔ d.path = e.path ∧ d.line = e.line ∧ d.ref = e.ref := by
  cases d; cases e; simp
theorem lens_lost_path : Lens Lost (ByteArray) 0 (·.path) (fun d y => ⟨y, d.line, d.ref⟩) := by
  have h := Lens.fst (β := Int × ByteArray) (lens_self (β := ByteArray) rfl)
  exact ⟨h.1, fun F w c x h' => h.2 F w c (x.path, x.line, x.ref) h'⟩
theorem lens_lost_line : Lens Lost (Int) 1 (·.line) (fun d y => ⟨d.path, y, d.ref⟩) := by
  have h := Lens.snd (α := ByteArray) (Lens.fst (β := ByteArray) (lens_self (β := Int) rfl))
  exact ⟨h.1, fun F w c x h' => h.2 F w c (x.path, x.line, x.ref) h'⟩
theorem lens_lost_to : Lens Lost (ByteArray) 2 (·.ref) (fun d y => ⟨d.path, d.line, y⟩) := by
  have h := Lens.snd (α := ByteArray) (Lens.snd (α := Int) (lens_self (β := ByteArray) rfl))
  exact ⟨h.1, fun F w c x h' => h.2 F w c (x.path, x.line, x.ref) h'⟩
theorem opn_lost {P : Program} {t : TypeId} {f0 f1 f2 : Field} (ht : P.underlying t = some (.struct #[f0, f1, f2])) (h0 : Opn P f0.type (ByteArray)) (h1 : Opn P f1.type (Int)) (h2 : Opn P f2.type (ByteArray))
    (hc0 : P.cellsOf f0.type = 1) (hc1 : P.cellsOf f1.type = 1) (hc2 : P.cellsOf f2.type = 1) (ho0 : f0.offset = 0) (ho1 : f1.offset = 1) (ho2 : f2.offset = 2) (hct : P.cellsOf t = 3) : Opn P t Lost :=
  opn_struct3 Lost.mk (fun _ v0 v1 v2 _ _ _ r0 r1 r2 => ⟨v0, v1 ++ (v2), rfl, r0, v1, v2, rfl, r1, r2⟩) ht h0 h1 h2 hc0 hc1 hc2 ho0 ho1 ho2 hct
end Go.Vc
namespace Go.Proofs.YthddcfbjgcbioaaGreatDoor
open Go.RowKit Go.Vc
open Go.Vc.Rep (rd)
open Go.Vc.Own (own)

end Go.Proofs.YthddcfbjgcbioaaGreatDoor
