/-
  Packed, as data.
-/
import Derived.Test.YtjfhbepnomnalaaTypes
import Derived.Test.YtjfhbepnomnalaaGen
import Derived.Test.YtjfhbepnomnalaaTypesD
set_option linter.unusedVariables false
namespace Go.Vc
open Go.RowKit
open Rep (rd)
open Own (own)

structure Packed where
  base : Int
  pcs : List Delta
  deriving DecidableEq
instance repPacked : Rep Packed := Rep.via fun p => (p.base, p.pcs)
instance ownPacked : Own Packed := Own.via fun p => (p.base, p.pcs)
instance : Zr Packed := ⟨⟨0, []⟩⟩
theorem rd_packed {S : Nat → Prop} {w : World} {vs : List Value} {p : Packed} (h : rd S w vs p) :
    ∃ a1 c1, vs = [.int .i64 p.base, .slice a1 p.pcs.length c1] ∧ I64 p.base ∧ IsSlice S w a1 c1 p.pcs := by
  obtain ⟨_, _, rfl, ⟨rfl, h0⟩, a1, c1, rfl, h1⟩ := h
  exact ⟨a1, c1, rfl, h0, h1⟩
theorem IsSlice.packed {S : Nat → Prop} {w : World} {a : Option Addr} {cap : Nat} {xs : List Packed} (h : IsSlice S w a cap xs) {i : Nat} (hi : i < xs.length) :
    ∃ g off a1 c1, a = some ⟨g, off, none⟩ ∧ w.cell? ⟨g, off + i * 2, none⟩ = some (.int .i64 xs[i].base) ∧ w.cell? ⟨g, off + i * 2 + 1, none⟩ = some (.slice a1 xs[i].pcs.length c1) ∧ I64 xs[i].base ∧ IsSlice S w a1 c1 xs[i].pcs := by
  obtain ⟨g, off, us, h1, _, h3, h4⟩ := h.elem hi
  obtain ⟨a1, c1, rfl, k0, k1⟩ := rd_packed h4
  exact ⟨g, off, a1, c1, h1, h3 0 _ rfl, h3 1 _ rfl, k0, k1⟩
theorem Fresh.packed {m0 m1 : Nat} {w : World} {v1 : Value} {p : Packed} (h0 : I64 p.base) (h1 : Fresh m0 m1 w [v1] p.pcs) : Fresh m0 m1 w [.int .i64 p.base, v1] p := by
  have := Fresh.consL (show own [] w [.int .i64 p.base] p.base from ⟨rfl, rfl, h0⟩) (h1)
  exact this
theorem eq_packed (d e : Packed) : d = e ↔ d.base = e.base ∧ d.pcs = e.pcs := by
  cases d; cases e; simp
theorem lens_packed_base : Lens Packed (Int) 0 (·.base) (fun d y => ⟨y, d.pcs⟩) := by
  have h := Lens.fst (β := List Delta) (lens_self (β := Int) rfl)
  exact ⟨h.1, fun F w c x h' => h.2 F w c (x.base, x.pcs) h'⟩
theorem lens_packed_pcs : Lens Packed (List Delta) 1 (·.pcs) (fun d y => ⟨d.base, y⟩) := by
  have h := Lens.snd (α := Int) (lens_self (β := List Delta) rfl)
  exact ⟨h.1, fun F w c x h' => h.2 F w c (x.base, x.pcs) h'⟩
theorem opn_packed {P : Program} {t : TypeId} {f0 f1 : Field} (ht : P.underlying t = some (.struct #[f0, f1])) (h0 : Opn P f0.type (Int)) (h1 : Opn P f1.type (List Delta))
    (hc0 : P.cellsOf f0.type = 1) (hc1 : P.cellsOf f1.type = 1) (ho0 : f0.offset = 0) (ho1 : f1.offset = 1) (hct : P.cellsOf t = 2) : Opn P t Packed :=
  opn_struct2 Packed.mk (fun _ v0 v1 _ _ r0 r1 => ⟨v0, v1, rfl, r0, r1⟩) ht h0 h1 hc0 hc1 ho0 ho1 hct
end Go.Vc
namespace Go.Proofs.Ytjfhbepnomnalaa
open Go.RowKit Go.Vc
open Go.Vc.Rep (rd)
open Go.Vc.Own (own)

instance : Tid Packed := ⟨58⟩
theorem info_packed : (Try.prog.info? 58).map (fun i => (i.zero, i.size, i.bytes)) = some (some (.agg #[.int .i64 0, .slice none 0 0]), 2, 32) := by kernel_rfl
theorem slz_packed : SlZ Try.prog 50 Packed 32 (.agg #[.int .i64 0, .slice none 0 0]) := by
  obtain ⟨i, h1, h2, h3, h4⟩ := info_parts info_packed
  exact ⟨Try.underlying50, ⟨i, h1, h2, h3, h4⟩, fun w => ⟨[_], [_], [], [], rfl, rfl, ⟨rfl, rfl, i64_zero⟩, _, [], [], rfl, World.ownsRow_nil _ _ _ _, rfl, trivial, by decide⟩, by decide⟩
theorem opn_lawPacked : Opn Try.prog 86 Packed := opn_packed Try.underlying86 (opn_int Try.underlying3) opn_lawDeltaS (by kernel_rfl) (by kernel_rfl) rfl rfl (by kernel_rfl)
theorem opn_lawPackedS : Opn Try.prog 47 (List Packed) := opn_slice Try.underlying47 opn_lawPacked (by kernel_rfl) (by decide)
end Go.Proofs.Ytjfhbepnomnalaa
