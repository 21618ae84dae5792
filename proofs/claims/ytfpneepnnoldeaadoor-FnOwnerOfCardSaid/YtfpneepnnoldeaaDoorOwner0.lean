/-
  Owner, as data.
-/
import Derived.Test.YtfpneepnnoldeaaDoorTypes
import Derived.Test.YtfpneepnnoldeaaDoorVB
set_option linter.unusedVariables false
namespace Go.Vc
open Go.RowKit
open Rep (rd)
open Own (own)

structure Owner where
  path : ByteArray
  who : ByteArray
  deriving DecidableEq
instance repOwner : Rep Owner := Rep.via fun p => (p.path, p.who)
instance ownOwner : Own Owner := Own.via fun p => (p.path, p.who)
instance leafOwner : Leaf Owner := ⟨fun h => Leaf.of_rd (α := ByteArray × ByteArray) h, fun h => Leaf.none (α := ByteArray × ByteArray) h⟩
instance : Zr Owner := ⟨⟨⟨#[]⟩, ⟨#[]⟩⟩⟩
theorem rd_owner {S : Nat → Prop} {w : World} {vs : List Value} {p : Owner} (h : rd S w vs p) :
    vs = [.string p.path, .string p.who] ∧ p.path.size ≤ maxLen ∧ p.who.size ≤ maxLen := by
  obtain ⟨_, _, rfl, ⟨rfl, h0⟩, rfl, h1⟩ := h
  exact ⟨rfl, h0, h1⟩
theorem IsSlice.owner {S : Nat → Prop} {w : World} {a : Option Addr} {cap : Nat} {xs : List Owner} (h : IsSlice S w a cap xs) {i : Nat} (hi : i < xs.length) :
    ∃ g off , a = some ⟨g, off, none⟩ ∧ w.cell? ⟨g, off + i * 2, none⟩ = some (.string xs[i].path) ∧ w.cell? ⟨g, off + i * 2 + 1, none⟩ = some (.string xs[i].who) ∧ xs[i].path.size ≤ maxLen ∧ xs[i].who.size ≤ maxLen := by
  obtain ⟨g, off, us, h1, _, h3, h4⟩ := h.elem hi
  obtain ⟨rfl, k0, k1⟩ := rd_owner h4
  exact ⟨g, off, h1, h3 0 _ rfl, h3 1 _ rfl, k0, k1⟩
theorem own_owner {w : World} {p : Owner} (h0 : p.path.size ≤ maxLen) (h1 : p.who.size ≤ maxLen) : own [] w [.string p.path, .string p.who] p := ⟨[_], [_], [], [], rfl, rfl, ⟨rfl, rfl, h0⟩, ⟨rfl, rfl, h1⟩⟩
theorem eq_owner (d e : Owner) : d = e ↔ d.path = e.path ∧ d.who = e.who := by
  cases d; cases e; simp
theorem lens_owner_path : Lens Owner (ByteArray) 0 (·.path) (fun d y => ⟨y, d.who⟩) := by
  have h := Lens.fst (β := ByteArray) (lens_self (β := ByteArray) rfl)
  exact ⟨h.1, fun F w c x h' => h.2 F w c (x.path, x.who) h'⟩
theorem lens_owner_who : Lens Owner (ByteArray) 1 (·.who) (fun d y => ⟨d.path, y⟩) := by
  have h := Lens.snd (α := ByteArray) (lens_self (β := ByteArray) rfl)
  exact ⟨h.1, fun F w c x h' => h.2 F w c (x.path, x.who) h'⟩
theorem opn_owner {P : Program} {t : TypeId} {f0 f1 : Field} (ht : P.underlying t = some (.struct #[f0, f1])) (h0 : Opn P f0.type (ByteArray)) (h1 : Opn P f1.type (ByteArray))
    (hc0 : P.cellsOf f0.type = 1) (hc1 : P.cellsOf f1.type = 1) (ho0 : f0.offset = 0) (ho1 : f1.offset = 1) (hct : P.cellsOf t = 2) : Opn P t Owner :=
  opn_struct2 Owner.mk (fun _ v0 v1 _ _ r0 r1 => ⟨v0, v1, rfl, r0, r1⟩) ht h0 h1 hc0 hc1 ho0 ho1 hct
end Go.Vc
namespace Go.Proofs.YtfpneepnnoldeaaDoor
open Go.RowKit Go.Vc
open Go.Vc.Rep (rd)
open Go.Vc.Own (own)

instance : Tid Owner := ⟨30⟩
theorem info_owner : (Tryd.prog.info? 30).map (fun i => (i.zero, i.size, i.bytes)) = some (some (.agg #[.string ⟨#[]⟩, .string ⟨#[]⟩]), 2, 32) := by kernel_rfl
theorem slz_owner : SlZ Tryd.prog 23 Owner 32 (.agg #[.string ⟨#[]⟩, .string ⟨#[]⟩]) := by
  obtain ⟨i, h1, h2, h3, h4⟩ := info_parts info_owner
  exact ⟨Tryd.underlying23, ⟨i, h1, h2, h3, h4⟩, fun w => ⟨[_], [_], [], [], rfl, rfl, ⟨rfl, rfl, Nat.zero_le _⟩, rfl, rfl, Nat.zero_le _⟩, by decide⟩
end Go.Proofs.YtfpneepnnoldeaaDoor
