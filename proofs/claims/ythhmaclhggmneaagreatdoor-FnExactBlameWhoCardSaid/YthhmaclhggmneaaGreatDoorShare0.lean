/-
  Share, as data.
-/
import Derived.Test.YthhmaclhggmneaaGreatDoorTypes
import Derived.Test.YthhmaclhggmneaaGreatDoorVB
set_option linter.unusedVariables false
namespace Go.Vc
open Go.RowKit
open Rep (rd)
open Own (own)

structure Share where
  who : ByteArray
  many : Int
  deriving DecidableEq
instance repShare : Rep Share := Rep.via fun p => (p.who, p.many)
instance ownShare : Own Share := Own.via fun p => (p.who, p.many)
instance leafShare : Leaf Share := ⟨fun h => Leaf.of_rd (α := ByteArray × Int) h, fun h => Leaf.none (α := ByteArray × Int) h⟩
instance : Zr Share := ⟨⟨⟨#[]⟩, 0⟩⟩
theorem rd_share {S : Nat → Prop} {w : World} {vs : List Value} {p : Share} (h : rd S w vs p) :
    vs = [.string p.who, .int .i64 p.many] ∧ p.who.size ≤ maxLen ∧ I64 p.many := by
  obtain ⟨_, _, rfl, ⟨rfl, h0⟩, rfl, h1⟩ := h
  exact ⟨rfl, h0, h1⟩
theorem IsSlice.share {S : Nat → Prop} {w : World} {a : Option Addr} {cap : Nat} {xs : List Share} (h : IsSlice S w a cap xs) {i : Nat} (hi : i < xs.length) :
    ∃ g off , a = some ⟨g, off, none⟩ ∧ w.cell? ⟨g, off + i * 2, none⟩ = some (.string xs[i].who) ∧ w.cell? ⟨g, off + i * 2 + 1, none⟩ = some (.int .i64 xs[i].many) ∧ xs[i].who.size ≤ maxLen ∧ I64 xs[i].many := by
  obtain ⟨g, off, us, h1, _, h3, h4⟩ := h.elem hi
  obtain ⟨rfl, k0, k1⟩ := rd_share h4
  exact ⟨g, off, h1, h3 0 _ rfl, h3 1 _ rfl, k0, k1⟩
theorem own_share {w : World} {p : Share} (h0 : p.who.size ≤ maxLen) (h1 : I64 p.many) : own [] w [.string p.who, .int .i64 p.many] p := ⟨[_], [_], [], [], rfl, rfl, ⟨rfl, rfl, h0⟩, ⟨rfl, rfl, h1⟩⟩
theorem eq_share (d e : Share) : d = e ↔ d.who = e.who ∧ d.many = e.many := by
  cases d; cases e; simp
theorem lens_share_who : Lens Share (ByteArray) 0 (·.who) (fun d y => ⟨y, d.many⟩) := by
  have h := Lens.fst (β := Int) (lens_self (β := ByteArray) rfl)
  exact ⟨h.1, fun F w c x h' => h.2 F w c (x.who, x.many) h'⟩
theorem lens_share_many : Lens Share (Int) 1 (·.many) (fun d y => ⟨d.who, y⟩) := by
  have h := Lens.snd (α := ByteArray) (lens_self (β := Int) rfl)
  exact ⟨h.1, fun F w c x h' => h.2 F w c (x.who, x.many) h'⟩
theorem opn_share {P : Program} {t : TypeId} {f0 f1 : Field} (ht : P.underlying t = some (.struct #[f0, f1])) (h0 : Opn P f0.type (ByteArray)) (h1 : Opn P f1.type (Int))
    (hc0 : P.cellsOf f0.type = 1) (hc1 : P.cellsOf f1.type = 1) (ho0 : f0.offset = 0) (ho1 : f1.offset = 1) (hct : P.cellsOf t = 2) : Opn P t Share :=
  opn_struct2 Share.mk (fun _ v0 v1 _ _ r0 r1 => ⟨v0, v1, rfl, r0, r1⟩) ht h0 h1 hc0 hc1 ho0 ho1 hct
end Go.Vc
namespace Go.Proofs.YthhmaclhggmneaaGreatDoor
open Go.RowKit Go.Vc
open Go.Vc.Rep (rd)
open Go.Vc.Own (own)

instance : Tid Share := ⟨47⟩
theorem info_share : (Tryz.prog.info? 47).map (fun i => (i.zero, i.size, i.bytes)) = some (some (.agg #[.string ⟨#[]⟩, .int .i64 0]), 2, 24) := by kernel_rfl
theorem slz_share : SlZ Tryz.prog 27 Share 24 (.agg #[.string ⟨#[]⟩, .int .i64 0]) := by
  obtain ⟨i, h1, h2, h3, h4⟩ := info_parts info_share
  exact ⟨Tryz.underlying27, ⟨i, h1, h2, h3, h4⟩, fun w => ⟨[_], [_], [], [], rfl, rfl, ⟨rfl, rfl, Nat.zero_le _⟩, rfl, rfl, i64_zero⟩, by decide⟩
end Go.Proofs.YthhmaclhggmneaaGreatDoor
