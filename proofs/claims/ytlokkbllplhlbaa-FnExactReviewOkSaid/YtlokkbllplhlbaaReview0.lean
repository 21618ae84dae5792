/-
  Review, as data.
-/
import Derived.Test.YtlokkbllplhlbaaTypes
import Derived.Test.YtlokkbllplhlbaaGen
set_option linter.unusedVariables false
namespace Go.Vc
open Go.RowKit
open Rep (rd)
open Own (own)

structure Review where
  branch : ByteArray
  into : ByteArray
  by_ : ByteArray
  yes : List ByteArray
  deriving DecidableEq
instance repReview : Rep Review := Rep.via fun p => (p.branch, p.into, p.by_, p.yes)
instance ownReview : Own Review := Own.via fun p => (p.branch, p.into, p.by_, p.yes)
instance : Zr Review := ⟨⟨⟨#[]⟩, ⟨#[]⟩, ⟨#[]⟩, []⟩⟩
theorem rd_review {S : Nat → Prop} {w : World} {vs : List Value} {p : Review} (h : rd S w vs p) :
    ∃ a3 c3, vs = [.string p.branch, .string p.into, .string p.by_, .slice a3 p.yes.length c3] ∧ p.branch.size ≤ maxLen ∧ p.into.size ≤ maxLen ∧ p.by_.size ≤ maxLen ∧ IsSlice S w a3 c3 p.yes := by
  obtain ⟨_, _, rfl, ⟨rfl, h0⟩, _, _, rfl, ⟨rfl, h1⟩, _, _, rfl, ⟨rfl, h2⟩, a3, c3, rfl, h3⟩ := h
  exact ⟨a3, c3, rfl, h0, h1, h2, h3⟩
theorem IsSlice.review {S : Nat → Prop} {w : World} {a : Option Addr} {cap : Nat} {xs : List Review} (h : IsSlice S w a cap xs) {i : Nat} (hi : i < xs.length) :
    ∃ g off a3 c3, a = some ⟨g, off, none⟩ ∧ w.cell? ⟨g, off + i * 4, none⟩ = some (.string xs[i].branch) ∧ w.cell? ⟨g, off + i * 4 + 1, none⟩ = some (.string xs[i].into) ∧ w.cell? ⟨g, off + i * 4 + 2, none⟩ = some (.string xs[i].by_) ∧ w.cell? ⟨g, off + i * 4 + 3, none⟩ = some (.slice a3 xs[i].yes.length c3) ∧ xs[i].branch.size ≤ maxLen ∧ xs[i].into.size ≤ maxLen ∧ xs[i].by_.size ≤ maxLen ∧ IsSlice S w a3 c3 xs[i].yes := by
  obtain ⟨g, off, us, h1, _, h3, h4⟩ := h.elem hi
  obtain ⟨a3, c3, rfl, k0, k1, k2, k3⟩ := rd_review h4
  exact ⟨g, off, a3, c3, h1, h3 0 _ rfl, h3 1 _ rfl, h3 2 _ rfl, h3 3 _ rfl, k0, k1, k2, k3⟩
theorem Fresh.review {m0 m1 : Nat} {w : World} {v3 : Value} {p : Review} (h0 : p.branch.size ≤ maxLen) (h1 : p.into.size ≤ maxLen) (h2 : p.by_.size ≤ maxLen) (h3 : Fresh m0 m1 w [v3] p.yes) : Fresh m0 m1 w [.string p.branch, .string p.into, .string p.by_, v3] p := by
  have := Fresh.consL (show own [] w [.string p.branch] p.branch from ⟨rfl, rfl, h0⟩) (Fresh.consL (show own [] w [.string p.into] p.into from ⟨rfl, rfl, h1⟩) (Fresh.consL (show own [] w [.string p.by_] p.by_ from ⟨rfl, rfl, h2⟩) (h3)))
  exact this
theorem eq_review (d e : Review) : d = e ↔ d.branch = e.branch ∧ d.into = e.into ∧ d.by_ = e.by_ ∧ d.yes = e.yes := by
  cases d; cases e; simp
theorem opn_review {P : Program} {t : TypeId} {f0 f1 f2 f3 : Field} (ht : P.underlying t = some (.struct #[f0, f1, f2, f3])) (h0 : Opn P f0.type (ByteArray)) (h1 : Opn P f1.type (ByteArray)) (h2 : Opn P f2.type (ByteArray)) (h3 : Opn P f3.type (List ByteArray))
    (hc0 : P.cellsOf f0.type = 1) (hc1 : P.cellsOf f1.type = 1) (hc2 : P.cellsOf f2.type = 1) (hc3 : P.cellsOf f3.type = 1) (ho0 : f0.offset = 0) (ho1 : f1.offset = 1) (ho2 : f2.offset = 2) (ho3 : f3.offset = 3) (hct : P.cellsOf t = 4) : Opn P t Review :=
  opn_struct4 Review.mk (fun _ v0 v1 v2 v3 _ _ _ _ r0 r1 r2 r3 => ⟨v0, v1 ++ (v2 ++ (v3)), rfl, r0, v1, v2 ++ (v3), rfl, r1, v2, v3, rfl, r2, r3⟩) ht h0 h1 h2 h3 hc0 hc1 hc2 hc3 ho0 ho1 ho2 ho3 hct
end Go.Vc
namespace Go.Proofs.Ytlokkbllplhlbaa
open Go.RowKit Go.Vc
open Go.Vc.Rep (rd)
open Go.Vc.Own (own)

instance : Tid Review := ⟨27⟩
theorem opn_lawReview : Opn Try.prog 24 Review := opn_review Try.underlying24 (opn_str Try.underlying9) (opn_str Try.underlying9) (opn_str Try.underlying9) opn_strS (by kernel_rfl) (by kernel_rfl) (by kernel_rfl) (by kernel_rfl) rfl rfl rfl rfl (by kernel_rfl)
end Go.Proofs.Ytlokkbllplhlbaa
