/-
  File, as data.
-/
import Derived.Test.YtlpfoekbccbhlaaTypes
import Derived.Test.YtlpfoekbccbhlaaVB
set_option linter.unusedVariables false
namespace Go.Vc
open Go.RowKit
open Rep (rd)
open Own (own)

structure File where
  path : ByteArray
  text : List ByteArray
  deriving DecidableEq
instance repFile : Rep File := Rep.via fun p => (p.path, p.text)
instance ownFile : Own File := Own.via fun p => (p.path, p.text)
instance : Zr File := ⟨⟨⟨#[]⟩, []⟩⟩
theorem rd_file {S : Nat → Prop} {w : World} {vs : List Value} {p : File} (h : rd S w vs p) :
    ∃ a1 c1, vs = [.string p.path, .slice a1 p.text.length c1] ∧ p.path.size ≤ maxLen ∧ IsSlice S w a1 c1 p.text := by
  obtain ⟨_, _, rfl, ⟨rfl, h0⟩, a1, c1, rfl, h1⟩ := h
  exact ⟨a1, c1, rfl, h0, h1⟩
theorem IsSlice.file {S : Nat → Prop} {w : World} {a : Option Addr} {cap : Nat} {xs : List File} (h : IsSlice S w a cap xs) {i : Nat} (hi : i < xs.length) :
    ∃ g off a1 c1, a = some ⟨g, off, none⟩ ∧ w.cell? ⟨g, off + i * 2, none⟩ = some (.string xs[i].path) ∧ w.cell? ⟨g, off + i * 2 + 1, none⟩ = some (.slice a1 xs[i].text.length c1) ∧ xs[i].path.size ≤ maxLen ∧ IsSlice S w a1 c1 xs[i].text := by
  obtain ⟨g, off, us, h1, _, h3, h4⟩ := h.elem hi
  obtain ⟨a1, c1, rfl, k0, k1⟩ := rd_file h4
  exact ⟨g, off, a1, c1, h1, h3 0 _ rfl, h3 1 _ rfl, k0, k1⟩
theorem Fresh.file {m0 m1 : Nat} {w : World} {v1 : Value} {p : File} (h0 : p.path.size ≤ maxLen) (h1 : Fresh m0 m1 w [v1] p.text) : Fresh m0 m1 w [.string p.path, v1] p := by
  have := Fresh.consL (show own [] w [.string p.path] p.path from ⟨rfl, rfl, h0⟩) (h1)
  exact this
theorem eq_file (d e : File) : d = e ↔ d.path = e.path ∧ d.text = e.text := by
  cases d; cases e; simp
theorem lens_file_path : Lens File (ByteArray) 0 (·.path) (fun d y => ⟨y, d.text⟩) := by
  have h := Lens.fst (β := List ByteArray) (lens_self (β := ByteArray) rfl)
  exact ⟨h.1, fun F w c x h' => h.2 F w c (x.path, x.text) h'⟩
theorem lens_file_text : Lens File (List ByteArray) 1 (·.text) (fun d y => ⟨d.path, y⟩) := by
  have h := Lens.snd (α := ByteArray) (lens_self (β := List ByteArray) rfl)
  exact ⟨h.1, fun F w c x h' => h.2 F w c (x.path, x.text) h'⟩
theorem opn_file {P : Program} {t : TypeId} {f0 f1 : Field} (ht : P.underlying t = some (.struct #[f0, f1])) (h0 : Opn P f0.type (ByteArray)) (h1 : Opn P f1.type (List ByteArray))
    (hc0 : P.cellsOf f0.type = 1) (hc1 : P.cellsOf f1.type = 1) (ho0 : f0.offset = 0) (ho1 : f1.offset = 1) (hct : P.cellsOf t = 2) : Opn P t File :=
  opn_struct2 File.mk (fun _ v0 v1 _ _ r0 r1 => ⟨v0, v1, rfl, r0, r1⟩) ht h0 h1 hc0 hc1 ho0 ho1 hct
end Go.Vc
namespace Go.Proofs.Ytlpfoekbccbhlaa
open Go.RowKit Go.Vc
open Go.Vc.Rep (rd)
open Go.Vc.Own (own)

end Go.Proofs.Ytlpfoekbccbhlaa
