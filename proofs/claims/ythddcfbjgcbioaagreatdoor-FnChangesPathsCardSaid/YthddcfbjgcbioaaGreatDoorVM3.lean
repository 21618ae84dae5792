/-
  Cuts of a text, the bounds as the code has them. / Walks: the differences of two texts.
-/
import Derived.Test.YthddcfbjgcbioaaGreatDoorVI
import Derived.Test.YthddcfbjgcbioaaGreatDoorVB
import Derived.Test.YthddcfbjgcbioaaGreatDoorVP2
import Derived.Test.YthddcfbjgcbioaaGreatDoorVMT
import Derived.Test.YthddcfbjgcbioaaGreatDoorWCopy
import Derived.Test.YthddcfbjgcbioaaGreatDoorVL
set_option linter.unusedVariables false
namespace Go.Proofs.YthddcfbjgcbioaaGreatDoor
open Go.RowKit Go.Vc
open Go.Vc.Rep (rd)
open Go.Vc.Own (own)
/-- s[f:h], the bounds integers that are not negative -/
theorem cut_int (a : Option Addr) (n cap : Nat) (f m : Int) (hf : 0 ≤ f) (hm : 0 ≤ m) (h : f + m ≤ n) (hc : n ≤ cap) (w : World) :
    (Instr.slice 29 (.slice a n cap) (some (.int .i64 f)) (some (.int .i64 (f + m))) none).run Tryz.prog w = .ok (.slice (cutA a cap f.toNat 1) m.toNat (cap - f.toNat)) w := by
  have := run_cut2 slz_string.slt a n cap f.toNat (f + m).toNat (by omega) (by omega) w
  rw [Int.toNat_of_nonneg hf, Int.toNat_of_nonneg (by omega : 0 ≤ f + m)] at this
  rw [show (f + m).toNat - f.toNat = m.toNat by omega] at this
  exact this
/-- s[f:h] of numbers -/
theorem cut_nat (a : Option Addr) (n cap f h : Nat) (h1 : f ≤ h) (h2 : h ≤ n) (hc : n ≤ cap) (w : World) :
    (Instr.slice 29 (.slice a n cap) (some (.int .i64 f)) (some (.int .i64 h)) none).run Tryz.prog w = .ok (.slice (cutA a cap f 1) (h - f) (cap - f)) w :=
  run_cut2 slz_string.slt a n cap f h h1 (by omega) w
/-- s[f:] -/
theorem cut_from (a : Option Addr) (n cap f : Nat) (h1 : f ≤ n) (w : World) :
    (Instr.slice 29 (.slice a n cap) (some (.int .i64 f)) none none).run Tryz.prog w = .ok (.slice (cutA a cap f 1) (n - f) (cap - f)) w :=
  run_cut slz_string.slt a n cap f h1 w
theorem cutS {S : Nat → Prop} {w : World} {a : Option Addr} {cap : Nat} {xs : List ByteArray} (h : IsSlice S w a cap xs) {f : Nat} (hf : f ≤ xs.length) : IsSlice S w (cutA a cap f 1) (cap - f) (xs.drop f) := h.cut (k := f) hf
/-- lines f to i of a text, as a value -/
theorem cut_rd {B : Nat} {w : World} {a : Option Addr} {cap : Nat} {xs : List ByteArray} (h : IsSlice (fun b => b < B) w a cap xs) {f i : Nat} (h1 : f ≤ i) (h2 : i ≤ xs.length) : rd (fun b => b < B) w [.slice (cutA a cap f 1) (i - f) (cap - f)] (cutF xs f i) := by
  have := ((cutS h (f := f) (by omega)).take (i - f)).rd
  rw [show ((xs.drop f).take (i - f)).length = i - f by simp; omega] at this
  exact this
end Go.Proofs.YthddcfbjgcbioaaGreatDoor
namespace Go.Proofs.YthddcfbjgcbioaaGreatDoor
open Go.RowKit Go.Vc
open Go.Vc.Rep (rd)
open Go.Vc.Own (own)

end Go.Proofs.YthddcfbjgcbioaaGreatDoor
