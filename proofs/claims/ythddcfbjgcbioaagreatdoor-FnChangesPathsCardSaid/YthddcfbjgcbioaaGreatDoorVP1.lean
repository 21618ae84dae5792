/-
  Hunk, as data. / Part, as data. / Clash, as data.
-/
import Derived.Test.YthddcfbjgcbioaaGreatDoorVTY
import Derived.Test.YthddcfbjgcbioaaGreatDoorVB
set_option linter.unusedVariables false
namespace Go.Vc
open Go.RowKit
open Rep (rd)
open Own (own)

structure Hunk where
  at_ : Int
  less : List ByteArray
  more : List ByteArray
  deriving DecidableEq
instance repHunk : Rep Hunk := Rep.via fun p => (p.at_, p.less, p.more)
instance ownHunk : Own Hunk := Own.via fun p => (p.at_, p.less, p.more)
instance : Zr Hunk := ⟨⟨0, [], []⟩⟩
theorem rd_hunk {S : Nat → Prop} {w : World} {vs : List Value} {p : Hunk} (h : rd S w vs p) :
    ∃ a1 c1 a2 c2, vs = [.int .i64 p.at_, .slice a1 p.less.length c1, .slice a2 p.more.length c2] ∧ I64 p.at_ ∧ IsSlice S w a1 c1 p.less ∧ IsSlice S w a2 c2 p.more := by
  obtain ⟨_, _, rfl, ⟨rfl, h0⟩, _, _, rfl, ⟨a1, c1, rfl, h1⟩, a2, c2, rfl, h2⟩ := h
  exact ⟨a1, c1, a2, c2, rfl, h0, h1, h2⟩
theorem IsSlice.hunk {S : Nat → Prop} {w : World} {a : Option Addr} {cap : Nat} {xs : List Hunk} (h : IsSlice S w a cap xs) {i : Nat} (hi : i < xs.length) :
    ∃ g off a1 c1 a2 c2, a = some ⟨g, off, none⟩ ∧ w.cell? ⟨g, off + i * 3, none⟩ = some (.int .i64 xs[i].at_) ∧ w.cell? ⟨g, off + i * 3 + 1, none⟩ = some (.slice a1 xs[i].less.length c1) ∧ w.cell? ⟨g, off + i * 3 + 2, none⟩ = some (.slice a2 xs[i].more.length c2) ∧ I64 xs[i].at_ ∧ IsSlice S w a1 c1 xs[i].less ∧ IsSlice S w a2 c2 xs[i].more := by
  obtain ⟨g, off, us, h1, _, h3, h4⟩ := h.elem hi
  obtain ⟨a1, c1, a2, c2, rfl, k0, k1, k2⟩ := rd_hunk h4
  exact ⟨g, off, a1, c1, a2, c2, h1, h3 0 _ rfl, h3 1 _ rfl, h3 2 _ rfl, k0, k1, k2⟩
theorem Fresh.hunk {m0 m1 m2 : Nat} {w : World} {v1 v2 : Value} {p : Hunk} (h0 : I64 p.at_) (h1 : Fresh m0 m1 w [v1] p.less) (h2 : Fresh m1 m2 w [v2] p.more) (o0 : m0 ≤ m1) (o1 : m1 ≤ m2) : Fresh m0 m2 w [.int .i64 p.at_, v1, v2] p := by
  have := Fresh.consL (show own [] w [.int .i64 p.at_] p.at_ from ⟨rfl, rfl, h0⟩) (Fresh.cat h1 (h2) o0 (o1))
  exact this
theorem eq_hunk (d e : Hunk) : d = e ↔ d.at_ = e.at_ ∧ d.less = e.less ∧ d.more = e.more := by
  cases d; cases e; simp
theorem lens_hunk_at_ : Lens Hunk (Int) 0 (·.at_) (fun d y => ⟨y, d.less, d.more⟩) := by
  have h := Lens.fst (β := List ByteArray × List ByteArray) (lens_self (β := Int) rfl)
  exact ⟨h.1, fun F w c x h' => h.2 F w c (x.at_, x.less, x.more) h'⟩
theorem lens_hunk_less : Lens Hunk (List ByteArray) 1 (·.less) (fun d y => ⟨d.at_, y, d.more⟩) := by
  have h := Lens.snd (α := Int) (Lens.fst (β := List ByteArray) (lens_self (β := List ByteArray) rfl))
  exact ⟨h.1, fun F w c x h' => h.2 F w c (x.at_, x.less, x.more) h'⟩
theorem lens_hunk_more : Lens Hunk (List ByteArray) 2 (·.more) (fun d y => ⟨d.at_, d.less, y⟩) := by
  have h := Lens.snd (α := Int) (Lens.snd (α := List ByteArray) (lens_self (β := List ByteArray) rfl))
  exact ⟨h.1, fun F w c x h' => h.2 F w c (x.at_, x.less, x.more) h'⟩
theorem opn_hunk {P : Program} {t : TypeId} {f0 f1 f2 : Field} (ht : P.underlying t = some (.struct #[f0, f1, f2])) (h0 : Opn P f0.type (Int)) (h1 : Opn P f1.type (List ByteArray)) (h2 : Opn P f2.type (List ByteArray))
    (hc0 : P.cellsOf f0.type = 1) (hc1 : P.cellsOf f1.type = 1) (hc2 : P.cellsOf f2.type = 1) (ho0 : f0.offset = 0) (ho1 : f1.offset = 1) (ho2 : f2.offset = 2) (hct : P.cellsOf t = 3) : Opn P t Hunk :=
  opn_struct3 Hunk.mk (fun _ v0 v1 v2 _ _ _ r0 r1 r2 => ⟨v0, v1 ++ (v2), rfl, r0, v1, v2, rfl, r1, r2⟩) ht h0 h1 h2 hc0 hc1 hc2 ho0 ho1 ho2 hct
end Go.Vc
namespace Go.Proofs.YthddcfbjgcbioaaGreatDoor
open Go.RowKit Go.Vc
open Go.Vc.Rep (rd)
open Go.Vc.Own (own)

instance : Tid Hunk := ⟨73⟩
theorem info_hunk : (Tryz.prog.info? 73).map (fun i => (i.zero, i.size, i.bytes)) = some (some (.agg #[.int .i64 0, .slice none 0 0, .slice none 0 0]), 3, 56) := by kernel_rfl
theorem slz_hunk : SlZ Tryz.prog 47 Hunk 56 (.agg #[.int .i64 0, .slice none 0 0, .slice none 0 0]) := by
  obtain ⟨i, h1, h2, h3, h4⟩ := info_parts info_hunk
  exact ⟨Tryz.underlying47, ⟨i, h1, h2, h3, h4⟩, fun w => ⟨[_], [_, _], [], [], rfl, rfl, ⟨rfl, rfl, i64_zero⟩, [_], [_], [], [], rfl, rfl, ⟨_, [], [], rfl, World.ownsRow_nil _ _ _ _, rfl, trivial, by decide⟩, _, [], [], rfl, World.ownsRow_nil _ _ _ _, rfl, trivial, by decide⟩, by decide⟩
end Go.Proofs.YthddcfbjgcbioaaGreatDoor
namespace Go.Vc
open Go.RowKit
open Rep (rd)
open Own (own)

structure Part where
  clash : Bool
  lines : List ByteArray
  old : List ByteArray
  one : List ByteArray
  two : List ByteArray
  deriving DecidableEq
instance repPart : Rep Part := Rep.via fun p => (p.clash, p.lines, p.old, p.one, p.two)
instance ownPart [Tid ByteArray] : Own Part := Own.via fun p => (p.clash, p.lines, p.old, p.one, p.two)
instance : Zr Part := ⟨⟨false, [], [], [], []⟩⟩
theorem rd_part {S : Nat → Prop} {w : World} {vs : List Value} {p : Part} (h : rd S w vs p) :
    ∃ a1 c1 a2 c2 a3 c3 a4 c4, vs = [.bool p.clash, .slice a1 p.lines.length c1, .slice a2 p.old.length c2, .slice a3 p.one.length c3, .slice a4 p.two.length c4] ∧
      IsSlice S w a1 c1 p.lines ∧ IsSlice S w a2 c2 p.old ∧ IsSlice S w a3 c3 p.one ∧ IsSlice S w a4 c4 p.two := by
  obtain ⟨_, _, rfl, rfl, _, _, rfl, ⟨a1, c1, rfl, h1⟩, _, _, rfl, ⟨a2, c2, rfl, h2⟩, _, _, rfl, ⟨a3, c3, rfl, h3⟩, a4, c4, rfl, h4⟩ := h
  exact ⟨a1, c1, a2, c2, a3, c3, a4, c4, rfl, h1, h2, h3, h4⟩
theorem IsSlice.part {S : Nat → Prop} {w : World} {a : Option Addr} {cap : Nat} {xs : List Part} (h : IsSlice S w a cap xs) {i : Nat} (hi : i < xs.length) :
    ∃ g off a1 c1 a2 c2 a3 c3 a4 c4, a = some ⟨g, off, none⟩ ∧ w.cell? ⟨g, off + i * 5, none⟩ = some (.bool xs[i].clash) ∧ w.cell? ⟨g, off + i * 5 + 1, none⟩ = some (.slice a1 xs[i].lines.length c1) ∧
      w.cell? ⟨g, off + i * 5 + 2, none⟩ = some (.slice a2 xs[i].old.length c2) ∧ w.cell? ⟨g, off + i * 5 + 3, none⟩ = some (.slice a3 xs[i].one.length c3) ∧ w.cell? ⟨g, off + i * 5 + 4, none⟩ = some (.slice a4 xs[i].two.length c4) ∧
      IsSlice S w a1 c1 xs[i].lines ∧ IsSlice S w a2 c2 xs[i].old ∧ IsSlice S w a3 c3 xs[i].one ∧ IsSlice S w a4 c4 xs[i].two := by
  obtain ⟨g, off, us, h1, _, h3, h4⟩ := h.elem hi
  obtain ⟨a1, c1, a2, c2, a3, c3, a4, c4, rfl, k1, k2, k3, k4⟩ := rd_part h4
  exact ⟨g, off, a1, c1, a2, c2, a3, c3, a4, c4, h1, h3 0 _ rfl, h3 1 _ rfl, h3 2 _ rfl, h3 3 _ rfl, h3 4 _ rfl, k1, k2, k3, k4⟩
section
variable [Tid ByteArray]
theorem own_nilS (w : World) : own [] w [.slice none 0 0] ([] : List ByteArray) := ⟨_, [], [], rfl, World.ownsRow_nil _ _ _ _, rfl, trivial, by decide⟩
theorem own_part0 (w : World) : own [] w [.bool false, .slice none 0 0, .slice none 0 0, .slice none 0 0, .slice none 0 0] (⟨false, [], [], [], []⟩ : Part) :=
  ⟨[_], [_, _, _, _], [], [], rfl, rfl, ⟨rfl, rfl⟩, [_], [_, _, _], [], [], rfl, rfl, own_nilS w, [_], [_, _], [], [], rfl, rfl, own_nilS w, [_], [_], [], [], rfl, rfl, own_nilS w, own_nilS w⟩
theorem Fresh.partL {B m : Nat} {w : World} {v : Value} {ls : List ByteArray} (h : Fresh B m w [v] ls) : Fresh B m w [.bool false, v, .slice none 0 0, .slice none 0 0, .slice none 0 0] (⟨false, ls, [], [], []⟩ : Part) := by
  have := Fresh.consL (show own [] w [.bool false] false from ⟨rfl, rfl⟩) (Fresh.snocL h (show own [] w [.slice none 0 0, .slice none 0 0, .slice none 0 0] (([], [], []) : List ByteArray × List ByteArray × List ByteArray) from
    ⟨[_], [_, _], [], [], rfl, rfl, own_nilS w, [_], [_], [], [], rfl, rfl, own_nilS w, own_nilS w⟩))
  exact this
theorem Fresh.partC {m0 m1 m2 m3 : Nat} {w : World} {v2 v3 v4 : Value} {old one two : List ByteArray} (h2 : Fresh m0 m1 w [v2] old) (h3 : Fresh m1 m2 w [v3] one) (h4 : Fresh m2 m3 w [v4] two) (o0 : m0 ≤ m1) (o1 : m1 ≤ m2) (o2 : m2 ≤ m3) :
    Fresh m0 m3 w [.bool true, .slice none 0 0, v2, v3, v4] (⟨true, [], old, one, two⟩ : Part) := by
  have := Fresh.consL (show own [] w [.bool true] true from ⟨rfl, rfl⟩) (Fresh.consL (own_nilS w) (Fresh.cat h2 (Fresh.cat h3 h4 o1 o2) o0 (Nat.le_trans o1 o2)))
  exact this
theorem lens_part_lines : Lens Part (List ByteArray) 1 (·.lines) (fun d y => ⟨d.clash, y, d.old, d.one, d.two⟩) := by
  have h := Lens.snd (α := Bool) (Lens.fst (β := List ByteArray × List ByteArray × List ByteArray) (lens_self (β := List ByteArray) rfl))
  exact ⟨h.1, fun F w c x h' => h.2 F w c (x.clash, x.lines, x.old, x.one, x.two) h'⟩
end
end Go.Vc
namespace Go.Proofs.YthddcfbjgcbioaaGreatDoor
open Go.RowKit Go.Vc
open Go.Vc.Rep (rd)
open Go.Vc.Own (own)

end Go.Proofs.YthddcfbjgcbioaaGreatDoor
namespace Go.Vc
open Go.RowKit
open Rep (rd)
open Own (own)

structure Clash where
  path : ByteArray
  kind : Int
  deriving DecidableEq
instance repClash : Rep Clash := Rep.via fun p => (p.path, p.kind)
instance ownClash : Own Clash := Own.via fun p => (p.path, p.kind)
instance leafClash : Leaf Clash := ⟨fun h => Leaf.of_rd (α := ByteArray × Int) h, fun h => Leaf.none (α := ByteArray × Int) h⟩
instance : Zr Clash := ⟨⟨⟨#[]⟩, 0⟩⟩
theorem rd_clash {S : Nat → Prop} {w : World} {vs : List Value} {p : Clash} (h : rd S w vs p) :
    vs = [.string p.path, .int .i64 p.kind] ∧ p.path.size ≤ maxLen ∧ I64 p.kind := by
  obtain ⟨_, _, rfl, ⟨rfl, h0⟩, rfl, h1⟩ := h
  exact ⟨rfl, h0, h1⟩
theorem IsSlice.clash {S : Nat → Prop} {w : World} {a : Option Addr} {cap : Nat} {xs : List Clash} (h : IsSlice S w a cap xs) {i : Nat} (hi : i < xs.length) :
    ∃ g off , a = some ⟨g, off, none⟩ ∧ w.cell? ⟨g, off + i * 2, none⟩ = some (.string xs[i].path) ∧ w.cell? ⟨g, off + i * 2 + 1, none⟩ = some (.int .i64 xs[i].kind) ∧ xs[i].path.size ≤ maxLen ∧ I64 xs[i].kind := by
  obtain ⟨g, off, us, h1, _, h3, h4⟩ := h.elem hi
  obtain ⟨rfl, k0, k1⟩ := rd_clash h4
  exact ⟨g, off, h1, h3 0 _ rfl, h3 1 _ rfl, k0, k1⟩
theorem own_clash {w : World} {p : Clash} (h0 : p.path.size ≤ maxLen) (h1 : I64 p.kind) : own [] w [.string p.path, .int .i64 p.kind] p := ⟨[_], [_], [], [], rfl, rfl, ⟨rfl, rfl, h0⟩, ⟨rfl, rfl, h1⟩⟩
theorem eq_clash (d e : Clash) : d = e ↔ d.path = e.path ∧ d.kind = e.kind := by
  cases d; cases e; simp
theorem lens_clash_path : Lens Clash (ByteArray) 0 (·.path) (fun d y => ⟨y, d.kind⟩) := by
  have h := Lens.fst (β := Int) (lens_self (β := ByteArray) rfl)
  exact ⟨h.1, fun F w c x h' => h.2 F w c (x.path, x.kind) h'⟩
theorem lens_clash_kind : Lens Clash (Int) 1 (·.kind) (fun d y => ⟨d.path, y⟩) := by
  have h := Lens.snd (α := ByteArray) (lens_self (β := Int) rfl)
  exact ⟨h.1, fun F w c x h' => h.2 F w c (x.path, x.kind) h'⟩
end Go.Vc
namespace Go.Proofs.YthddcfbjgcbioaaGreatDoor
open Go.RowKit Go.Vc
open Go.Vc.Rep (rd)
open Go.Vc.Own (own)

end Go.Proofs.YthddcfbjgcbioaaGreatDoor
