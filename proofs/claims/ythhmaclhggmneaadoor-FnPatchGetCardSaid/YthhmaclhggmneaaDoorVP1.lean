/-
  Hunk, as data. / Change, as data.
-/
import Derived.Test.YthhmaclhggmneaaDoorVTY
import Derived.Test.YthhmaclhggmneaaDoorVB
set_option linter.unusedVariables false
namespace Go.Vc
open Go.RowKit
open Rep (rd)
open Own (own)

structure Hunk where
  at_ : Int
  less : List ByteArray
  more : List ByteArray
  deriving DecidableEq
instance repHunk : Rep Hunk := Rep.via fun p => (p.at_, p.less, p.more)
instance ownHunk : Own Hunk := Own.via fun p => (p.at_, p.less, p.more)
instance : Zr Hunk := ⟨⟨0, [], []⟩⟩
theorem rd_hunk {S : Nat → Prop} {w : World} {vs : List Value} {p : Hunk} (h : rd S w vs p) :
    ∃ a1 c1 a2 c2, vs = [.int .i64 p.at_, .slice a1 p.less.length c1, .slice a2 p.more.length c2] ∧ I64 p.at_ ∧ IsSlice S w a1 c1 p.less ∧ IsSlice S w a2 c2 p.more := by
  obtain ⟨_, _, rfl, ⟨rfl, h0⟩, _, _, rfl, ⟨a1, c1, rfl, h1⟩, a2, c2, rfl, h2⟩ := h
  exact ⟨a1, c1, a2, c2, rfl, h0, h1, h2⟩
theorem IsSlice.hunk {S : Nat → Prop} {w : World} {a : Option Addr} {cap : Nat} {xs : List Hunk} (h : IsSlice S w a cap xs) {i : Nat} (hi : i < xs.length) :
    ∃ g off a1 c1 a2 c2, a = some ⟨g, off, none⟩ ∧ w.cell? ⟨g, off + i * 3, none⟩ = some (.int .i64 xs[i].at_) ∧ w.cell? ⟨g, off + i * 3 + 1, none⟩ = some (.slice a1 xs[i].less.length c1) ∧ w.cell? ⟨g, off + i * 3 + 2, none⟩ = some (.slice a2 xs[i].more.length c2) ∧ I64 xs[i].at_ ∧ IsSlice S w a1 c1 xs[i].less ∧ IsSlice S w a2 c2 xs[i].more := by
  obtain ⟨g, off, us, h1, _, h3, h4⟩ := h.elem hi
  obtain ⟨a1, c1, a2, c2, rfl, k0, k1, k2⟩ := rd_hunk h4
  exact ⟨g, off, a1, c1, a2, c2, h1, h3 0 _ rfl, h3 1 _ rfl, h3 2 _ rfl, k0, k1, k2⟩
theorem Fresh.hunk {m0 m1 m2 : Nat} {w : World} {v1 v2 : Value} {p : Hunk} (h0 : I64 p.at_) (h1 : Fresh m0 m1 w [v1] p.less) (h2 : Fresh m1 m2 w [v2] p.more) (o0 : m0 ≤ m1) (o1 : m1 ≤ m2) : Fresh m0 m2 w [.int .i64 p.at_, v1, v2] p := by
  have := Fresh.consL (show own [] w [.int .i64 p.at_] p.at_ from ⟨rfl, rfl, h0⟩) (Fresh.cat h1 (h2) o0 (o1))
  exact this
theorem eq_hunk (d e : Hunk) : d = e ↔ d.at_ = e.at_ ∧ d.less = e.less ∧ d.more = e.more := by
  cases d; cases e; simp
theorem lens_hunk_at_ : Lens Hunk (Int) 0 (·.at_) (fun d y => ⟨y, d.less, d.more⟩) := by
  have h := Lens.fst (β := List ByteArray × List ByteArray) (lens_self (β := Int) rfl)
  exact ⟨h.1, fun F w c x h' => h.2 F w c (x.at_, x.less, x.more) h'⟩
theorem lens_hunk_less : Lens Hunk (List ByteArray) 1 (·.less) (fun d y => ⟨d.at_, y, d.more⟩) := by
  have h := Lens.snd (α := Int) (Lens.fst (β := List ByteArray) (lens_self (β := List ByteArray) rfl))
  exact ⟨h.1, fun F w c x h' => h.2 F w c (x.at_, x.less, x.more) h'⟩
theorem lens_hunk_more : Lens Hunk (List ByteArray) 2 (·.more) (fun d y => ⟨d.at_, d.less, y⟩) := by
  have h := Lens.snd (α := Int) (Lens.snd (α := List ByteArray) (lens_self (β := List ByteArray) rfl))
  exact ⟨h.1, fun F w c x h' => h.2 F w c (x.at_, x.less, x.more) h'⟩
theorem opn_hunk {P : Program} {t : TypeId} {f0 f1 f2 : Field} (ht : P.underlying t = some (.struct #[f0, f1, f2])) (h0 : Opn P f0.type (Int)) (h1 : Opn P f1.type (List ByteArray)) (h2 : Opn P f2.type (List ByteArray))
    (hc0 : P.cellsOf f0.type = 1) (hc1 : P.cellsOf f1.type = 1) (hc2 : P.cellsOf f2.type = 1) (ho0 : f0.offset = 0) (ho1 : f1.offset = 1) (ho2 : f2.offset = 2) (hct : P.cellsOf t = 3) : Opn P t Hunk :=
  opn_struct3 Hunk.mk (fun _ v0 v1 v2 _ _ _ r0 r1 r2 => ⟨v0, v1 ++ (v2), rfl, r0, v1, v2, rfl, r1, r2⟩) ht h0 h1 h2 hc0 hc1 hc2 ho0 ho1 ho2 hct
end Go.Vc
namespace Go.Proofs.YthhmaclhggmneaaDoor
open Go.RowKit Go.Vc
open Go.Vc.Rep (rd)
open Go.Vc.Own (own)

instance : Tid Hunk := ⟨71⟩
theorem info_hunk : (Tryd.prog.info? 71).map (fun i => (i.zero, i.size, i.bytes)) = some (some (.agg #[.int .i64 0, .slice none 0 0, .slice none 0 0]), 3, 56) := by kernel_rfl
theorem slz_hunk : SlZ Tryd.prog 37 Hunk 56 (.agg #[.int .i64 0, .slice none 0 0, .slice none 0 0]) := by
  obtain ⟨i, h1, h2, h3, h4⟩ := info_parts info_hunk
  exact ⟨Tryd.underlying37, ⟨i, h1, h2, h3, h4⟩, fun w => ⟨[_], [_, _], [], [], rfl, rfl, ⟨rfl, rfl, i64_zero⟩, [_], [_], [], [], rfl, rfl, ⟨_, [], [], rfl, World.ownsRow_nil _ _ _ _, rfl, trivial, by decide⟩, _, [], [], rfl, World.ownsRow_nil _ _ _ _, rfl, trivial, by decide⟩, by decide⟩
end Go.Proofs.YthhmaclhggmneaaDoor
namespace Go.Vc
open Go.RowKit
open Rep (rd)
open Own (own)

structure Change where
  kind : Int
  path : ByteArray
  dst : ByteArray
  text : List ByteArray
  patch : List Hunk
  deriving DecidableEq
instance repChange : Rep Change := Rep.via fun p => (p.kind, p.path, p.dst, p.text, p.patch)
instance ownChange : Own Change := Own.via fun p => (p.kind, p.path, p.dst, p.text, p.patch)
instance : Zr Change := ⟨⟨0, ⟨#[]⟩, ⟨#[]⟩, [], []⟩⟩
theorem rd_change {S : Nat → Prop} {w : World} {vs : List Value} {p : Change} (h : rd S w vs p) :
    ∃ a3 c3 a4 c4, vs = [.int .i64 p.kind, .string p.path, .string p.dst, .slice a3 p.text.length c3, .slice a4 p.patch.length c4] ∧ I64 p.kind ∧ p.path.size ≤ maxLen ∧ p.dst.size ≤ maxLen ∧ IsSlice S w a3 c3 p.text ∧ IsSlice S w a4 c4 p.patch := by
  obtain ⟨_, _, rfl, ⟨rfl, h0⟩, _, _, rfl, ⟨rfl, h1⟩, _, _, rfl, ⟨rfl, h2⟩, _, _, rfl, ⟨a3, c3, rfl, h3⟩, a4, c4, rfl, h4⟩ := h
  exact ⟨a3, c3, a4, c4, rfl, h0, h1, h2, h3, h4⟩
theorem IsSlice.change {S : Nat → Prop} {w : World} {a : Option Addr} {cap : Nat} {xs : List Change} (h : IsSlice S w a cap xs) {i : Nat} (hi : i < xs.length) :
    ∃ g off a3 c3 a4 c4, a = some ⟨g, off, none⟩ ∧ w.cell? ⟨g, off + i * 5, none⟩ = some (.int .i64 xs[i].kind) ∧ w.cell? ⟨g, off + i * 5 + 1, none⟩ = some (.string xs[i].path) ∧ w.cell? ⟨g, off + i * 5 + 2, none⟩ = some (.string xs[i].dst) ∧ w.cell? ⟨g, off + i * 5 + 3, none⟩ = some (.slice a3 xs[i].text.length c3) ∧ w.cell? ⟨g, off + i * 5 + 4, none⟩ = some (.slice a4 xs[i].patch.length c4) ∧ I64 xs[i].kind ∧ xs[i].path.size ≤ maxLen ∧ xs[i].dst.size ≤ maxLen ∧ IsSlice S w a3 c3 xs[i].text ∧ IsSlice S w a4 c4 xs[i].patch := by
  obtain ⟨g, off, us, h1, _, h3, h4⟩ := h.elem hi
  obtain ⟨a3, c3, a4, c4, rfl, k0, k1, k2, k3, k4⟩ := rd_change h4
  exact ⟨g, off, a3, c3, a4, c4, h1, h3 0 _ rfl, h3 1 _ rfl, h3 2 _ rfl, h3 3 _ rfl, h3 4 _ rfl, k0, k1, k2, k3, k4⟩
theorem Fresh.change {m0 m1 m2 : Nat} {w : World} {v3 v4 : Value} {p : Change} (h0 : I64 p.kind) (h1 : p.path.size ≤ maxLen) (h2 : p.dst.size ≤ maxLen) (h3 : Fresh m0 m1 w [v3] p.text) (h4 : Fresh m1 m2 w [v4] p.patch) (o0 : m0 ≤ m1) (o1 : m1 ≤ m2) : Fresh m0 m2 w [.int .i64 p.kind, .string p.path, .string p.dst, v3, v4] p := by
  have := Fresh.consL (show own [] w [.int .i64 p.kind] p.kind from ⟨rfl, rfl, h0⟩) (Fresh.consL (show own [] w [.string p.path] p.path from ⟨rfl, rfl, h1⟩) (Fresh.consL (show own [] w [.string p.dst] p.dst from ⟨rfl, rfl, h2⟩) (Fresh.cat h3 (h4) o0 (o1))))
  exact this
theorem eq_change (d e : Change) : d = e ↔ d.kind = e.kind ∧ d.path = e.path ∧ d.dst = e.dst ∧ d.text = e.text ∧ d.patch = e.patch := by
  cases d; cases e; simp
theorem lens_change_kind : Lens Change (Int) 0 (·.kind) (fun d y => ⟨y, d.path, d.dst, d.text, d.patch⟩) := by
  have h := Lens.fst (β := ByteArray × ByteArray × List ByteArray × List Hunk) (lens_self (β := Int) rfl)
  exact ⟨h.1, fun F w c x h' => h.2 F w c (x.kind, x.path, x.dst, x.text, x.patch) h'⟩
theorem lens_change_path : Lens Change (ByteArray) 1 (·.path) (fun d y => ⟨d.kind, y, d.dst, d.text, d.patch⟩) := by
  have h := Lens.snd (α := Int) (Lens.fst (β := ByteArray × List ByteArray × List Hunk) (lens_self (β := ByteArray) rfl))
  exact ⟨h.1, fun F w c x h' => h.2 F w c (x.kind, x.path, x.dst, x.text, x.patch) h'⟩
theorem lens_change_dst : Lens Change (ByteArray) 2 (·.dst) (fun d y => ⟨d.kind, d.path, y, d.text, d.patch⟩) := by
  have h := Lens.snd (α := Int) (Lens.snd (α := ByteArray) (Lens.fst (β := List ByteArray × List Hunk) (lens_self (β := ByteArray) rfl)))
  exact ⟨h.1, fun F w c x h' => h.2 F w c (x.kind, x.path, x.dst, x.text, x.patch) h'⟩
theorem lens_change_text : Lens Change (List ByteArray) 3 (·.text) (fun d y => ⟨d.kind, d.path, d.dst, y, d.patch⟩) := by
  have h := Lens.snd (α := Int) (Lens.snd (α := ByteArray) (Lens.snd (α := ByteArray) (Lens.fst (β := List Hunk) (lens_self (β := List ByteArray) rfl))))
  exact ⟨h.1, fun F w c x h' => h.2 F w c (x.kind, x.path, x.dst, x.text, x.patch) h'⟩
theorem lens_change_patch : Lens Change (List Hunk) 4 (·.patch) (fun d y => ⟨d.kind, d.path, d.dst, d.text, y⟩) := by
  have h := Lens.snd (α := Int) (Lens.snd (α := ByteArray) (Lens.snd (α := ByteArray) (Lens.snd (α := List ByteArray) (lens_self (β := List Hunk) rfl))))
  exact ⟨h.1, fun F w c x h' => h.2 F w c (x.kind, x.path, x.dst, x.text, x.patch) h'⟩
end Go.Vc
namespace Go.Proofs.YthhmaclhggmneaaDoor
open Go.RowKit Go.Vc
open Go.Vc.Rep (rd)
open Go.Vc.Own (own)

end Go.Proofs.YthhmaclhggmneaaDoor
