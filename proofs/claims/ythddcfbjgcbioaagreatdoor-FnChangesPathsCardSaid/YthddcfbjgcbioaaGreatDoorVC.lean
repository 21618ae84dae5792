/-
  File, as data. / What the program's table says of []int. / Commit, as data. / Head, as data. / Repo, as data.
-/
import Derived.Test.YthddcfbjgcbioaaGreatDoorVTY
import Derived.Test.YthddcfbjgcbioaaGreatDoorVB
set_option linter.unusedVariables false
namespace Go.Vc
open Go.RowKit
open Rep (rd)
open Own (own)

structure File where
  path : ByteArray
  text : List ByteArray
  deriving DecidableEq
instance repFile : Rep File := Rep.via fun p => (p.path, p.text)
instance ownFile : Own File := Own.via fun p => (p.path, p.text)
instance : Zr File := ⟨⟨⟨#[]⟩, []⟩⟩
theorem rd_file {S : Nat → Prop} {w : World} {vs : List Value} {p : File} (h : rd S w vs p) :
    ∃ a1 c1, vs = [.string p.path, .slice a1 p.text.length c1] ∧ p.path.size ≤ maxLen ∧ IsSlice S w a1 c1 p.text := by
  obtain ⟨_, _, rfl, ⟨rfl, h0⟩, a1, c1, rfl, h1⟩ := h
  exact ⟨a1, c1, rfl, h0, h1⟩
theorem IsSlice.file {S : Nat → Prop} {w : World} {a : Option Addr} {cap : Nat} {xs : List File} (h : IsSlice S w a cap xs) {i : Nat} (hi : i < xs.length) :
    ∃ g off a1 c1, a = some ⟨g, off, none⟩ ∧ w.cell? ⟨g, off + i * 2, none⟩ = some (.string xs[i].path) ∧ w.cell? ⟨g, off + i * 2 + 1, none⟩ = some (.slice a1 xs[i].text.length c1) ∧ xs[i].path.size ≤ maxLen ∧ IsSlice S w a1 c1 xs[i].text := by
  obtain ⟨g, off, us, h1, _, h3, h4⟩ := h.elem hi
  obtain ⟨a1, c1, rfl, k0, k1⟩ := rd_file h4
  exact ⟨g, off, a1, c1, h1, h3 0 _ rfl, h3 1 _ rfl, k0, k1⟩
theorem Fresh.file {m0 m1 : Nat} {w : World} {v1 : Value} {p : File} (h0 : p.path.size ≤ maxLen) (h1 : Fresh m0 m1 w [v1] p.text) : Fresh m0 m1 w [.string p.path, v1] p := by
  have := Fresh.consL (show own [] w [.string p.path] p.path from ⟨rfl, rfl, h0⟩) (h1)
  exact this
theorem eq_file (d e : File) : d = e ↔ d.path = e.path ∧ d.text = e.text := by
  cases d; cases e; simp
theorem lens_file_path : Lens File (ByteArray) 0 (·.path) (fun d y => ⟨y, d.text⟩) := by
  have h := Lens.fst (β := List ByteArray) (lens_self (β := ByteArray) rfl)
  exact ⟨h.1, fun F w c x h' => h.2 F w c (x.path, x.text) h'⟩
theorem lens_file_text : Lens File (List ByteArray) 1 (·.text) (fun d y => ⟨d.path, y⟩) := by
  have h := Lens.snd (α := ByteArray) (lens_self (β := List ByteArray) rfl)
  exact ⟨h.1, fun F w c x h' => h.2 F w c (x.path, x.text) h'⟩
theorem opn_file {P : Program} {t : TypeId} {f0 f1 : Field} (ht : P.underlying t = some (.struct #[f0, f1])) (h0 : Opn P f0.type (ByteArray)) (h1 : Opn P f1.type (List ByteArray))
    (hc0 : P.cellsOf f0.type = 1) (hc1 : P.cellsOf f1.type = 1) (ho0 : f0.offset = 0) (ho1 : f1.offset = 1) (hct : P.cellsOf t = 2) : Opn P t File :=
  opn_struct2 File.mk (fun _ v0 v1 _ _ r0 r1 => ⟨v0, v1, rfl, r0, r1⟩) ht h0 h1 hc0 hc1 ho0 ho1 hct
end Go.Vc
namespace Go.Proofs.YthddcfbjgcbioaaGreatDoor
open Go.RowKit Go.Vc
open Go.Vc.Rep (rd)
open Go.Vc.Own (own)

instance : Tid File := ⟨36⟩
theorem info_file : (Tryz.prog.info? 36).map (fun i => (i.zero, i.size, i.bytes)) = some (some (.agg #[.string ⟨#[]⟩, .slice none 0 0]), 2, 40) := by kernel_rfl
theorem slz_file : SlZ Tryz.prog 23 File 40 (.agg #[.string ⟨#[]⟩, .slice none 0 0]) := by
  obtain ⟨i, h1, h2, h3, h4⟩ := info_parts info_file
  exact ⟨Tryz.underlying23, ⟨i, h1, h2, h3, h4⟩, fun w => ⟨[_], [_], [], [], rfl, rfl, ⟨rfl, rfl, Nat.zero_le _⟩, _, [], [], rfl, World.ownsRow_nil _ _ _ _, rfl, trivial, by decide⟩, by decide⟩
end Go.Proofs.YthddcfbjgcbioaaGreatDoor
namespace Go.Proofs.YthddcfbjgcbioaaGreatDoor
open Go.RowKit Go.Vc
open Go.Vc.Rep (rd)
open Go.Vc.Own (own)

theorem slz_int : SlZ Tryz.prog 64 Int 8 (.int .i64 0) := by
  obtain ⟨i, h1, h2, h3, h4⟩ := info_parts (show (Tryz.prog.info? 3).map (fun i => (i.zero, i.size, i.bytes)) = some (some (.int .i64 0), 1, 8) by kernel_rfl)
  exact ⟨Tryz.underlying64, ⟨i, h1, h2, h3, h4⟩, fun w => ⟨rfl, rfl, i64_zero⟩, Nat.one_pos⟩
theorem opn_intS : Opn Tryz.prog 64 (List Int) := opn_slice Tryz.underlying64 (opn_int Tryz.underlying3) (by kernel_rfl) Nat.one_pos
end Go.Proofs.YthddcfbjgcbioaaGreatDoor
namespace Go.Vc
open Go.RowKit
open Rep (rd)
open Own (own)

structure Commit where
  parents : List Int
  who : ByteArray
  tree : List File
  deriving DecidableEq
instance repCommit : Rep Commit := Rep.via fun p => (p.parents, p.who, p.tree)
instance ownCommit : Own Commit := Own.via fun p => (p.parents, p.who, p.tree)
instance : Zr Commit := ⟨⟨[], ⟨#[]⟩, []⟩⟩
theorem rd_commit {S : Nat → Prop} {w : World} {vs : List Value} {p : Commit} (h : rd S w vs p) :
    ∃ a0 c0 a2 c2, vs = [.slice a0 p.parents.length c0, .string p.who, .slice a2 p.tree.length c2] ∧ IsSlice S w a0 c0 p.parents ∧ p.who.size ≤ maxLen ∧ IsSlice S w a2 c2 p.tree := by
  obtain ⟨_, _, rfl, ⟨a0, c0, rfl, h0⟩, _, _, rfl, ⟨rfl, h1⟩, a2, c2, rfl, h2⟩ := h
  exact ⟨a0, c0, a2, c2, rfl, h0, h1, h2⟩
theorem IsSlice.commit {S : Nat → Prop} {w : World} {a : Option Addr} {cap : Nat} {xs : List Commit} (h : IsSlice S w a cap xs) {i : Nat} (hi : i < xs.length) :
    ∃ g off a0 c0 a2 c2, a = some ⟨g, off, none⟩ ∧ w.cell? ⟨g, off + i * 3, none⟩ = some (.slice a0 xs[i].parents.length c0) ∧ w.cell? ⟨g, off + i * 3 + 1, none⟩ = some (.string xs[i].who) ∧ w.cell? ⟨g, off + i * 3 + 2, none⟩ = some (.slice a2 xs[i].tree.length c2) ∧ IsSlice S w a0 c0 xs[i].parents ∧ xs[i].who.size ≤ maxLen ∧ IsSlice S w a2 c2 xs[i].tree := by
  obtain ⟨g, off, us, h1, _, h3, h4⟩ := h.elem hi
  obtain ⟨a0, c0, a2, c2, rfl, k0, k1, k2⟩ := rd_commit h4
  exact ⟨g, off, a0, c0, a2, c2, h1, h3 0 _ rfl, h3 1 _ rfl, h3 2 _ rfl, k0, k1, k2⟩
theorem Fresh.commit {m0 m1 m2 : Nat} {w : World} {v0 v2 : Value} {p : Commit} (h0 : Fresh m0 m1 w [v0] p.parents) (h1 : p.who.size ≤ maxLen) (h2 : Fresh m1 m2 w [v2] p.tree) (o0 : m0 ≤ m1) (o1 : m1 ≤ m2) : Fresh m0 m2 w [v0, .string p.who, v2] p := by
  have := Fresh.cat h0 (Fresh.consL (show own [] w [.string p.who] p.who from ⟨rfl, rfl, h1⟩) (h2)) o0 (o1)
  exact this
theorem eq_commit (d e : Commit) : d = e ↔ d.parents = e.parents ∧ d.who = e.who ∧ d.tree = e.tree := by
  cases d; cases e; simp
theorem lens_commit_parents : Lens Commit (List Int) 0 (·.parents) (fun d y => ⟨y, d.who, d.tree⟩) := by
  have h := Lens.fst (β := ByteArray × List File) (lens_self (β := List Int) rfl)
  exact ⟨h.1, fun F w c x h' => h.2 F w c (x.parents, x.who, x.tree) h'⟩
theorem lens_commit_who : Lens Commit (ByteArray) 1 (·.who) (fun d y => ⟨d.parents, y, d.tree⟩) := by
  have h := Lens.snd (α := List Int) (Lens.fst (β := List File) (lens_self (β := ByteArray) rfl))
  exact ⟨h.1, fun F w c x h' => h.2 F w c (x.parents, x.who, x.tree) h'⟩
theorem lens_commit_tree : Lens Commit (List File) 2 (·.tree) (fun d y => ⟨d.parents, d.who, y⟩) := by
  have h := Lens.snd (α := List Int) (Lens.snd (α := ByteArray) (lens_self (β := List File) rfl))
  exact ⟨h.1, fun F w c x h' => h.2 F w c (x.parents, x.who, x.tree) h'⟩
theorem opn_commit {P : Program} {t : TypeId} {f0 f1 f2 : Field} (ht : P.underlying t = some (.struct #[f0, f1, f2])) (h0 : Opn P f0.type (List Int)) (h1 : Opn P f1.type (ByteArray)) (h2 : Opn P f2.type (List File))
    (hc0 : P.cellsOf f0.type = 1) (hc1 : P.cellsOf f1.type = 1) (hc2 : P.cellsOf f2.type = 1) (ho0 : f0.offset = 0) (ho1 : f1.offset = 1) (ho2 : f2.offset = 2) (hct : P.cellsOf t = 3) : Opn P t Commit :=
  opn_struct3 Commit.mk (fun _ v0 v1 v2 _ _ _ r0 r1 r2 => ⟨v0, v1 ++ (v2), rfl, r0, v1, v2, rfl, r1, r2⟩) ht h0 h1 h2 hc0 hc1 hc2 ho0 ho1 ho2 hct
end Go.Vc
namespace Go.Proofs.YthddcfbjgcbioaaGreatDoor
open Go.RowKit Go.Vc
open Go.Vc.Rep (rd)
open Go.Vc.Own (own)

end Go.Proofs.YthddcfbjgcbioaaGreatDoor
namespace Go.Vc
open Go.RowKit
open Rep (rd)
open Own (own)

structure Head where
  name : ByteArray
  at_ : Int
  deriving DecidableEq
instance repHead : Rep Head := Rep.via fun p => (p.name, p.at_)
instance ownHead : Own Head := Own.via fun p => (p.name, p.at_)
instance leafHead : Leaf Head := ⟨fun h => Leaf.of_rd (α := ByteArray × Int) h, fun h => Leaf.none (α := ByteArray × Int) h⟩
instance : Zr Head := ⟨⟨⟨#[]⟩, 0⟩⟩
theorem rd_branch {S : Nat → Prop} {w : World} {vs : List Value} {p : Head} (h : rd S w vs p) :
    vs = [.string p.name, .int .i64 p.at_] ∧ p.name.size ≤ maxLen ∧ I64 p.at_ := by
  obtain ⟨_, _, rfl, ⟨rfl, h0⟩, rfl, h1⟩ := h
  exact ⟨rfl, h0, h1⟩
theorem IsSlice.branch {S : Nat → Prop} {w : World} {a : Option Addr} {cap : Nat} {xs : List Head} (h : IsSlice S w a cap xs) {i : Nat} (hi : i < xs.length) :
    ∃ g off , a = some ⟨g, off, none⟩ ∧ w.cell? ⟨g, off + i * 2, none⟩ = some (.string xs[i].name) ∧ w.cell? ⟨g, off + i * 2 + 1, none⟩ = some (.int .i64 xs[i].at_) ∧ xs[i].name.size ≤ maxLen ∧ I64 xs[i].at_ := by
  obtain ⟨g, off, us, h1, _, h3, h4⟩ := h.elem hi
  obtain ⟨rfl, k0, k1⟩ := rd_branch h4
  exact ⟨g, off, h1, h3 0 _ rfl, h3 1 _ rfl, k0, k1⟩
theorem own_branch {w : World} {p : Head} (h0 : p.name.size ≤ maxLen) (h1 : I64 p.at_) : own [] w [.string p.name, .int .i64 p.at_] p := ⟨[_], [_], [], [], rfl, rfl, ⟨rfl, rfl, h0⟩, ⟨rfl, rfl, h1⟩⟩
theorem eq_branch (d e : Head) : d = e ↔ d.name = e.name ∧ d.at_ = e.at_ := by
  cases d; cases e; simp
theorem lens_branch_name : Lens Head (ByteArray) 0 (·.name) (fun d y => ⟨y, d.at_⟩) := by
  have h := Lens.fst (β := Int) (lens_self (β := ByteArray) rfl)
  exact ⟨h.1, fun F w c x h' => h.2 F w c (x.name, x.at_) h'⟩
theorem lens_branch_at_ : Lens Head (Int) 1 (·.at_) (fun d y => ⟨d.name, y⟩) := by
  have h := Lens.snd (α := ByteArray) (lens_self (β := Int) rfl)
  exact ⟨h.1, fun F w c x h' => h.2 F w c (x.name, x.at_) h'⟩
theorem opn_branch {P : Program} {t : TypeId} {f0 f1 : Field} (ht : P.underlying t = some (.struct #[f0, f1])) (h0 : Opn P f0.type (ByteArray)) (h1 : Opn P f1.type (Int))
    (hc0 : P.cellsOf f0.type = 1) (hc1 : P.cellsOf f1.type = 1) (ho0 : f0.offset = 0) (ho1 : f1.offset = 1) (hct : P.cellsOf t = 2) : Opn P t Head :=
  opn_struct2 Head.mk (fun _ v0 v1 _ _ r0 r1 => ⟨v0, v1, rfl, r0, r1⟩) ht h0 h1 hc0 hc1 ho0 ho1 hct
end Go.Vc
namespace Go.Proofs.YthddcfbjgcbioaaGreatDoor
open Go.RowKit Go.Vc
open Go.Vc.Rep (rd)
open Go.Vc.Own (own)

end Go.Proofs.YthddcfbjgcbioaaGreatDoor
namespace Go.Vc
open Go.RowKit
open Rep (rd)
open Own (own)

structure Repo where
  commits : List Commit
  heads : List Head
  deriving DecidableEq
instance : Zr Repo := ⟨⟨[], []⟩⟩
theorem eq_repo (d e : Repo) : d = e ↔ d.commits = e.commits ∧ d.heads = e.heads := by
  cases d; cases e; simp
end Go.Vc
namespace Go.Proofs.YthddcfbjgcbioaaGreatDoor
open Go.RowKit Go.Vc
open Go.Vc.Rep (rd)
open Go.Vc.Own (own)

end Go.Proofs.YthddcfbjgcbioaaGreatDoor
