/-
  Change, as data. / Plain functions: what changed between two trees. No program is in sight here. / Plain law: the differences of two texts, put into the first, make the second. No program is in sight here. / Plain functions: changes made, and what they make of a tree. No program is in sight here. / Plain functions: changes taken back. No program is in sight here. / Plain functions: what changed between two trees makes the first the second. No program is in sight here. / Plain: what two sides changed at other paths is all there.
-/
import Derived.Test.YthddcfbjgcbioaaGreatDoorVTY
import Derived.Test.YthddcfbjgcbioaaGreatDoorVB
import Derived.Test.YthddcfbjgcbioaaGreatDoorVP1
import Derived.Test.YthddcfbjgcbioaaGreatDoorPlTM
import Derived.Test.YthddcfbjgcbioaaGreatDoorVP2
import Derived.Test.YthddcfbjgcbioaaGreatDoorVPJ
set_option linter.unusedVariables false
namespace Go.Vc
open Go.RowKit
open Rep (rd)
open Own (own)

structure Change where
  kind : Int
  path : ByteArray
  dst : ByteArray
  text : List ByteArray
  patch : List Hunk
  deriving DecidableEq
instance repChange : Rep Change := Rep.via fun p => (p.kind, p.path, p.dst, p.text, p.patch)
instance ownChange : Own Change := Own.via fun p => (p.kind, p.path, p.dst, p.text, p.patch)
instance : Zr Change := ⟨⟨0, ⟨#[]⟩, ⟨#[]⟩, [], []⟩⟩
theorem rd_change {S : Nat → Prop} {w : World} {vs : List Value} {p : Change} (h : rd S w vs p) :
    ∃ a3 c3 a4 c4, vs = [.int .i64 p.kind, .string p.path, .string p.dst, .slice a3 p.text.length c3, .slice a4 p.patch.length c4] ∧ I64 p.kind ∧ p.path.size ≤ maxLen ∧ p.dst.size ≤ maxLen ∧ IsSlice S w a3 c3 p.text ∧ IsSlice S w a4 c4 p.patch := by
  obtain ⟨_, _, rfl, ⟨rfl, h0⟩, _, _, rfl, ⟨rfl, h1⟩, _, _, rfl, ⟨rfl, h2⟩, _, _, rfl, ⟨a3, c3, rfl, h3⟩, a4, c4, rfl, h4⟩ := h
  exact ⟨a3, c3, a4, c4, rfl, h0, h1, h2, h3, h4⟩
theorem IsSlice.change {S : Nat → Prop} {w : World} {a : Option Addr} {cap : Nat} {xs : List Change} (h : IsSlice S w a cap xs) {i : Nat} (hi : i < xs.length) :
    ∃ g off a3 c3 a4 c4, a = some ⟨g, off, none⟩ ∧ w.cell? ⟨g, off + i * 5, none⟩ = some (.int .i64 xs[i].kind) ∧ w.cell? ⟨g, off + i * 5 + 1, none⟩ = some (.string xs[i].path) ∧ w.cell? ⟨g, off + i * 5 + 2, none⟩ = some (.string xs[i].dst) ∧ w.cell? ⟨g, off + i * 5 + 3, none⟩ = some (.slice a3 xs[i].text.length c3) ∧ w.cell? ⟨g, off + i * 5 + 4, none⟩ = some (.slice a4 xs[i].patch.length c4) ∧ I64 xs[i].kind ∧ xs[i].path.size ≤ maxLen ∧ xs[i].dst.size ≤ maxLen ∧ IsSlice S w a3 c3 xs[i].text ∧ IsSlice S w a4 c4 xs[i].patch := by
  obtain ⟨g, off, us, h1, _, h3, h4⟩ := h.elem hi
  obtain ⟨a3, c3, a4, c4, rfl, k0, k1, k2, k3, k4⟩ := rd_change h4
  exact ⟨g, off, a3, c3, a4, c4, h1, h3 0 _ rfl, h3 1 _ rfl, h3 2 _ rfl, h3 3 _ rfl, h3 4 _ rfl, k0, k1, k2, k3, k4⟩
theorem Fresh.change {m0 m1 m2 : Nat} {w : World} {v3 v4 : Value} {p : Change} (h0 : I64 p.kind) (h1 : p.path.size ≤ maxLen) (h2 : p.dst.size ≤ maxLen) (h3 : Fresh m0 m1 w [v3] p.text) (h4 : Fresh m1 m2 w [v4] p.patch) (o0 : m0 ≤ m1) (o1 : m1 ≤ m2) : Fresh m0 m2 w [.int .i64 p.kind, .string p.path, .string p.dst, v3, v4] p := by
  have := Fresh.consL (show own [] w [.int .i64 p.kind] p.kind from ⟨rfl, rfl, h0⟩) (Fresh.consL (show own [] w [.string p.path] p.path from ⟨rfl, rfl, h1⟩) (Fresh.consL (show own [] w [.string p.dst] p.dst from ⟨rfl, rfl, h2⟩) (Fresh.cat h3 (h4) o0 (o1))))
  exact this
theorem eq_change (d e : Change) : d = e ↔ d.kind = e.kind ∧ d.path = e.path ∧ d.dst = e.dst ∧ d.text = e.text ∧ d.patch = e.patch := by
  cases d; cases e; simp
theorem lens_change_kind : Lens Change (Int) 0 (·.kind) (fun d y => ⟨y, d.path, d.dst, d.text, d.patch⟩) := by
  have h := Lens.fst (β := ByteArray × ByteArray × List ByteArray × List Hunk) (lens_self (β := Int) rfl)
  exact ⟨h.1, fun F w c x h' => h.2 F w c (x.kind, x.path, x.dst, x.text, x.patch) h'⟩
theorem lens_change_path : Lens Change (ByteArray) 1 (·.path) (fun d y => ⟨d.kind, y, d.dst, d.text, d.patch⟩) := by
  have h := Lens.snd (α := Int) (Lens.fst (β := ByteArray × List ByteArray × List Hunk) (lens_self (β := ByteArray) rfl))
  exact ⟨h.1, fun F w c x h' => h.2 F w c (x.kind, x.path, x.dst, x.text, x.patch) h'⟩
theorem lens_change_dst : Lens Change (ByteArray) 2 (·.dst) (fun d y => ⟨d.kind, d.path, y, d.text, d.patch⟩) := by
  have h := Lens.snd (α := Int) (Lens.snd (α := ByteArray) (Lens.fst (β := List ByteArray × List Hunk) (lens_self (β := ByteArray) rfl)))
  exact ⟨h.1, fun F w c x h' => h.2 F w c (x.kind, x.path, x.dst, x.text, x.patch) h'⟩
theorem lens_change_text : Lens Change (List ByteArray) 3 (·.text) (fun d y => ⟨d.kind, d.path, d.dst, y, d.patch⟩) := by
  have h := Lens.snd (α := Int) (Lens.snd (α := ByteArray) (Lens.snd (α := ByteArray) (Lens.fst (β := List Hunk) (lens_self (β := List ByteArray) rfl))))
  exact ⟨h.1, fun F w c x h' => h.2 F w c (x.kind, x.path, x.dst, x.text, x.patch) h'⟩
theorem lens_change_patch : Lens Change (List Hunk) 4 (·.patch) (fun d y => ⟨d.kind, d.path, d.dst, d.text, y⟩) := by
  have h := Lens.snd (α := Int) (Lens.snd (α := ByteArray) (Lens.snd (α := ByteArray) (Lens.snd (α := List ByteArray) (lens_self (β := List Hunk) rfl))))
  exact ⟨h.1, fun F w c x h' => h.2 F w c (x.kind, x.path, x.dst, x.text, x.patch) h'⟩
end Go.Vc
namespace Go.Proofs.YthddcfbjgcbioaaGreatDoor
open Go.RowKit Go.Vc
open Go.Vc.Rep (rd)
open Go.Vc.Own (own)

instance : Tid Change := ⟨49⟩
theorem info_change : (Tryz.prog.info? 49).map (fun i => (i.zero, i.size, i.bytes)) = some (some (.agg #[.int .i64 0, .string ⟨#[]⟩, .string ⟨#[]⟩, .slice none 0 0, .slice none 0 0]), 5, 88) := by kernel_rfl
theorem slz_change : SlZ Tryz.prog 24 Change 88 (.agg #[.int .i64 0, .string ⟨#[]⟩, .string ⟨#[]⟩, .slice none 0 0, .slice none 0 0]) := by
  obtain ⟨i, h1, h2, h3, h4⟩ := info_parts info_change
  exact ⟨Tryz.underlying24, ⟨i, h1, h2, h3, h4⟩, fun w => ⟨[_], [_, _, _, _], [], [], rfl, rfl, ⟨rfl, rfl, i64_zero⟩, [_], [_, _, _], [], [], rfl, rfl, ⟨rfl, rfl, Nat.zero_le _⟩, [_], [_, _], [], [], rfl, rfl, ⟨rfl, rfl, Nat.zero_le _⟩, [_], [_], [], [], rfl, rfl, ⟨_, [], [], rfl, World.ownsRow_nil _ _ _ _, rfl, trivial, by decide⟩, _, [], [], rfl, World.ownsRow_nil _ _ _ _, rfl, trivial, by decide⟩, by decide⟩
end Go.Proofs.YthddcfbjgcbioaaGreatDoor
namespace Go.Vc
def goesTo (out : List Change) (p : ByteArray) : Bool := out.any fun c => decide (c.dst = p)
/-- whether a file of the second tree may be where one of the first went -/
def mayB (a : List File) (out : List Change) (x : List ByteArray) (g : File) : Bool := (getT a g.path).isNone && decide (g.text = x) && !goesTo out g.path
def chTo (a b : List File) (out : List Change) (x : List ByteArray) : Option File := b.find? (mayB a out x)
def chOne (a b : List File) (out : List Change) (f : File) : List Change :=
  match getT b f.path with
  | some x => if x = f.text then out else out ++ [⟨3, f.path, ⟨#[]⟩, [], diffT f.text x⟩]
  | none => match chTo a b out f.text with
    | some g => out ++ [⟨4, f.path, g.path, [], []⟩]
    | none => out ++ [⟨2, f.path, ⟨#[]⟩, f.text, []⟩]
def chA (a b : List File) (fs : List File) (out : List Change) : List Change := fs.foldl (chOne a b) out
/-- whether a file of the second tree is new -/
def newB (a : List File) (out : List Change) (g : File) : Bool := (getT a g.path).isNone && !goesTo out g.path
def chB (a : List File) (out : List Change) (fs : List File) : List Change := (fs.filter (newB a out)).map fun g => ⟨1, g.path, ⟨#[]⟩, g.text, []⟩
def chT (a b : List File) : List Change := chA a b a [] ++ chB a (chA a b a []) b
def changesOf (a b : List File) : List Change := if treeB a = true ∧ treeB b = true then chT a b else []
section
variable {a b fs : List File} {R out : List Change} {k : Nat}
theorem chA_edit (H : R = chA a b (fs.drop k) out) (hk : k < fs.length) {x : List ByteArray} (hg : getT b fs[k].path = some x) (h : ¬ x = fs[k].text) : R = chA a b (fs.drop (k + 1)) (out ++ [⟨3, fs[k].path, ⟨#[]⟩, [], diffT fs[k].text x⟩]) := by
  rw [H, drop_cons fs k hk, chA, List.foldl_cons, chOne, hg]
  simp only [if_neg h]; rfl
theorem chA_same (H : R = chA a b (fs.drop k) out) (hk : k < fs.length) (hg : getT b fs[k].path = some fs[k].text) : R = chA a b (fs.drop (k + 1)) out := by
  rw [H, drop_cons fs k hk, chA, List.foldl_cons, chOne, hg]
  simp only [if_true]; rfl
theorem chA_move (H : R = chA a b (fs.drop k) out) (hk : k < fs.length) (hg : getT b fs[k].path = none) {g : File} (ht : chTo a b out fs[k].text = some g) : R = chA a b (fs.drop (k + 1)) (out ++ [⟨4, fs[k].path, g.path, [], []⟩]) := by
  rw [H, drop_cons fs k hk, chA, List.foldl_cons, chOne, hg]
  simp only [ht]; rfl
theorem chA_drop (H : R = chA a b (fs.drop k) out) (hk : k < fs.length) (hg : getT b fs[k].path = none) (ht : chTo a b out fs[k].text = none) : R = chA a b (fs.drop (k + 1)) (out ++ [⟨2, fs[k].path, ⟨#[]⟩, fs[k].text, []⟩]) := by
  rw [H, drop_cons fs k hk, chA, List.foldl_cons, chOne, hg]
  simp only [ht]; rfl
theorem chA_end (H : R = chA a b (fs.drop k) out) (hk : ¬ k < fs.length) : R = out := by rw [H, drop_nil fs k hk]; rfl
variable {x : List ByteArray} {M : Option File}
theorem to_hit (H : M = (fs.drop k).find? (mayB a out x)) (hk : k < fs.length) (h : mayB a out x fs[k] = true) : M = some fs[k] := by
  rw [H, drop_cons fs k hk, List.find?_cons_of_pos h]
theorem to_next (H : M = (fs.drop k).find? (mayB a out x)) (hk : k < fs.length) (h : mayB a out x fs[k] = false) : M = (fs.drop (k + 1)).find? (mayB a out x) := by
  rw [H, drop_cons fs k hk, List.find?_cons_of_neg (by rw [h]; simp)]
theorem to_end (H : M = (fs.drop k).find? (mayB a out x)) (hk : ¬ k < fs.length) : M = none := by rw [H, drop_nil fs k hk]; rfl
theorem chB_yes {o0 : List Change} (H : R = out ++ chB a o0 (fs.drop k)) (hk : k < fs.length) (h : newB a o0 fs[k] = true) : R = (out ++ [⟨1, fs[k].path, ⟨#[]⟩, fs[k].text, []⟩]) ++ chB a o0 (fs.drop (k + 1)) := by
  rw [H, drop_cons fs k hk, chB, List.filter_cons_of_pos h, List.map_cons, List.append_assoc]; rfl
theorem chB_no {o0 : List Change} (H : R = out ++ chB a o0 (fs.drop k)) (hk : k < fs.length) (h : newB a o0 fs[k] = false) : R = out ++ chB a o0 (fs.drop (k + 1)) := by
  rw [H, drop_cons fs k hk, chB, List.filter_cons_of_neg (by rw [h]; simp)]; rfl
theorem chB_end {o0 : List Change} (H : R = out ++ chB a o0 (fs.drop k)) (hk : ¬ k < fs.length) : R = out := by rw [H, drop_nil fs k hk]; simp [chB]
end
theorem chOne_len (a b : List File) (out : List Change) (f : File) : (chOne a b out f).length ≤ out.length + 1 := by
  unfold chOne
  split
  · split <;> simp
  · split <;> simp
theorem chA_len (a b : List File) : ∀ (fs : List File) (out : List Change), (chA a b fs out).length ≤ out.length + fs.length
  | [], out => Nat.le_refl _
  | f :: fs, out => by
    have h1 := chA_len a b fs (chOne a b out f)
    have h2 := chOne_len a b out f
    show (chA a b fs (chOne a b out f)).length ≤ _
    simp; omega
theorem chB_len (a : List File) (out : List Change) (fs : List File) : (chB a out fs).length ≤ fs.length := by
  unfold chB; rw [List.length_map]; exact List.length_filter_le _ _
theorem changes_len {a b : List File} : (changesOf a b).length ≤ 16 := by
  unfold changesOf
  split
  · rename_i h
    have h1 := chA_len a b a []
    have h2 := chB_len a (chA a b a []) b
    have h3 := ((tree_iff a).1 h.1).1
    have h4 := ((tree_iff b).1 h.2).1
    unfold chT
    rw [List.length_append]
    simp at h1
    omega
  · simp
/-- a tree's paths are not empty -/
theorem path_full {t : List File} (h : treeB t = true) {f : File} (hf : f ∈ t) : ¬ f.path = ⟨#[]⟩ := fun e => by
  have := (((tree_iff t).1 h).2.1 f hf).1
  rw [e] at this
  exact absurd this (by decide)
/-- no files changed: nothing is told -/
theorem chA_none {a b : List File} : ∀ {fs : List File} {out : List Change}, (∀ f, f ∈ fs → getT b f.path = some f.text) → chA a b fs out = out
  | [], _, _ => rfl
  | f :: fs, out, h => by
    show chA a b fs (chOne a b out f) = out
    have : chOne a b out f = out := by
      rw [chOne, h f (List.mem_cons_self ..)]; simp only [if_true]
    rw [this]
    exact chA_none fun g hg => h g (List.mem_cons_of_mem _ hg)
theorem changes_same {a : List File} (h : treeB a = true) : changesOf a a = [] := by
  have hd := dist_tree h
  rw [changesOf, if_pos ⟨h, h⟩, chT, chA_none fun f hf => getT_of hd hf]
  unfold chB
  rw [List.filter_eq_nil_iff.2 fun g hg => by rw [newB, getT_of hd hg]; simp]
  rfl
end Go.Vc
namespace Go.Vc

/-- pairs of lines that are one, up to the ends -/
def okM (a b : List ByteArray) : List Int → Nat → Nat → Nat → Prop
  | [], i, fa, fb => i = a.length + 1 ∧ fa = i ∧ fb = b.length + 1
  | m :: ms, i, fa, fb => (m = -1 ∧ i < a.length ∧ okM a b ms (i + 1) fa fb) ∨
      ∃ k : Nat, m = (k : Int) ∧ fb ≤ k ∧ k ≤ b.length ∧ ((∃ (hi : i < a.length) (hk : k < b.length), a[i] = b[k]) ∨ (i = a.length ∧ k = b.length)) ∧ okM a b ms (i + 1) (i + 1) (k + 1)
theorem mt_ok (a b : List ByteArray) (r : List ByteArray) (j : Nat) : ∀ (i fa fb : Nat), r = a.drop i → i ≤ a.length → fb ≤ j → j ≤ b.length → okM a b (mt b r j ++ [(b.length : Int)]) i fa fb := by
  induction r, j using mt.induct (b := b) with
  | case1 j =>
    intro i fa fb ha hi hf hj
    have : a.length ≤ i := by
      have := congrArg List.length ha
      simp at this; omega
    obtain rfl : i = a.length := by omega
    rw [mt_nil, List.nil_append]
    exact .inr ⟨b.length, rfl, by omega, Nat.le_refl _, .inr ⟨rfl, rfl⟩, rfl, rfl, rfl⟩
  | case2 j r hj ih =>
    intro i fa fb ha hi hf hjl
    have hl : i < a.length := by
      have := congrArg List.length ha
      simp at this; omega
    rw [drop_cons a i hl] at ha
    injection ha with e1 e2
    rw [mt, dif_pos hj, if_pos rfl, List.cons_append]
    exact .inr ⟨j, rfl, hf, hjl, .inl ⟨hl, hj, e1.symm⟩, ih (i + 1) (i + 1) (j + 1) e2 hl (Nat.le_refl _) hj⟩
  | case3 x j r hj e h ih =>
    intro i fa fb ha hi hf hjl
    have hl : i < a.length := by
      have := congrArg List.length ha
      simp at this; omega
    rw [drop_cons a i hl] at ha
    injection ha with e1 e2
    rw [mt, dif_pos hj, if_neg e, if_pos h, List.cons_append]
    exact .inl ⟨rfl, hl, ih (i + 1) fa fb e2 hl hf hjl⟩
  | case4 x j r hj e h ih =>
    intro i fa fb ha hi hf hjl
    rw [mt, dif_pos hj, if_neg e, if_neg h]
    exact ih i fa fb ha hi (by omega) hj
  | case5 x j r hj ih =>
    intro i fa fb ha hi hf hjl
    have hl : i < a.length := by
      have := congrArg List.length ha
      simp at this; omega
    rw [drop_cons a i hl] at ha
    injection ha with e1 e2
    rw [mt, dif_neg hj, List.cons_append]
    exact .inl ⟨rfl, hl, ih (i + 1) fa fb e2 hl hf hjl⟩
theorem pairs_ok (a b : List ByteArray) : okM a b (pairsT a b) 0 0 0 := mt_ok a b a 0 0 0 0 rfl (Nat.zero_le _) (Nat.le_refl _) (Nat.zero_le _)

theorem cutF_same (a : List ByteArray) (f : Nat) : cutF a f f = [] := by simp [cutF]
theorem cutF_all {a : List ByteArray} {f i : Nat} (h : a.length ≤ i) : cutF a f i = a.drop f := by
  unfold cutF
  exact List.take_of_length_le (by simp; omega)
theorem cutF_snoc {a : List ByteArray} {f i : Nat} (h1 : f ≤ i) (h2 : i < a.length) : cutF a f (i + 1) = cutF a f i ++ [a[i]] := by
  unfold cutF
  have e : i + 1 - f = (i - f) + 1 := by omega
  have hl : i - f < (a.drop f).length := by simp; omega
  rw [e, List.take_succ_eq_append_getElem hl]
  congr 2
  rw [List.getElem_drop]
  congr 1
  omega
theorem cutF_take {b : List ByteArray} {f k : Nat} (h : f ≤ k) : b.take f ++ cutF b f k = b.take k := by
  unfold cutF
  have e : k = f + (k - f) := by omega
  conv => rhs; rw [e, List.take_add]
/-- the pieces put in -/
theorem do_df (a b : List ByteArray) : ∀ (ms : List Int) (i fa fb fr : Nat) (out : List ByteArray), okM a b ms i fa fb → fr ≤ fa → fa ≤ i → out ++ cutF a fr fa = b.take fb → doF a (df a b ms i fa fb) fr out = some b
  | [], i, fa, fb, fr, out, ho, h1, h2, he => by
    obtain ⟨r1, r2, r3⟩ := ho
    subst r1; subst r2; subst r3
    rw [df, doF, ← cutF_all (a := a) (f := fr) (i := a.length + 1) (by omega), he, List.take_of_length_le (by omega)]
  | m :: ms, i, fa, fb, fr, out, ho, h1, h2, he => by
    rcases ho with ⟨rfl, hi, ho⟩ | ⟨k, rfl, hf, hk, hm, ho⟩
    · rw [df, if_pos (by omega)]
      exact do_df a b ms (i + 1) fa fb fr out ho h1 (by omega) he
    · have hia : i ≤ a.length := by rcases hm with ⟨h, _⟩ | ⟨h, _⟩ <;> omega
      rw [df, if_neg (by omega), Int.toNat_natCast]
      by_cases hg : fa < i ∨ fb < k
      · rw [if_pos hg, doF]
        have hl := cutF_len (a := a) h2 hia
        simp only [Int.toNat_natCast, hl]
        rw [if_neg (by omega), if_pos (by rfl)]
        have e1 : fa + (i - fa) = i := by omega
        rw [e1]
        refine do_df a b ms (i + 1) (i + 1) (k + 1) i _ ho (by omega) (Nat.le_refl _) ?_
        rw [he, cutF_take hf]
        rcases hm with ⟨h3, h4, h5⟩ | ⟨h3, h4⟩
        · rw [cutF_snoc (Nat.le_refl i) h3, cutF_same, List.nil_append, h5, ← List.take_succ_eq_append_getElem h4]
        · subst h3; subst h4
          rw [cutF_all (a := a) (f := a.length) (by omega), List.drop_length, List.append_nil, List.take_of_length_le (Nat.le_refl _), List.take_of_length_le (by omega)]
      · rw [if_neg hg]
        obtain rfl : fa = i := by omega
        obtain rfl : fb = k := by omega
        refine do_df a b ms (fa + 1) (fa + 1) (fb + 1) fr out ho (by omega) (Nat.le_refl _) ?_
        rcases hm with ⟨h3, h4, h5⟩ | ⟨h3, h4⟩
        · rw [cutF_snoc h1 h3, ← List.append_assoc, he, h5, ← List.take_succ_eq_append_getElem h4]
        · subst h3; subst h4
          rw [cutF_all (by omega), ← cutF_all (a := a) (f := fr) (Nat.le_refl _), he, List.take_of_length_le (Nat.le_refl _), List.take_of_length_le (by omega)]

/-- pieces in order from lo on -/
def chainH (lo : Nat) : List Hunk → Prop
  | [] => True
  | h :: r => (lo : Int) ≤ h.at_ ∧ hunkB h = true ∧ chainH (h.at_.toNat + h.less.length + 1) r
theorem chain_at : ∀ {d : List Hunk} {lo : Nat}, chainH lo d → ∀ (i : Nat) (hi : i < d.length), hunkB d[i] = true ∧ (lo : Int) ≤ d[i].at_
  | h :: r, lo, ⟨h1, h2, h3⟩, 0, _ => ⟨h2, h1⟩
  | h :: r, lo, ⟨h1, h2, h3⟩, i + 1, hi => by
    have := chain_at h3 i (by simpa using hi)
    refine ⟨by simpa using this.1, ?_⟩
    have h4 := this.2
    simp only [List.getElem_cons_succ]
    omega
theorem chain_gap : ∀ {d : List Hunk} {lo : Nat}, chainH lo d → ∀ (i : Nat) (hi : i + 1 < d.length), d[i].at_ + d[i].less.length < d[i + 1].at_
  | h :: r, lo, ⟨h1, h2, h3⟩, 0, hi => by
    have := (chain_at h3 0 (by simpa using hi)).2
    simp only [List.getElem_cons_zero, List.getElem_cons_succ]
    omega
  | h :: r, lo, ⟨h1, h2, h3⟩, i + 1, hi => by
    have := chain_gap h3 i (by simpa using hi)
    simpa using this
theorem chain_patch {d : List Hunk} {lo : Nat} (h : chainH lo d) (hl : d.length ≤ 8) : patchB d = true := by
  refine (patchB_iff d).2 ⟨hl, fun i hi => ⟨?_, ?_⟩⟩
  · rw [getD_hunk hi]; exact (chain_at h i hi).1
  · by_cases h0 : 0 < i
    · rw [gapB_pos h0 hi]
      have := chain_gap h (i - 1) (by omega)
      have e : i - 1 + 1 = i := by omega
      simp only [e] at this
      exact decide_eq_true this
    · unfold gapB
      rw [decide_eq_true (by omega : i = 0), Bool.true_or]
theorem textB_iff' (t : List ByteArray) : textB t = true ↔ t.length ≤ 10 ∧ ∀ s, s ∈ t → lineB s = true := by simp [textB]
theorem textB_cut {a : List ByteArray} (h : textB a = true) (f i : Nat) : textB (cutF a f i) = true := by
  rw [textB_iff'] at h ⊢
  refine ⟨?_, fun s hs => h.2 s (List.mem_of_mem_drop (List.mem_of_mem_take hs))⟩
  have : (cutF a f i).length ≤ a.length := by unfold cutF; simp; omega
  omega
theorem df_chain {a b : List ByteArray} (ha : textB a = true) (hb : textB b = true) : ∀ (ms : List Int) (i fa fb : Nat), okM a b ms i fa fb → fa ≤ i → chainH fa (df a b ms i fa fb) ∧ 3 * (df a b ms i fa fb).length + fa + fb ≤ a.length + 1 + (b.length + 1)
  | [], i, fa, fb, ho, h2 => by
    obtain ⟨r1, r2, r3⟩ := ho
    subst r1; subst r2; subst r3
    exact ⟨trivial, by simp [df]⟩
  | m :: ms, i, fa, fb, ho, h2 => by
    rcases ho with ⟨rfl, hi, ho⟩ | ⟨k, rfl, hf, hk, hm, ho⟩
    · rw [df, if_pos (by omega)]
      exact df_chain ha hb ms (i + 1) fa fb ho (by omega)
    · have hia : i ≤ a.length := by rcases hm with ⟨h, _⟩ | ⟨h, _⟩ <;> omega
      have ih := df_chain ha hb ms (i + 1) (i + 1) (k + 1) ho (Nat.le_refl _)
      have h10 := text_len10 ha
      rw [df, if_neg (by omega), Int.toNat_natCast]
      by_cases hg : fa < i ∨ fb < k
      · rw [if_pos hg]
        have hl := cutF_len (a := a) h2 hia
        have hl2 := cutF_len (a := b) hf hk
        refine ⟨⟨Int.le_refl _, ?_, ?_⟩, by rw [List.length_cons]; omega⟩
        · rw [hunkB_iff]
          refine ⟨⟨by simp, by simp; omega⟩, textB_cut ha _ _, textB_cut hb _ _, ?_⟩
          simp only [hl, hl2]; omega
        · simp only [Int.toNat_natCast, hl]
          have e : fa + (i - fa) + 1 = i + 1 := by omega
          rw [e]
          exact ih.1
      · rw [if_neg hg]
        obtain rfl : fa = i := by omega
        refine ⟨?_, by omega⟩
        cases hd : df a b ms (fa + 1) (fa + 1) (k + 1) with
        | nil => trivial
        | cons x r =>
          have := ih.1
          rw [hd] at this
          exact ⟨by have := this.1; omega, this.2⟩
/-- the law -/
theorem diff_do {a b : List ByteArray} (ha : textB a = true) (hb : textB b = true) : pDo a (diffT a b) = (b, true) := by
  have h := df_chain ha hb (pairsT a b) 0 0 0 (pairs_ok a b) (Nat.le_refl _)
  have ha10 := text_len10 ha
  have hb10 := text_len10 hb
  have hp : patchB (diffT a b) = true := chain_patch h.1 (by unfold diffT; omega)
  rw [pDo_ok ha hp]
  exact pDoF_some (do_df a b (pairsT a b) 0 0 0 0 [] (pairs_ok a b) (Nat.le_refl _) (Nat.le_refl _) (by simp [cutF])) hb
theorem pOver_do {t : List ByteArray} {a b : List Hunk} {d : List Hunk} (h : pOver t a b = (d, true)) : ∃ x y, pDo t a = (x, true) ∧ pDo x b = (y, true) ∧ pDo t d = (y, true) := by
  unfold pOver at h
  by_cases hc : (pDo t a).2 = true ∧ (pDo (pDo t a).1 b).2 = true
  · rw [if_pos hc] at h
    simp only [Prod.mk.injEq, and_true] at h
    refine ⟨(pDo t a).1, (pDo (pDo t a).1 b).1, ?_, ?_, ?_⟩
    · rw [← hc.1]
    · rw [← hc.2]
    · rw [← h]; exact diff_do (pDo_text hc.1).1 (pDo_text hc.2).2.2
  · rw [if_neg hc] at h; simp at h
end Go.Vc
namespace Go.Vc
/-- all that a change names -/
def ppC (c : Change) : List ByteArray := if c.kind = 4 then [c.path, c.dst] else [c.path]
def pathsC : List Change → List ByteArray
  | [] => []
  | c :: r => ppC c ++ pathsC r
def changeB (c : Change) : Bool :=
  if c.kind = 1 ∨ c.kind = 2 then pathB c.path && (textB c.text && (decide (c.dst = ⟨#[]⟩) && decide (c.patch.length = 0)))
  else if c.kind = 3 then pathB c.path && (decide (c.text.length = 0) && (decide (c.dst = ⟨#[]⟩) && (decide (0 < c.patch.length) && patchB c.patch)))
  else if c.kind = 4 then pathB c.path && (decide (c.text.length = 0) && (decide (c.patch.length = 0) && (pathB c.dst && decide (¬ c.dst = c.path))))
  else false
def changesB (list : List Change) : Bool := decide (list.length ≤ 16) && (list.all changeB && decide (pathsC list).Nodup)
theorem changesB_iff (list : List Change) : changesB list = true ↔ list.length ≤ 16 ∧ (∀ c, c ∈ list → changeB c = true) ∧ (pathsC list).Nodup := by
  simp [changesB, List.all_eq_true]
/-- what is taken out -/
def takeC (t : List File) : List Change → List File → Option (List File)
  | [], out => some out
  | c :: r, out => if c.kind = 1 then takeC t r out else
    match getT t c.path with
    | none => none
    | some x => if c.kind = 2 ∧ ¬ x = c.text then none else takeC t r (out.filter fun g => !decide (g.path = c.path))
/-- the file that a change puts in -/
def fileC (t : List File) (c : Change) : Option File :=
  if c.kind = 3 then (if (pDo ((getT t c.path).getD []) c.patch).2 = true then some ⟨c.path, (pDo ((getT t c.path).getD []) c.patch).1⟩ else none)
  else if c.kind = 4 then some ⟨c.dst, (getT t c.path).getD []⟩ else some ⟨c.path, c.text⟩
def putC (t : List File) : List Change → List File → Option (List File)
  | [], out => some out
  | c :: r, out => if c.kind = 2 then putC t r out else
    match fileC t c with
    | none => none
    | some f => if (getT out f.path).isSome = true then none else putC t r (setT out f)
def doC (t : List File) (list : List Change) : Option (List File) :=
  match takeC t list t with
  | none => none
  | some out => match putC t list out with
    | none => none
    | some x => if treeB x = true then some x else none
def changesDo (t : List File) (list : List Change) : List File × Bool :=
  if treeB t = true ∧ changesB list = true then (match doC t list with | some x => (x, true) | none => ([], false)) else ([], false)
theorem changesDo_ok {t x : List File} {list : List Change} (h : changesDo t list = (x, true)) : treeB t = true ∧ changesB list = true ∧ doC t list = some x ∧ treeB x = true := by
  unfold changesDo at h
  split at h
  · rename_i h1
    cases hd : doC t list with
    | none => rw [hd] at h; cases h
    | some y =>
      rw [hd] at h
      have e : y = x := (Prod.mk.inj h).1
      subst e
      refine ⟨h1.1, h1.2, rfl, ?_⟩
      unfold doC at hd
      split at hd
      · cases hd
      · split at hd
        · cases hd
        · split at hd
          · rename_i h4
            rw [← Option.some.inj hd]; exact h4
          · cases hd
  · cases h
/-- what a change finds, and what it leaves -/
def goodC (t x : List File) (c : Change) : Prop :=
  (c.kind = 1 ∧ getT t c.path = none ∧ getT x c.path = some c.text) ∨
  (c.kind = 2 ∧ getT t c.path = some c.text ∧ getT x c.path = none) ∨
  (c.kind = 3 ∧ ∃ a b, getT t c.path = some a ∧ getT x c.path = some b ∧ pDo a c.patch = (b, true)) ∨
  (c.kind = 4 ∧ ∃ a, getT t c.path = some a ∧ getT x c.path = none ∧ getT t c.dst = none ∧ getT x c.dst = some a)
def goodL (t x : List File) (list : List Change) : Prop := (∀ c, c ∈ list → goodC t x c) ∧ ∀ p, p ∉ pathsC list → getT x p = getT t p
theorem mem_pathsC {p : ByteArray} : ∀ {list : List Change}, p ∈ pathsC list ↔ ∃ c, c ∈ list ∧ p ∈ ppC c
  | [] => by simp [pathsC]
  | c :: r => by
    rw [pathsC, List.mem_append, mem_pathsC]
    constructor
    · rintro (h | ⟨d, h1, h2⟩)
      · exact ⟨c, List.mem_cons_self .., h⟩
      · exact ⟨d, List.mem_cons_of_mem _ h1, h2⟩
    · rintro ⟨d, h1, h2⟩
      rcases List.mem_cons.1 h1 with rfl | h1
      · exact .inl h2
      · exact .inr ⟨d, h1, h2⟩
theorem pp_path (c : Change) : c.path ∈ ppC c := by unfold ppC; split <;> simp
theorem pp_dst {c : Change} (h : c.kind = 4) : c.dst ∈ ppC c := by unfold ppC; rw [if_pos h]; simp
theorem pp_cases {c : Change} {p : ByteArray} (h : p ∈ ppC c) : p = c.path ∨ (c.kind = 4 ∧ p = c.dst) := by
  unfold ppC at h
  split at h
  · rename_i h4
    simp at h
    rcases h with h | h
    · exact .inl h
    · exact .inr ⟨h4, h⟩
  · simp at h; exact .inl h
/-- each path is of one change -/
theorem one_path {p : ByteArray} : ∀ {list : List Change}, (pathsC list).Nodup → ∀ {c d : Change}, c ∈ list → d ∈ list → p ∈ ppC c → p ∈ ppC d → c = d
  | [], _, _, _, h, _, _, _ => by cases h
  | e :: r, hn, c, d, hc, hd, h1, h2 => by
    rw [pathsC] at hn
    obtain ⟨_, n2, n3⟩ := List.nodup_append.1 hn
    rcases List.mem_cons.1 hc with e1 | hc1
    · rcases List.mem_cons.1 hd with e2 | hd1
      · rw [e1, e2]
      · exact absurd rfl (n3 p (e1 ▸ h1) p (mem_pathsC.2 ⟨d, hd1, h2⟩))
    · rcases List.mem_cons.1 hd with e2 | hd1
      · exact absurd rfl (n3 p (e2 ▸ h2) p (mem_pathsC.2 ⟨c, hc1, h1⟩))
      · exact one_path n2 hc1 hd1 h1 h2
def goneC (list : List Change) (p : ByteArray) : Prop := ∃ c, c ∈ list ∧ ¬ c.kind = 1 ∧ c.path = p
theorem take_some {t : List File} : ∀ {list : List Change} {out r : List File}, takeC t list out = some r → AscF out →
    AscF r ∧ (∀ c, c ∈ list → ¬ c.kind = 1 → ∃ x, getT t c.path = some x ∧ (c.kind = 2 → x = c.text)) ∧ (∀ p, goneC list p → getT r p = none) ∧ ∀ p, ¬ goneC list p → getT r p = getT out p
  | [], out, r, h, ha => by
    rw [takeC] at h
    obtain rfl := Option.some.inj h
    exact ⟨ha, fun c hc => (by cases hc), fun p ⟨c, hc, _⟩ => (by cases hc), fun p _ => rfl⟩
  | c :: l, out, r, h, ha => by
    rw [takeC] at h
    split at h
    · rename_i h1
      obtain ⟨k1, k2, k3, k4⟩ := take_some h ha
      refine ⟨k1, fun d hd hk => ?_, fun p ⟨d, hd, hk, hp⟩ => ?_, fun p hp => ?_⟩
      · rcases List.mem_cons.1 hd with rfl | hd
        · exact absurd h1 hk
        · exact k2 d hd hk
      · rcases List.mem_cons.1 hd with rfl | hd
        · exact absurd h1 hk
        · exact k3 p ⟨d, hd, hk, hp⟩
      · exact k4 p fun ⟨d, hd, hk⟩ => hp ⟨d, List.mem_cons_of_mem _ hd, hk⟩
    · rename_i h1
      cases hg : getT t c.path with
      | none => rw [hg] at h; cases h
      | some x =>
        rw [hg] at h
        simp only at h
        split at h
        · cases h
        · rename_i h2
          obtain ⟨k1, k2, k3, k4⟩ := take_some h (ha.filter _)
          have hnone : getT (out.filter fun g => !decide (g.path = c.path)) c.path = none := getT_none fun f hf e => by
            rw [List.mem_filter] at hf
            simp [e] at hf
          have hsame : ∀ p, ¬ p = c.path → getT (out.filter fun g => !decide (g.path = c.path)) p = getT out p := fun p hp => getT_filter fun g _ e => by
            have : ¬ g.path = c.path := fun e' => hp (e.symm.trans e')
            simp [this]
          refine ⟨k1, fun d hd hk => ?_, fun p ⟨d, hd, hk, hp⟩ => ?_, fun p hp => ?_⟩
          · rcases List.mem_cons.1 hd with rfl | hd
            · refine ⟨x, hg, fun h3 => ?_⟩
              exact Classical.byContradiction fun h4 => h2 ⟨h3, h4⟩
            · exact k2 d hd hk
          · by_cases hl : goneC l p
            · exact k3 p hl
            · rcases List.mem_cons.1 hd with rfl | hd
              · rw [k4 p hl, ← hp]; exact hnone
              · exact absurd ⟨d, hd, hk, hp⟩ hl
          · have hl : ¬ goneC l p := fun ⟨d, hd, hk⟩ => hp ⟨d, List.mem_cons_of_mem _ hd, hk⟩
            have hpc : ¬ p = c.path := fun e => hp ⟨c, List.mem_cons_self .., h1, e.symm⟩
            rw [k4 p hl, hsame p hpc]
theorem take_all {t : List File} : ∀ {list : List Change} {out : List File}, (∀ c, c ∈ list → ¬ c.kind = 1 → ∃ x, getT t c.path = some x ∧ (c.kind = 2 → x = c.text)) → ∃ r, takeC t list out = some r
  | [], out, _ => ⟨out, rfl⟩
  | c :: l, out, h => by
    rw [takeC]
    split
    · exact take_all fun d hd => h d (List.mem_cons_of_mem _ hd)
    · rename_i h1
      obtain ⟨x, hx, h2⟩ := h c (List.mem_cons_self ..) h1
      rw [hx]
      simp only
      rw [if_neg (fun h3 => h3.2 (h2 h3.1))]
      exact take_all fun d hd => h d (List.mem_cons_of_mem _ hd)
/-- where a change puts its file -/
def tgtC (c : Change) : ByteArray := if c.kind = 4 then c.dst else c.path
theorem tgt_pp (c : Change) : tgtC c ∈ ppC c := by
  unfold tgtC
  split
  · rename_i h; exact pp_dst h
  · exact pp_path c
theorem file_path {t : List File} {c : Change} {f : File} (h : fileC t c = some f) : f.path = tgtC c := by
  unfold fileC at h
  split at h
  · rename_i h3
    split at h
    · rw [← Option.some.inj h]; unfold tgtC; rw [if_neg (by omega)]
    · cases h
  · split at h
    · rename_i h4
      rw [← Option.some.inj h]; unfold tgtC; rw [if_pos h4]
    · rename_i h4
      rw [← Option.some.inj h]; unfold tgtC; rw [if_neg h4]
theorem put_some {t : List File} : ∀ {list : List Change} {out x : List File}, putC t list out = some x → AscF out →
    AscF x ∧ (∀ c, c ∈ list → ¬ c.kind = 2 → ∃ f, fileC t c = some f ∧ getT x f.path = some f.text ∧ getT out f.path = none) ∧ ∀ p, (∀ c, c ∈ list → ¬ c.kind = 2 → ¬ tgtC c = p) → getT x p = getT out p
  | [], out, x, h, ha => by
    rw [putC] at h
    obtain rfl := Option.some.inj h
    exact ⟨ha, fun c hc => (by cases hc), fun p _ => rfl⟩
  | c :: l, out, x, h, ha => by
    rw [putC] at h
    split at h
    · rename_i h2
      obtain ⟨k1, k2, k3⟩ := put_some h ha
      refine ⟨k1, fun d hd hk => ?_, fun p hp => k3 p fun d hd => hp d (List.mem_cons_of_mem _ hd)⟩
      rcases List.mem_cons.1 hd with rfl | hd
      · exact absurd h2 hk
      · exact k2 d hd hk
    · rename_i h2
      cases hf : fileC t c with
      | none => rw [hf] at h; cases h
      | some f =>
        rw [hf] at h
        simp only at h
        split at h
        · cases h
        · rename_i h3
          have hn : getT out f.path = none := by
            cases hg : getT out f.path with
            | none => rfl
            | some y => rw [hg] at h3; exact absurd rfl h3
          obtain ⟨k1, k2, k3⟩ := put_some h (asc_set ha f)
          have hset : getT (setT out f) f.path = some f.text := getT_set f out
          have hset2 : ∀ p, ¬ p = f.path → getT (setT out f) p = getT out p := fun p hp => getT_set2 hp out false
          have hother : ∀ d, d ∈ l → ¬ d.kind = 2 → ¬ tgtC d = f.path := fun d hd hk e => by
            obtain ⟨g, hg, _, hg2⟩ := k2 d hd hk
            rw [file_path hg, e, hset] at hg2
            cases hg2
          refine ⟨k1, fun d hd hk => ?_, fun p hp => ?_⟩
          · rcases List.mem_cons.1 hd with rfl | hd
            · exact ⟨f, hf, by rw [k3 f.path hother, hset], hn⟩
            · obtain ⟨g, hg, hg1, hg2⟩ := k2 d hd hk
              refine ⟨g, hg, hg1, ?_⟩
              rw [← hset2 g.path fun e => hother d hd hk ((file_path hg).symm.trans e)]
              exact hg2
          · rw [k3 p fun d hd => hp d (List.mem_cons_of_mem _ hd)]
            exact hset2 p fun e => hp c (List.mem_cons_self ..) h2 ((file_path hf).symm.trans e.symm)
theorem put_all {t : List File} : ∀ {list : List Change} {out : List File}, (pathsC list).Nodup → (∀ c, c ∈ list → ¬ c.kind = 2 → ∃ f, fileC t c = some f ∧ getT out f.path = none) → ∃ x, putC t list out = some x
  | [], out, _, _ => ⟨out, rfl⟩
  | c :: l, out, hn, h => by
    rw [pathsC] at hn
    obtain ⟨_, n2, n3⟩ := List.nodup_append.1 hn
    rw [putC]
    split
    · exact put_all n2 fun d hd => h d (List.mem_cons_of_mem _ hd)
    · rename_i h2
      obtain ⟨f, hf, hg⟩ := h c (List.mem_cons_self ..) h2
      rw [hf]
      simp only
      rw [hg, if_neg (by simp)]
      refine put_all n2 fun d hd hk => ?_
      obtain ⟨g, hg1, hg2⟩ := h d (List.mem_cons_of_mem _ hd) hk
      refine ⟨g, hg1, ?_⟩
      rw [← hg2]
      refine getT_set2 (fun e => ?_) out false
      rw [file_path hf, file_path hg1] at e
      exact n3 _ (tgt_pp c) _ (mem_pathsC.2 ⟨d, hd, tgt_pp d⟩) e.symm
theorem changeB_kind {c : Change} (h : changeB c = true) : c.kind = 1 ∨ c.kind = 2 ∨ c.kind = 3 ∨ c.kind = 4 := by
  unfold changeB at h
  split at h
  · rename_i h1
    rcases h1 with h1 | h1
    · exact .inl h1
    · exact .inr (.inl h1)
  · split at h
    · rename_i h3; exact .inr (.inr (.inl h3))
    · split at h
      · rename_i h4; exact .inr (.inr (.inr h4))
      · cases h
theorem changeB_move {c : Change} (h : changeB c = true) (h4 : c.kind = 4) : ¬ c.dst = c.path ∧ pathB c.dst = true ∧ c.text = [] ∧ c.patch = [] := by
  unfold changeB at h
  rw [if_neg (by omega), if_neg (by omega), if_pos h4] at h
  simp only [Bool.and_eq_true, decide_eq_true_eq] at h
  exact ⟨h.2.2.2.2, h.2.2.2.1, List.eq_nil_of_length_eq_zero h.2.1, List.eq_nil_of_length_eq_zero h.2.2.1⟩
theorem changeB_path {c : Change} (h : changeB c = true) : pathB c.path = true := by
  unfold changeB at h
  split at h
  · simp only [Bool.and_eq_true] at h; exact h.1
  · split at h
    · simp only [Bool.and_eq_true] at h; exact h.1
    · split at h
      · simp only [Bool.and_eq_true] at h; exact h.1
      · cases h
theorem made_good {t out x : List File} {list : List Change} (hA : AscF t) (hB : ∀ c, c ∈ list → changeB c = true) (hN : (pathsC list).Nodup) (h1 : takeC t list t = some out) (h2 : putC t list out = some x) : goodL t x list ∧ AscF x := by
  obtain ⟨a1, a2, a3, a4⟩ := take_some h1 hA
  obtain ⟨b1, b2, b3⟩ := put_some h2 a1
  have hne : ∀ {c d : Change} {p}, c ∈ list → d ∈ list → p ∈ ppC c → p ∈ ppC d → c = d := fun hc hd => one_path hN hc hd
  refine ⟨⟨fun c hc => ?_, fun p hp => ?_⟩, b1⟩
  · rcases changeB_kind (hB c hc) with hk | hk | hk | hk
    · obtain ⟨f, hf, hx, ho⟩ := b2 c hc (by omega)
      unfold fileC at hf
      rw [if_neg (by omega), if_neg (by omega)] at hf
      obtain rfl := Option.some.inj hf
      refine .inl ⟨hk, ?_, hx⟩
      rw [← a4 c.path fun ⟨d, hd, hdk, hp⟩ => ?_]
      · exact ho
      · have := hne hc hd (pp_path c) (by rw [← hp]; exact pp_path d)
        subst this
        exact hdk hk
    · obtain ⟨y, hy, hy2⟩ := a2 c hc (by omega)
      refine .inr (.inl ⟨hk, by rw [hy, hy2 hk], ?_⟩)
      rw [b3 c.path fun d hd hdk e => ?_]
      · exact a3 _ ⟨c, hc, by omega, rfl⟩
      · have := hne hc hd (pp_path c) (by rw [← e]; exact tgt_pp d)
        subst this
        exact hdk hk
    · obtain ⟨y, hy, _⟩ := a2 c hc (by omega)
      obtain ⟨f, hf, hx, ho⟩ := b2 c hc (by omega)
      unfold fileC at hf
      rw [if_pos hk, hy] at hf
      simp only [Option.getD_some] at hf
      split at hf
      · rename_i hd
        obtain rfl := Option.some.inj hf
        exact .inr (.inr (.inl ⟨hk, y, _, hy, hx, by rw [← hd]⟩))
      · cases hf
    · obtain ⟨y, hy, _⟩ := a2 c hc (by omega)
      obtain ⟨f, hf, hx, ho⟩ := b2 c hc (by omega)
      unfold fileC at hf
      rw [if_neg (by omega), if_pos hk, hy] at hf
      obtain rfl := Option.some.inj hf
      obtain ⟨hne4, _⟩ := changeB_move (hB c hc) hk
      refine .inr (.inr (.inr ⟨hk, y, hy, ?_, ?_, hx⟩))
      · rw [b3 c.path fun d hd hdk e => ?_]
        · exact a3 _ ⟨c, hc, by omega, rfl⟩
        · have := hne hc hd (pp_path c) (by rw [← e]; exact tgt_pp d)
          subst this
          unfold tgtC at e
          rw [if_pos hk] at e
          exact hne4 e
      · rw [← a4 c.dst fun ⟨d, hd, hdk, hp⟩ => ?_]
        · exact ho
        · have := hne hc hd (pp_dst hk) (by rw [← hp]; exact pp_path d)
          subst this
          exact hne4 hp.symm
  · rw [b3 p fun d hd _ e => hp (mem_pathsC.2 ⟨d, hd, by rw [← e]; exact tgt_pp d⟩)]
    exact a4 p fun ⟨d, hd, _, e⟩ => hp (mem_pathsC.2 ⟨d, hd, by rw [← e]; exact pp_path d⟩)
/-- what changes make is one thing -/
theorem good_one {t x y : List File} {list : List Change} (h : goodL t x list) (k : goodL t y list) (p : ByteArray) : getT x p = getT y p := by
  by_cases hp : p ∈ pathsC list
  · obtain ⟨c, hc, hpc⟩ := mem_pathsC.1 hp
    have h1 := h.1 c hc
    have k1 := k.1 c hc
    rcases h1 with ⟨e, h2, h3⟩ | ⟨e, h2, h3⟩ | ⟨e, a, b, h2, h3, h4⟩ | ⟨e, a, h2, h3, h4, h5⟩
    all_goals (rcases k1 with ⟨e', k2, k3⟩ | ⟨e', k2, k3⟩ | ⟨e', a', b', k2, k3, k4⟩ | ⟨e', a', k2, k3, k4, k5⟩)
    all_goals (first | omega | skip)
    · rcases pp_cases hpc with rfl | ⟨h, _⟩
      · rw [h3, k3]
      · omega
    · rcases pp_cases hpc with rfl | ⟨h, _⟩
      · rw [h3, k3]
      · omega
    · rcases pp_cases hpc with rfl | ⟨h, _⟩
      · rw [h2] at k2
        obtain rfl := Option.some.inj k2
        rw [h4] at k4
        rw [h3, k3, (Prod.mk.inj k4).1]
      · omega
    · rcases pp_cases hpc with rfl | ⟨_, rfl⟩
      · rw [h3, k3]
      · rw [h2] at k2
        obtain rfl := Option.some.inj k2
        rw [h5, k5]
  · rw [h.2 p hp, k.2 p hp]
theorem asc_get {x y : List File} (hx : AscF x) (hy : AscF y) (h : ∀ p, getT x p = getT y p) : x = y := by
  have dx : DistF x := hx.imp fun {f g} h e => by rw [e, lessB_irr] at h; cases h
  have dy : DistF y := hy.imp fun {f g} h e => by rw [e, lessB_irr] at h; cases h
  refine asc_ext hx hy fun g => ?_
  constructor
  · intro hg
    have := getT_of dx hg
    rw [h] at this
    obtain ⟨f, hf, e1, e2⟩ := getT_mem this
    have : f = g := by cases f; cases g; simp only at e1 e2; rw [e1, e2]
    rw [← this]; exact hf
  · intro hg
    have := getT_of dy hg
    rw [← h] at this
    obtain ⟨f, hf, e1, e2⟩ := getT_mem this
    have : f = g := by cases f; cases g; simp only at e1 e2; rw [e1, e2]
    rw [← this]; exact hf
theorem good_fit {t x : List File} {list : List Change} (h : goodL t x list) (hN : (pathsC list).Nodup) : ∃ out y, takeC t list t = some out ∧ (AscF t → putC t list out = some y) := by
  obtain ⟨out, ho⟩ := take_all (t := t) (list := list) (out := t) fun c hc hk => by
    rcases h.1 c hc with ⟨e, h2, h3⟩ | ⟨e, h2, h3⟩ | ⟨e, a, b, h2, h3, h4⟩ | ⟨e, a, h2, h3, h4, h5⟩
    · exact absurd e hk
    · exact ⟨_, h2, fun _ => rfl⟩
    · exact ⟨_, h2, fun e' => by omega⟩
    · exact ⟨_, h2, fun e' => by omega⟩
  by_cases hA : AscF t
  · obtain ⟨a1, a2, a3, a4⟩ := take_some ho hA
    obtain ⟨y, hy⟩ := put_all (t := t) (list := list) (out := out) hN fun c hc hk => by
      rcases h.1 c hc with ⟨e, h2, h3⟩ | ⟨e, h2, h3⟩ | ⟨e, a, b, h2, h3, h4⟩ | ⟨e, a, h2, h3, h4, h5⟩
      · refine ⟨⟨c.path, c.text⟩, by unfold fileC; rw [if_neg (by omega), if_neg (by omega)], ?_⟩
        by_cases hg : goneC list c.path
        · exact a3 _ hg
        · rw [a4 _ hg]; exact h2
      · exact absurd e hk
      · refine ⟨⟨c.path, b⟩, by unfold fileC; rw [if_pos e, h2, Option.getD_some, h4]; rfl, ?_⟩
        exact a3 _ ⟨c, hc, by omega, rfl⟩
      · refine ⟨⟨c.dst, a⟩, by unfold fileC; rw [if_neg (by omega), if_pos e, h2]; rfl, ?_⟩
        by_cases hg : goneC list c.dst
        · exact a3 _ hg
        · rw [a4 _ hg]; exact h4
    exact ⟨out, y, ho, fun _ => hy⟩
  · exact ⟨out, [], ho, fun h => absurd h hA⟩
/-- what fits is made -/
theorem do_good {t x : List File} {list : List Change} (ht : treeB t = true) (hx : treeB x = true) (hb : changesB list = true) (h : goodL t x list) : changesDo t list = (x, true) := by
  obtain ⟨_, hB, hN⟩ := (changesB_iff list).1 hb
  obtain ⟨out, y, h1, h2⟩ := good_fit h hN
  have h2 := h2 (asc_tree ht)
  obtain ⟨hg, hy⟩ := made_good (asc_tree ht) hB hN h1 h2
  have e : y = x := asc_get hy (asc_tree hx) (good_one hg h)
  subst e
  unfold changesDo doC
  rw [if_pos ⟨ht, hb⟩, h1]
  simp only
  rw [h2]
  simp only
  rw [if_pos hx]
theorem good_do {t x : List File} {list : List Change} (h : changesDo t list = (x, true)) : treeB t = true ∧ treeB x = true ∧ changesB list = true ∧ goodL t x list := by
  obtain ⟨ht, hb, hd, hx⟩ := changesDo_ok h
  obtain ⟨_, hB, hN⟩ := (changesB_iff list).1 hb
  unfold doC at hd
  split at hd
  · cases hd
  · rename_i out h1
    split at hd
    · cases hd
    · rename_i y h2
      split at hd
      · obtain rfl := Option.some.inj hd
        exact ⟨ht, hx, hb, (made_good (asc_tree ht) hB hN h1 h2).1⟩
      · cases hd
end Go.Vc
namespace Go.Vc
theorem patch_chain {d : List Hunk} (h : patchB d = true) : ∀ (n i : Nat) (lo : Nat), n = d.length - i → i ≤ d.length → (∀ hi : i < d.length, (lo : Int) ≤ d[i].at_) → chainH lo (d.drop i)
  | 0, i, lo, hn, hi, _ => by rw [List.drop_eq_nil_of_le (by omega)]; trivial
  | n + 1, i, lo, hn, hi, hlo => by
    have hlt : i < d.length := by omega
    rw [drop_cons d i hlt]
    obtain ⟨p1, p2, p3, p4, p5⟩ := patch_at h hlt
    refine ⟨hlo hlt, (hunkB_iff _).2 ⟨⟨p1, p2⟩, p3, p4, p5⟩, patch_chain h n (i + 1) _ (by omega) (by omega) fun hi => ?_⟩
    have := patch_gap h (i := i + 1) (by omega) hi
    simp only [Nat.add_sub_cancel] at this
    omega
theorem patch_chain0 {d : List Hunk} (h : patchB d = true) : chainH 0 d := by
  have := patch_chain h d.length 0 0 (by omega) (by omega) fun hi => (patch_at h hi).1
  simpa using this
theorem doF_pre {t : List ByteArray} : ∀ {d : List Hunk} {fr : Nat} {out x : List ByteArray}, doF t d fr out = some x → ∃ z, x = out ++ z
  | [], fr, out, x, h => by rw [doF] at h; exact ⟨_, (Option.some.inj h).symm⟩
  | h :: r, fr, out, x, hd => by
    rw [doF] at hd
    split at hd
    · cases hd
    · split at hd
      · obtain ⟨z, hz⟩ := doF_pre hd
        exact ⟨_, by rw [hz, List.append_assoc, List.append_assoc]⟩
      · cases hd
theorem back_do {t x : List ByteArray} : ∀ {d : List Hunk} {fr : Nat} {out out' : List ByteArray}, chainH fr d → fr ≤ t.length → doF t d fr out = some x →
    doF x (backF d ((out.length : Int) - fr)) out.length out' = some (out' ++ t.drop fr)
  | [], fr, out, out', _, hfr, hd => by
    rw [doF] at hd
    rw [backF, doF, ← Option.some.inj hd, List.drop_left]
  | h :: r, fr, out, out', ⟨c1, c2, c3⟩, hfr, hd => by
    rw [doF] at hd
    split at hd
    · cases hd
    · rename_i h1
      split at hd
      · rename_i h2
        obtain ⟨at_, hat⟩ : ∃ n : Nat, h.at_ = (n : Int) := ⟨h.at_.toNat, by have := ((hunkB_iff h).1 c2).1.1; omega⟩
        rw [hat, Int.toNat_natCast] at h1 h2 hd c3
        rw [hat] at c1
        have hfa : fr ≤ at_ := by omega
        have hcl : (cutF t fr at_).length = at_ - fr := cutF_len hfa (by omega)
        obtain ⟨z, hz⟩ := doF_pre hd
        rw [backF]
        have hat2 : h.at_ + ((out.length : Int) - fr) = ((out.length + (at_ - fr) : Nat) : Int) := by rw [hat]; omega
        rw [doF]
        simp only [hat2, Int.toNat_natCast]
        have hx1 : x = (out ++ cutF t fr at_) ++ (h.more ++ z) := by rw [hz]; simp only [List.append_assoc]
        have hl1 : (out ++ cutF t fr at_).length = out.length + (at_ - fr) := by rw [List.length_append, hcl]
        have hle : ¬ x.length < out.length + (at_ - fr) + h.more.length := by rw [hx1, List.length_append, hl1, List.length_append]; omega
        have htk : (x.drop (out.length + (at_ - fr))).take h.more.length = h.more := by rw [hx1, ← hl1, List.drop_left, List.take_left]
        rw [if_neg hle, if_pos htk]
        have hcut : cutF x out.length (out.length + (at_ - fr)) = cutF t fr at_ := by
          have e9 : cutF x out.length (out.length + (at_ - fr)) = (x.drop out.length).take (at_ - fr) := by unfold cutF; rw [Nat.add_sub_cancel_left]
          rw [e9, hx1, List.append_assoc, List.drop_left, ← hcl, List.take_left]
        rw [hcut]
        have hlen2 : (out ++ cutF t fr at_ ++ h.more).length = out.length + (at_ - fr) + h.more.length := by rw [List.length_append, hl1]
        have hby : (out.length : Int) - fr + h.more.length - h.less.length = ((out ++ cutF t fr at_ ++ h.more).length : Int) - ((at_ + h.less.length : Nat) : Int) := by rw [hlen2]; omega
        rw [hby, ← hlen2]
        have c4 : chainH (at_ + h.less.length) r := by
          cases r with
          | nil => trivial
          | cons y r => exact ⟨by have := c3.1; omega, c3.2⟩
        rw [back_do c4 (by omega) hd]
        have h3 : t.drop fr = cutF t fr at_ ++ (h.less ++ t.drop (at_ + h.less.length)) := by
          have e1 : t.drop at_ = h.less ++ t.drop (at_ + h.less.length) := by
            conv => lhs; rw [← List.take_append_drop h.less.length (t.drop at_), h2, List.drop_drop]
          rw [← e1]
          unfold cutF
          have e2 : t.drop at_ = (t.drop fr).drop (at_ - fr) := by rw [List.drop_drop]; congr 1; omega
          rw [e2, List.take_append_drop]
        rw [h3]
        simp only [List.append_assoc]
      · cases hd
theorem back_chain {t x : List ByteArray} (hx : textB x = true) : ∀ {d : List Hunk} {fr : Nat} {out : List ByteArray}, chainH fr d → fr ≤ t.length → doF t d fr out = some x → chainH out.length (backF d ((out.length : Int) - fr))
  | [], fr, out, _, hfr, hd => trivial
  | h :: r, fr, out, ⟨c1, c2, c3⟩, hfr, hd => by
    rw [doF] at hd
    split at hd
    · cases hd
    · rename_i h1
      split at hd
      · rename_i h2
        obtain ⟨⟨q1, q2⟩, q3, q4, q5⟩ := (hunkB_iff h).1 c2
        obtain ⟨at_, hat⟩ : ∃ n : Nat, h.at_ = (n : Int) := ⟨h.at_.toNat, by omega⟩
        rw [hat, Int.toNat_natCast] at h1 h2 hd c3
        rw [hat] at c1
        have hfa : fr ≤ at_ := by omega
        have hcl : (cutF t fr at_).length = at_ - fr := cutF_len hfa (by omega)
        obtain ⟨z, hz⟩ := doF_pre hd
        have hat2 : h.at_ + ((out.length : Int) - fr) = ((out.length + (at_ - fr) : Nat) : Int) := by rw [hat]; omega
        have hl1 : (out ++ cutF t fr at_).length = out.length + (at_ - fr) := by rw [List.length_append, hcl]
        have hlen2 : (out ++ cutF t fr at_ ++ h.more).length = out.length + (at_ - fr) + h.more.length := by rw [List.length_append, hl1]
        have hxl : x.length = out.length + (at_ - fr) + h.more.length + z.length := by rw [hz, List.length_append, hlen2]
        have hx10 := text_len10 hx
        rw [backF]
        refine ⟨?_, ?_, ?_⟩
        · simp only [hat2]; omega
        · rw [hunkB_iff]
          simp only [hat2]
          exact ⟨⟨by omega, by omega⟩, q4, q3, by omega⟩
        · simp only [hat2, Int.toNat_natCast]
          have hby : (out.length : Int) - fr + h.more.length - h.less.length = ((out ++ cutF t fr at_ ++ h.more).length : Int) - ((at_ + h.less.length : Nat) : Int) := by rw [hlen2]; omega
          rw [hby]
          have c4 : chainH (at_ + h.less.length) r := by
            cases r with
            | nil => trivial
            | cons y r => exact ⟨by have := c3.1; omega, c3.2⟩
          have ih := back_chain hx c4 (by omega) hd
          cases r with
          | nil => trivial
          | cons y r =>
            rw [backF] at ih ⊢
            refine ⟨?_, ih.2⟩
            have := c3.1
            rw [hlen2]
            simp only
            omega
      · cases hd
theorem backF_len : ∀ (d : List Hunk) (n : Int), (backF d n).length = d.length
  | [], _ => rfl
  | h :: r, n => by rw [backF, List.length_cons, backF_len r]; rfl
theorem back_back : ∀ (d : List Hunk) (n m : Int), n + m = 0 → backF (backF d n) m = d
  | [], _, _, _ => rfl
  | h :: r, n, m, e => by
    rw [backF, backF]
    simp only
    rw [back_back r _ _ (by omega)]
    have : h.at_ + n + m = h.at_ := by omega
    rw [this]
theorem pDo_back {a b : List ByteArray} {d : List Hunk} (h : pDo a d = (b, true)) : pDo b (backF d 0) = (a, true) ∧ patchB (backF d 0) = true := by
  obtain ⟨h1, h2, h3⟩ := pDo_text (t := a) (d := d) (by rw [h])
  rw [h] at h3
  have h3 : textB b = true := h3
  rw [pDo_ok h1 h2] at h
  unfold pDoF at h
  cases hd : doF a d 0 [] with
  | none => rw [hd] at h; cases h
  | some y =>
    rw [hd] at h
    have e : y = b := by
      have h9 : (if textB y = true then (y, true) else ([], false)) = (b, true) := h
      split at h9
      · exact (Prod.mk.inj h9).1
      · cases (Prod.mk.inj h9).2
    subst e
    have hc := patch_chain0 h2
    have hb := back_do (out' := []) hc (Nat.zero_le _) hd
    have hk := back_chain h3 hc (Nat.zero_le _) hd
    have e0 : ((([] : List ByteArray).length : Nat) : Int) - ((0 : Nat) : Int) = 0 := rfl
    rw [e0] at hb hk
    have hp : patchB (backF d 0) = true := chain_patch hk (by rw [backF_len]; exact patch_len h2)
    refine ⟨?_, hp⟩
    rw [pDo_ok h3 hp]
    refine pDoF_some ?_ h1
    simpa using hb
/-- a change taken back -/
def backC (c : Change) : Change :=
  if c.kind = 1 then ⟨2, c.path, ⟨#[]⟩, c.text, []⟩ else if c.kind = 2 then ⟨1, c.path, ⟨#[]⟩, c.text, []⟩
  else if c.kind = 3 then ⟨3, c.path, ⟨#[]⟩, [], backF c.patch 0⟩ else ⟨c.kind, c.dst, c.path, [], []⟩
def changesBack (list : List Change) : List Change := if changesB list = true then list.map backC else []
theorem changeB_form {c : Change} (h : changeB c = true) : (∃ p x, c = ⟨1, p, ⟨#[]⟩, x, []⟩ ∧ pathB p = true ∧ textB x = true) ∨ (∃ p x, c = ⟨2, p, ⟨#[]⟩, x, []⟩ ∧ pathB p = true ∧ textB x = true) ∨
    (∃ p d, c = ⟨3, p, ⟨#[]⟩, [], d⟩ ∧ pathB p = true ∧ 0 < d.length ∧ patchB d = true) ∨ (∃ p q, c = ⟨4, p, q, [], []⟩ ∧ pathB p = true ∧ pathB q = true ∧ ¬ q = p) := by
  obtain ⟨k, p, q, x, d⟩ := c
  unfold changeB at h
  simp only at h
  split at h
  · rename_i h1
    simp only [Bool.and_eq_true, decide_eq_true_eq] at h
    obtain ⟨a1, a2, a3, a4⟩ := h
    have a4 := List.eq_nil_of_length_eq_zero a4
    subst a3; subst a4
    rcases h1 with rfl | rfl
    · exact .inl ⟨p, x, rfl, a1, a2⟩
    · exact .inr (.inl ⟨p, x, rfl, a1, a2⟩)
  · split at h
    · rename_i h3
      simp only [Bool.and_eq_true, decide_eq_true_eq] at h
      obtain ⟨a1, a2, a3, a4, a5⟩ := h
      have a2 := List.eq_nil_of_length_eq_zero a2
      subst h3; subst a3; subst a2
      exact .inr (.inr (.inl ⟨p, d, rfl, a1, a4, a5⟩))
    · split at h
      · rename_i h4
        simp only [Bool.and_eq_true, decide_eq_true_eq] at h
        obtain ⟨a1, a2, a3, a4, a5⟩ := h
        have a2 := List.eq_nil_of_length_eq_zero a2
        have a3 := List.eq_nil_of_length_eq_zero a3
        subst h4; subst a3; subst a2
        exact .inr (.inr (.inr ⟨p, q, rfl, a1, a4, a5⟩))
      · cases h
theorem backC_1 (p : ByteArray) (x : List ByteArray) : backC ⟨1, p, ⟨#[]⟩, x, []⟩ = ⟨2, p, ⟨#[]⟩, x, []⟩ := rfl
theorem backC_2 (p : ByteArray) (x : List ByteArray) : backC ⟨2, p, ⟨#[]⟩, x, []⟩ = ⟨1, p, ⟨#[]⟩, x, []⟩ := rfl
theorem backC_3 (p : ByteArray) (d : List Hunk) : backC ⟨3, p, ⟨#[]⟩, [], d⟩ = ⟨3, p, ⟨#[]⟩, [], backF d 0⟩ := rfl
theorem backC_4 (p q : ByteArray) : backC ⟨4, p, q, [], []⟩ = ⟨4, q, p, [], []⟩ := rfl
theorem pathsC_back : ∀ {list : List Change}, (∀ c, c ∈ list → changeB c = true) → (pathsC (list.map backC)).Perm (pathsC list)
  | [], _ => List.Perm.refl _
  | c :: r, h => by
    rw [List.map_cons, pathsC, pathsC]
    refine List.Perm.append ?_ (pathsC_back fun d hd => h d (List.mem_cons_of_mem _ hd))
    rcases changeB_form (h c (List.mem_cons_self ..)) with ⟨p, x, rfl, _⟩ | ⟨p, x, rfl, _⟩ | ⟨p, d, rfl, _⟩ | ⟨p, q, rfl, _⟩
    · exact List.Perm.refl _
    · exact List.Perm.refl _
    · exact List.Perm.refl _
    · exact List.Perm.swap _ _ _
theorem back_law {t x : List File} {list : List Change} (hb : changesB list = true) (h : goodL t x list) : changesB (list.map backC) = true ∧ goodL x t (list.map backC) ∧ (list.map backC).map backC = list := by
  obtain ⟨b1, b2, b3⟩ := (changesB_iff list).1 hb
  have hp := pathsC_back b2
  refine ⟨(changesB_iff _).2 ⟨by rw [List.length_map]; exact b1, fun c hc => ?_, hp.nodup_iff.2 b3⟩, ⟨fun c hc => ?_, fun p hp' => ?_⟩, ?_⟩
  · obtain ⟨d, hd, rfl⟩ := List.mem_map.1 hc
    have hg := h.1 d hd
    rcases changeB_form (b2 d hd) with ⟨p, y, rfl, e1, e2⟩ | ⟨p, y, rfl, e1, e2⟩ | ⟨p, d, rfl, e1, e2, e3⟩ | ⟨p, q, rfl, e1, e2, e3⟩
    · rw [backC_1]; unfold changeB; simp [e1, e2]
    · rw [backC_2]; unfold changeB; simp [e1, e2]
    · have hpb : patchB (backF d 0) = true := by
        rcases hg with ⟨e, _⟩ | ⟨e, _⟩ | ⟨_, a, b, _, _, h4⟩ | ⟨e, _⟩
        · simp at e
        · simp at e
        · exact (pDo_back h4).2
        · simp at e
      rw [backC_3]; unfold changeB; simp [e1, hpb, backF_len, e2]
    · have e3' : ¬ p = q := fun e => e3 e.symm
      rw [backC_4]; unfold changeB; simp [e1, e2, e3']
  · obtain ⟨d, hd, rfl⟩ := List.mem_map.1 hc
    have hg := h.1 d hd
    rcases changeB_form (b2 d hd) with ⟨p, y, rfl, e1, e2⟩ | ⟨p, y, rfl, e1, e2⟩ | ⟨p, d, rfl, e1, e2, e3⟩ | ⟨p, q, rfl, e1, e2, e3⟩
    · rw [backC_1]
      rcases hg with ⟨e, h2, h3⟩ | ⟨e, _⟩ | ⟨e, _⟩ | ⟨e, _⟩
      · exact .inr (.inl ⟨rfl, h3, h2⟩)
      · simp at e
      · simp at e
      · simp at e
    · rw [backC_2]
      rcases hg with ⟨e, _⟩ | ⟨e, h2, h3⟩ | ⟨e, _⟩ | ⟨e, _⟩
      · simp at e
      · exact .inl ⟨rfl, h3, h2⟩
      · simp at e
      · simp at e
    · rw [backC_3]
      rcases hg with ⟨e, _⟩ | ⟨e, _⟩ | ⟨_, a, b, h2, h3, h4⟩ | ⟨e, _⟩
      · simp at e
      · simp at e
      · exact .inr (.inr (.inl ⟨rfl, b, a, h3, h2, (pDo_back h4).1⟩))
      · simp at e
    · rw [backC_4]
      rcases hg with ⟨e, _⟩ | ⟨e, _⟩ | ⟨e, _⟩ | ⟨_, a, h2, h3, h4, h5⟩
      · simp at e
      · simp at e
      · simp at e
      · exact .inr (.inr (.inr ⟨rfl, a, h5, h4, h3, h2⟩))
  · exact (h.2 p fun hm => hp' (hp.mem_iff.2 hm)).symm
  · rw [List.map_map]
    have : ∀ l : List Change, (∀ c, c ∈ l → changeB c = true) → l.map (backC ∘ backC) = l := by
      intro l
      induction l with
      | nil => intro _; rfl
      | cons c r ih =>
        intro hc
        rw [List.map_cons, ih fun d hd => hc d (List.mem_cons_of_mem _ hd)]
        congr 1
        rcases changeB_form (hc c (List.mem_cons_self ..)) with ⟨p, y, rfl, e1, e2⟩ | ⟨p, y, rfl, e1, e2⟩ | ⟨p, d, rfl, e1, e2, e3⟩ | ⟨p, q, rfl, e1, e2, e3⟩
        · rfl
        · rfl
        · show backC (backC _) = _
          rw [backC_3, backC_3, back_back d 0 0 rfl]
        · rfl
    exact this list b2
/-- the law of changes taken back -/
theorem changes_back {t x : List File} {list : List Change} (h : changesDo t list = (x, true)) : treeB x = true ∧ changesDo x (changesBack list) = (t, true) ∧ changesBack (changesBack list) = list := by
  obtain ⟨ht, hx, hb, hg⟩ := good_do h
  obtain ⟨k1, k2, k3⟩ := back_law hb hg
  have e : changesBack list = list.map backC := if_pos hb
  rw [e]
  refine ⟨hx, do_good hx ht k1 k2, ?_⟩
  unfold changesBack
  rw [if_pos k1, k3]
end Go.Vc
namespace Go.Vc
theorem pathsC_app : ∀ (l r : List Change), pathsC (l ++ r) = pathsC l ++ pathsC r
  | [], _ => rfl
  | c :: l, r => by rw [List.cons_append, pathsC, pathsC, pathsC_app l r, List.append_assoc]
theorem pathsC_one (c : Change) : pathsC [c] = ppC c := by rw [pathsC, pathsC, List.append_nil]
/-- what is told of a file of the first tree -/
def goodO (a b : List File) (c : Change) : Prop :=
  (∃ p x, c = ⟨2, p, ⟨#[]⟩, x, []⟩ ∧ getT a p = some x ∧ getT b p = none) ∨
  (∃ p x y, c = ⟨3, p, ⟨#[]⟩, [], diffT x y⟩ ∧ getT a p = some x ∧ getT b p = some y ∧ ¬ y = x) ∨
  (∃ p q x, c = ⟨4, p, q, [], []⟩ ∧ getT a p = some x ∧ getT b p = none ∧ getT a q = none ∧ getT b q = some x)
theorem goodO_path {a b : List File} {c : Change} (h : goodO a b c) : ∃ x, getT a c.path = some x := by
  rcases h with ⟨p, x, rfl, h, _⟩ | ⟨p, x, y, rfl, h, _⟩ | ⟨p, q, x, rfl, h, _⟩ <;> exact ⟨x, h⟩
theorem goodO_dst {a b : List File} {c : Change} (h : goodO a b c) (h4 : c.kind = 4) : getT a c.dst = none := by
  rcases h with ⟨p, x, rfl, _⟩ | ⟨p, x, y, rfl, _⟩ | ⟨p, q, x, rfl, _, _, h, _⟩
  · simp at h4
  · simp at h4
  · exact h
theorem pp_new {a b : List File} {out : List Change} (ho : ∀ c, c ∈ out → goodO a b c) {p : ByteArray} {x : List ByteArray} (hp : getT a p = some x) (hne : ∀ c, c ∈ out → ¬ c.path = p) : p ∉ pathsC out := fun hm => by
  obtain ⟨c, hc, h⟩ := mem_pathsC.1 hm
  rcases pp_cases h with rfl | ⟨h4, rfl⟩
  · exact hne c hc rfl
  · rw [goodO_dst (ho c hc) h4] at hp; cases hp
theorem pp_to {a b : List File} {out : List Change} (ho : ∀ c, c ∈ out → goodO a b c) {p : ByteArray} (hp : getT a p = none) (hne : goesTo out p = false) : p ∉ pathsC out := fun hm => by
  obtain ⟨c, hc, h⟩ := mem_pathsC.1 hm
  rcases pp_cases h with rfl | ⟨_, rfl⟩
  · obtain ⟨x, hx⟩ := goodO_path (ho c hc)
    rw [hx] at hp; cases hp
  · unfold goesTo at hne
    rw [List.any_eq_false] at hne
    exact hne c hc (decide_eq_true rfl)
theorem chA_good {a b : List File} (hb : DistF b) : ∀ {fs : List File} {out : List Change}, DistF fs → (∀ f, f ∈ fs → getT a f.path = some f.text) → (∀ c, c ∈ out → goodO a b c) → (pathsC out).Nodup → (∀ c, c ∈ out → ∀ f, f ∈ fs → ¬ c.path = f.path) →
    (∀ c, c ∈ chA a b fs out → goodO a b c) ∧ (pathsC (chA a b fs out)).Nodup ∧ (∀ f, f ∈ fs → getT b f.path = some f.text ∨ f.path ∈ pathsC (chA a b fs out)) ∧ (∀ c, c ∈ out → c ∈ chA a b fs out)
  | [], out, _, _, ho, hn, _ => ⟨ho, hn, fun f hf => (by cases hf), fun c hc => hc⟩
  | f :: fs, out, hd, hf, ho, hn, hne => by
    obtain ⟨d1, d2⟩ := List.pairwise_cons.1 hd
    have hfa := hf f (List.mem_cons_self ..)
    have hnew : f.path ∉ pathsC out := pp_new ho hfa fun c hc => hne c hc f (List.mem_cons_self ..)
    -- one more change of f
    have one : ∀ c : Change, goodO a b c → c.path = f.path → (ppC c).Nodup → (∀ p, p ∈ ppC c → p ∉ pathsC out) → chOne a b out f = out ++ [c] →
        (∀ c, c ∈ chA a b (f :: fs) out → goodO a b c) ∧ (pathsC (chA a b (f :: fs) out)).Nodup ∧ (∀ g, g ∈ f :: fs → getT b g.path = some g.text ∨ g.path ∈ pathsC (chA a b (f :: fs) out)) ∧ (∀ c, c ∈ out → c ∈ chA a b (f :: fs) out) := by
      intro c hc hcp hcn hcd he
      have e : chA a b (f :: fs) out = chA a b fs (out ++ [c]) := by show chA a b fs (chOne a b out f) = _; rw [he]
      rw [e]
      obtain ⟨k1, k2, k3, k4⟩ := chA_good hb (out := out ++ [c]) d2 (fun g hg => hf g (List.mem_cons_of_mem _ hg)) (fun d hd' => by
          rcases List.mem_append.1 hd' with h | h
          · exact ho d h
          · rw [List.mem_singleton.1 h]; exact hc) (by
          rw [pathsC_app, pathsC_one]
          exact List.nodup_append.2 ⟨hn, hcn, fun x hx y hy e => hcd y hy (e ▸ hx)⟩) (fun d hd' g hg => by
          rcases List.mem_append.1 hd' with h | h
          · exact hne d h g (List.mem_cons_of_mem _ hg)
          · rw [List.mem_singleton.1 h, hcp]; exact d1 g hg)
      refine ⟨k1, k2, fun g hg => ?_, fun d hd' => k4 d (List.mem_append.2 (.inl hd'))⟩
      rcases List.mem_cons.1 hg with rfl | hg
      · exact .inr (mem_pathsC.2 ⟨c, k4 c (List.mem_append.2 (.inr (List.mem_singleton.2 rfl))), by rw [← hcp]; exact pp_path c⟩)
      · exact k3 g hg
    cases hg : getT b f.path with
    | some x =>
      by_cases hx : x = f.text
      · have e : chOne a b out f = out := by rw [chOne, hg]; simp only [if_pos hx]
        have e2 : chA a b (f :: fs) out = chA a b fs out := by show chA a b fs (chOne a b out f) = _; rw [e]
        rw [e2]
        obtain ⟨k1, k2, k3, k4⟩ := chA_good hb (out := out) d2 (fun g hg => hf g (List.mem_cons_of_mem _ hg)) ho hn (fun d hd' g hg => hne d hd' g (List.mem_cons_of_mem _ hg))
        refine ⟨k1, k2, fun g hg' => ?_, k4⟩
        rcases List.mem_cons.1 hg' with rfl | hg'
        · exact .inl (by rw [hg, hx])
        · exact k3 g hg'
      · have e : chOne a b out f = out ++ [⟨3, f.path, ⟨#[]⟩, [], diffT f.text x⟩] := by rw [chOne, hg]; simp only [if_neg hx]
        exact one _ (.inr (.inl ⟨f.path, f.text, x, rfl, hfa, hg, hx⟩)) rfl (by unfold ppC; simp) (fun p hp => by
          unfold ppC at hp
          simp at hp
          rw [hp]; exact hnew) e
    | none =>
      cases ht : chTo a b out f.text with
      | some g =>
        have e : chOne a b out f = out ++ [⟨4, f.path, g.path, [], []⟩] := by rw [chOne, hg]; simp only [ht]
        have hm : mayB a out f.text g = true := List.find?_some ht
        have hgb : g ∈ b := List.mem_of_find?_eq_some ht
        unfold mayB at hm
        simp only [Bool.and_eq_true, decide_eq_true_eq, Bool.not_eq_true'] at hm
        obtain ⟨⟨m1, m2⟩, m3⟩ := hm
        have m1 : getT a g.path = none := by cases h : getT a g.path with | none => rfl | some _ => rw [h] at m1; cases m1
        have hgt := getT_of hb hgb
        have hfg : ¬ f.path = g.path := fun e => by rw [e, m1] at hfa; cases hfa
        exact one _ (.inr (.inr ⟨f.path, g.path, f.text, rfl, hfa, hg, m1, by rw [hgt, m2]⟩)) rfl (by unfold ppC; simp [hfg]) (fun p hp => by
          unfold ppC at hp
          simp at hp
          rcases hp with rfl | rfl
          · exact hnew
          · exact pp_to ho m1 m3) e
      | none =>
        have e : chOne a b out f = out ++ [⟨2, f.path, ⟨#[]⟩, f.text, []⟩] := by rw [chOne, hg]; simp only [ht]
        exact one _ (.inl ⟨f.path, f.text, rfl, hfa, hg⟩) rfl (by unfold ppC; simp) (fun p hp => by
          unfold ppC at hp
          simp at hp
          rw [hp]; exact hnew) e
theorem chB_paths {a : List File} {o : List Change} : ∀ (fs : List File), pathsC (chB a o fs) = (fs.filter (newB a o)).map (·.path)
  | [] => rfl
  | g :: fs => by
    unfold chB
    by_cases h : newB a o g = true
    · rw [List.filter_cons_of_pos h, List.map_cons, List.map_cons, pathsC]
      have := chB_paths (a := a) (o := o) fs
      unfold chB at this
      rw [this]
      rfl
    · rw [List.filter_cons_of_neg h]
      exact chB_paths fs
theorem diff_full {x y : List ByteArray} (hx : textB x = true) (hy : textB y = true) (h : ¬ y = x) : 0 < (diffT x y).length ∧ patchB (diffT x y) = true := by
  have hd := diff_do hx hy
  have hp := (pDo_text (t := x) (d := diffT x y) (by rw [hd])).2.1
  refine ⟨?_, hp⟩
  cases hn : diffT x y with
  | cons _ _ => simp
  | nil =>
    rw [hn] at hd hp
    rw [pDo_ok hx hp] at hd
    unfold pDoF at hd
    rw [doF] at hd
    unfold pFin at hd
    simp only [List.nil_append, List.drop_zero, hx, if_true] at hd
    exact absurd (Prod.mk.inj hd).1.symm h
theorem tree_at {t : List File} (h : treeB t = true) {p : ByteArray} {x : List ByteArray} (hg : getT t p = some x) : pathB p = true ∧ textB x = true := by
  obtain ⟨f, hf, rfl, rfl⟩ := getT_mem hg
  exact ((tree_iff t).1 h).2.1 f hf
theorem getT_cases (t : List File) (p : ByteArray) : getT t p = none ∨ ∃ f, f ∈ t ∧ f.path = p ∧ getT t p = some f.text := by
  cases h : getT t p with
  | none => exact .inl rfl
  | some x =>
    obtain ⟨f, hf, h1, h2⟩ := getT_mem h
    exact .inr ⟨f, hf, h1, by rw [h2]⟩
theorem changes_of {a b : List File} (ha : treeB a = true) (hb : treeB b = true) : changesB (changesOf a b) = true ∧ goodL a b (changesOf a b) ∧ ∀ p, p ∈ pathsC (changesOf a b) → ¬ getT b p = getT a p := by
  have da := dist_tree ha
  have db := dist_tree hb
  have e : changesOf a b = chA a b a [] ++ chB a (chA a b a []) b := by unfold changesOf chT; rw [if_pos ⟨ha, hb⟩]
  obtain ⟨k1, k2, k3, _⟩ := chA_good db (fs := a) (out := []) da (fun f hf => getT_of da hf) (fun c hc => by cases hc) List.nodup_nil (fun c hc => by cases hc)
  obtain ⟨o, ho⟩ : ∃ o, o = chA a b a [] := ⟨_, rfl⟩
  rw [← ho] at e k1 k2 k3
  have hbm : ∀ c, c ∈ chB a o b → ∃ g, g ∈ b ∧ c = ⟨1, g.path, ⟨#[]⟩, g.text, []⟩ ∧ getT a g.path = none ∧ goesTo o g.path = false := fun c hc => by
    unfold chB at hc
    obtain ⟨g, hg, rfl⟩ := List.mem_map.1 hc
    rw [List.mem_filter] at hg
    have h2 := hg.2
    unfold newB at h2
    simp only [Bool.and_eq_true, Bool.not_eq_true'] at h2
    refine ⟨g, hg.1, rfl, ?_, h2.2⟩
    cases h : getT a g.path with
    | none => rfl
    | some _ => rw [h] at h2; cases h2.1
  have hgood : ∀ c, c ∈ changesOf a b → goodC a b c := fun c hc => by
    rw [e] at hc
    rcases List.mem_append.1 hc with hc | hc
    · rcases k1 c hc with ⟨p, x, rfl, h1, h2⟩ | ⟨p, x, y, rfl, h1, h2, h3⟩ | ⟨p, q, x, rfl, h1, h2, h3, h4⟩
      · exact .inr (.inl ⟨rfl, h1, h2⟩)
      · exact .inr (.inr (.inl ⟨rfl, x, y, h1, h2, diff_do (tree_at ha h1).2 (tree_at hb h2).2⟩))
      · exact .inr (.inr (.inr ⟨rfl, x, h1, h2, h3, h4⟩))
    · obtain ⟨g, hg, rfl, h1, _⟩ := hbm c hc
      exact .inl ⟨rfl, h1, getT_of db hg⟩
  have hdiff : ∀ p, p ∈ pathsC (changesOf a b) → ¬ getT b p = getT a p := fun p hp => by
    obtain ⟨c, hc, hpc⟩ := mem_pathsC.1 hp
    rw [e] at hc
    rcases List.mem_append.1 hc with hc | hc
    · rcases k1 c hc with ⟨p, x, rfl, h1, h2⟩ | ⟨p, x, y, rfl, h1, h2, h3⟩ | ⟨p, q, x, rfl, h1, h2, h3, h4⟩
      · rcases pp_cases hpc with rfl | ⟨h, _⟩
        · rw [h1, h2]; simp
        · simp at h
      · rcases pp_cases hpc with rfl | ⟨h, _⟩
        · rw [h1, h2]; simpa using h3
        · simp at h
      · rcases pp_cases hpc with rfl | ⟨_, rfl⟩
        · rw [h1, h2]; simp
        · rw [h3, h4]; simp
    · obtain ⟨g, hg, rfl, h1, _⟩ := hbm c hc
      rcases pp_cases hpc with rfl | ⟨h, _⟩
      · rw [h1, getT_of db hg]; simp
      · simp at h
  refine ⟨(changesB_iff _).2 ⟨changes_len, fun c hc => ?_, ?_⟩, ⟨hgood, fun p hp => ?_⟩, hdiff⟩
  · rw [e] at hc
    rcases List.mem_append.1 hc with hc | hc
    · rcases k1 c hc with ⟨p, x, rfl, h1, h2⟩ | ⟨p, x, y, rfl, h1, h2, h3⟩ | ⟨p, q, x, rfl, h1, h2, h3, h4⟩
      · obtain ⟨t1, t2⟩ := tree_at ha h1
        unfold changeB; simp [t1, t2]
      · obtain ⟨t1, t2⟩ := tree_at ha h1
        obtain ⟨f1, f2⟩ := diff_full t2 (tree_at hb h2).2 h3
        unfold changeB; simp [t1, f1, f2]
      · obtain ⟨t1, t2⟩ := tree_at ha h1
        obtain ⟨t3, _⟩ := tree_at hb h4
        have hpq : ¬ q = p := fun e => by rw [e, h1] at h3; cases h3
        unfold changeB; simp [t1, t3, hpq]
    · obtain ⟨g, hg, rfl, h1, _⟩ := hbm c hc
      obtain ⟨t1, t2⟩ := tree_at hb (getT_of db hg)
      unfold changeB; simp [t1, t2]
  · rw [e, pathsC_app, chB_paths]
    refine List.nodup_append.2 ⟨k2, ?_, fun x hx y hy e => ?_⟩
    · unfold List.Nodup
      rw [List.pairwise_map]
      exact List.Pairwise.filter _ db
    · subst e
      obtain ⟨g, hg, rfl⟩ := List.mem_map.1 hy
      rw [List.mem_filter] at hg
      have h2 := hg.2
      unfold newB at h2
      simp only [Bool.and_eq_true, Bool.not_eq_true'] at h2
      refine pp_to k1 ?_ h2.2 hx
      cases h : getT a g.path with
      | none => rfl
      | some _ => rw [h] at h2; cases h2.1
  · rw [e, pathsC_app] at hp
    have hp1 : p ∉ pathsC o := fun h => hp (List.mem_append.2 (.inl h))
    have hp2 : p ∉ pathsC (chB a o b) := fun h => hp (List.mem_append.2 (.inr h))
    rcases getT_cases a p with hpa | ⟨f, hf, rfl, hfa⟩
    · rcases getT_cases b p with hpb | ⟨g, hg, rfl, hgb⟩
      · rw [hpa, hpb]
      · exfalso
        rw [chB_paths] at hp2
        by_cases hgo : goesTo o g.path = true
        · unfold goesTo at hgo
          obtain ⟨c, hc, hcd⟩ := List.any_eq_true.1 hgo
          have hcd := of_decide_eq_true hcd
          refine hp1 (mem_pathsC.2 ⟨c, hc, ?_⟩)
          rcases k1 c hc with ⟨p, x, rfl, h1, h2⟩ | ⟨p, x, y, rfl, h1, h2, h3⟩ | ⟨p, q, x, rfl, h1, h2, h3, h4⟩
          · exact absurd hcd.symm (path_full hb hg)
          · exact absurd hcd.symm (path_full hb hg)
          · rw [← hcd]; exact pp_dst rfl
        · refine hp2 (List.mem_map.2 ⟨g, List.mem_filter.2 ⟨hg, ?_⟩, rfl⟩)
          unfold newB
          rw [hpa]
          simpa using hgo
    · rcases k3 f hf with h | h
      · rw [h, hfa]
      · exact absurd h hp1
/-- the law of changes -/
theorem changes_do {a b : List File} (ha : treeB a = true) (hb : treeB b = true) : changesDo a (changesOf a b) = (b, true) := by
  obtain ⟨h1, h2, _⟩ := changes_of ha hb
  exact do_good ha hb h1 h2
end Go.Vc
namespace Go.Vc
theorem getT_in {t : List File} {p : ByteArray} {x : List ByteArray} (h : getT t p = some x) : ∃ f, f ∈ t ∧ f.path = p := by
  rcases getT_cases t p with h1 | ⟨f, h1, h2, _⟩
  · rw [h1] at h; cases h
  · exact ⟨f, h1, h2⟩
theorem change_short {P : ByteArray → Prop} {a b : List File} (ha : treeB a = true) (hb : treeB b = true) (h0 : P ⟨#[]⟩) (hSa : ∀ f, f ∈ a → P f.path) (hSb : ∀ f, f ∈ b → P f.path) : ∀ c, c ∈ changesOf a b → P c.path ∧ P c.dst := fun c hc => by
  obtain ⟨h1, h2, h3⟩ := changes_of ha hb
  have k1 := ((changesB_iff _).1 h1).2.1 c hc
  have key : ∀ p, p ∈ ppC c → P p := fun p hp => by
    have hne := h3 p (mem_pathsC.2 ⟨c, hc, hp⟩)
    cases ea : getT a p with
    | some x => obtain ⟨f, hf, rfl⟩ := getT_in ea; exact hSa f hf
    | none =>
      cases eb : getT b p with
      | some x => obtain ⟨f, hf, rfl⟩ := getT_in eb; exact hSb f hf
      | none => rw [ea, eb] at hne; exact absurd rfl hne
  refine ⟨key _ (pp_path c), ?_⟩
  by_cases h4 : c.kind = 4
  · exact key _ (pp_dst h4)
  · have : c.dst = ⟨#[]⟩ := by
      unfold changeB at k1
      split at k1
      · simp at k1; exact k1.2.2.1
      · split at k1
        · simp at k1; exact k1.2.2.1
        · cases k1
    rw [this]; exact h0
theorem join_ch {o a b t : List File} (hf : joinFree o a b = true) (hj : joinTree o a b = (t, true)) :
    (∀ p, p ∈ sortS (pathsC (changesOf o a)) → getT t p = getT a p) ∧ ∀ p, p ∈ sortS (pathsC (changesOf o b)) → getT t p = getT b p ∧ p ∉ sortS (pathsC (changesOf o a)) := by
  obtain ⟨h1, h2, h3⟩ := joinTree_ok hj
  obtain ⟨tro, tra, trb⟩ := threeT_iff.1 h1
  have ca := (changes_of tro tra).2.2
  have cb := (changes_of tro trb).2.2
  have hfree : ∀ p, (∃ x, getT o p = some x) ∨ (∃ x, getT a p = some x) ∨ (∃ x, getT b p = some x) → getT a p = getT o p ∨ getT b p = getT o p := fun p hp => by
    unfold joinFree at hf
    rw [Bool.and_eq_true, List.all_eq_true] at hf
    have hm : p ∈ allP o a b := by
      rw [mem_allP]
      rcases hp with ⟨x, h⟩ | ⟨x, h⟩ | ⟨x, h⟩
      · exact .inl (getT_in h)
      · exact .inr (.inl (getT_in h))
      · exact .inr (.inr (getT_in h))
    have := hf.2 p hm
    unfold freeAt at this
    simpa using this
  have ma : ∀ p, p ∈ sortS (pathsC (changesOf o a)) → ¬ getT a p = getT o p := fun p hp => ca p (mem_sortS.1 hp)
  have mb : ∀ p, p ∈ sortS (pathsC (changesOf o b)) → ¬ getT b p = getT o p := fun p hp => cb p (mem_sortS.1 hp)
  have some_of : ∀ {x y : Option (List ByteArray)}, ¬ x = y → (∃ z, y = some z) ∨ ∃ z, x = some z := fun {x y} h => by
    cases x <;> cases y <;> simp_all
  refine ⟨fun p hp => ?_, fun p hp => ⟨?_, fun hm => ?_⟩⟩
  · have hb : getT b p = getT o p := (hfree p ((some_of (ma p hp)).imp id .inl)).resolve_left (ma p hp)
    have := h3 p
    unfold joinAt at this
    rw [hb, joinOne_right] at this
    exact (Prod.mk.inj this).1.symm
  · have hb : getT a p = getT o p := (hfree p ((some_of (mb p hp)).imp id .inr)).resolve_right (mb p hp)
    have := h3 p
    unfold joinAt at this
    rw [hb, joinOne_left] at this
    exact (Prod.mk.inj this).1.symm
  · have h1 := ma p hm
    have h2 := mb p hp
    rcases hfree p ((some_of h1).imp id .inl) with h | h
    · exact h1 h
    · exact h2 h
end Go.Vc
