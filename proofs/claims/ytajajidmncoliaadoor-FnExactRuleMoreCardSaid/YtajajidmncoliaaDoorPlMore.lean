/-
  Plain functions: which lines refer to files that are not there, and did not do so before. No program is in sight here.
-/
import Derived.Test.YtajajidmncoliaaDoorPlRule
import Derived.Test.YtajajidmncoliaaDoorPlKeepT
set_option linter.unusedVariables false
namespace Go.Vc
theorem lessB_irr (a : ByteArray) : lessB a a = false := lessB_irrefl a
theorem tree_dist {t : List File} (h : treeB t = true) {i j : Nat} (hj : j < i) (hi : i < t.length) : ¬ (t[j]'(by omega)).path = t[i].path := fun e => by
  have h1 : ∀ i, i < t.length → fileAt t i = true := fun i hi => by
    unfold treeB at h
    rw [Bool.and_eq_true] at h
    have := of_decide_eq_true h.2 i hi
    rw [treeAt, Bool.and_eq_true] at this
    exact this.1
  have := file_asc h1 i j hj hi
  rw [e, lessB_irr] at this
  cases this
def DistF (t : List File) : Prop := t.Pairwise fun f g => ¬ f.path = g.path
theorem dist_tree {t : List File} (h : treeB t = true) : DistF t := List.pairwise_iff_getElem.2 fun i j hi hj hij => tree_dist h hij hj
theorem getT_of {t : List File} (h : DistF t) {f : File} (hf : f ∈ t) : getT t f.path = some f.text := by
  induction t with
  | nil => cases hf
  | cons g r ih =>
    obtain ⟨h1, h2⟩ := List.pairwise_cons.1 h
    rw [getT]
    rcases List.mem_cons.1 hf with rfl | hf
    · rw [if_pos rfl]
    · rw [if_neg (h1 f hf)]
      exact ih h2 hf
theorem lostL_mem {t : List File} {p : ByteArray} : ∀ {xs : List ByteArray} {k : Nat} {x : Lost}, x ∈ lostL t p xs k → x.path = p ∧ ∃ i, i < xs.length ∧ x.line = ((k + i : Nat) : Int)
  | [], _, _, h => by cases h
  | s :: r, k, x, h => by
    rw [lostL] at h
    rcases List.mem_append.1 h with h | h
    · split at h
      · obtain rfl := List.mem_singleton.1 h
        exact ⟨rfl, 0, by simp, rfl⟩
      · cases h
    · obtain ⟨h1, i, h2, h3⟩ := lostL_mem h
      exact ⟨h1, i + 1, by simp; omega, by rw [h3]; congr 1; omega⟩
theorem lostA_mem {t : List File} : ∀ {fs : List File} {x : Lost}, x ∈ lostA t fs → ∃ f, f ∈ fs ∧ x ∈ lostL t f.path f.text 0
  | [], _, h => by cases h
  | f :: r, x, h => by
    rw [lostA] at h
    rcases List.mem_append.1 h with h | h
    · exact ⟨f, List.mem_cons_self .., h⟩
    · obtain ⟨g, hg, hx⟩ := lostA_mem h
      exact ⟨g, List.mem_cons_of_mem _ hg, hx⟩
/-- a number is among these -/
def lineIn (xs : List Int) (n : Int) : Bool := decide (0 ≤ place xs n)
theorem placeF_any (n : Int) : ∀ (xs : List Int) (k : Nat), decide (0 ≤ placeF xs k n) = xs.any fun x => decide (x = n)
  | [], _ => rfl
  | x :: r, k => by
    rw [placeF, List.any_cons]
    split
    · rename_i h; rw [decide_eq_true h]; simp
    · rename_i h; rw [decide_eq_false h, placeF_any n r (k + 1)]; rfl
theorem lineIn_any (xs : List Int) (n : Int) : lineIn xs n = xs.any fun x => decide (x = n) := placeF_any n xs 0
/-- where the lines that were lost already are now -/
def knownL (old now : List ByteArray) (ls : List Lost) : List Int := ls.map fun x => (matchT old now).getD x.line.toNat 0
def knownT (a : List File) (f : File) : List Int := match getT a f.path with
  | none => []
  | some old => knownL old f.text (lostL a f.path old 0)
theorem known_none {a : List File} {f : File} (h : getT a f.path = none) : knownT a f = [] := by rw [knownT, h]
theorem known_some {a : List File} {f : File} {old : List ByteArray} (h : getT a f.path = some old) : knownT a f = knownL old f.text (lostL a f.path old 0) := by rw [knownT, h]
def moreF (a b : List File) (f : File) : List Lost := (lostL b f.path f.text 0).filter fun x => !lineIn (knownT a f) x.line
def moreA (a b : List File) : List File → List Lost
  | [] => []
  | f :: r => moreF a b f ++ moreA a b r
def ruleMore (a b : List File) : List Lost := if (treeB a && treeB b) = true then moreA a b b else []
theorem moreA_len (a b : List File) : ∀ (fs : List File), (moreA a b fs).length ≤ (lostA b fs).length
  | [] => Nat.le_refl _
  | f :: r => by
    have h1 := moreA_len a b r
    have h2 : (moreF a b f).length ≤ (lostL b f.path f.text 0).length := List.length_filter_le _ _
    rw [moreA, lostA, List.length_append, List.length_append]
    omega
theorem ruleMore_len (a b : List File) : (ruleMore a b).length ≤ 80 := by
  unfold ruleMore
  split
  · rename_i h
    rw [Bool.and_eq_true] at h
    have h1 := moreA_len a b b
    have h2 := lostA_few (t := b) h.2
    omega
  · simp
theorem moreA_next {a b : List File} {M ol : List Lost} {fs : List File} {k : Nat} (H : M = ol ++ moreA a b (fs.drop k)) (h : k < fs.length) : M = ol ++ (moreF a b fs[k] ++ moreA a b (fs.drop (k + 1))) := by
  rw [H, drop_cons fs k h, moreA]
theorem moreA_end {a b : List File} {M ol : List Lost} {fs : List File} {k : Nat} (H : M = ol ++ moreA a b (fs.drop k)) (h : ¬ k < fs.length) : M = ol := by
  rw [H, drop_nil fs k h, moreA, List.append_nil]
/-- as the reference asks it -/
def knownS (a b : List File) (ls : List Lost) (x : Lost) : Bool := ls.any fun y => decide (y.path = x.path) && decide ((matchT ((getT a x.path).getD []) ((getT b x.path).getD [])).getD y.line.toNat 0 = x.line)
theorem anyA_off {t : List File} {p : ByteArray} {Q : Lost → Bool} : ∀ {fs : List File}, (∀ f, f ∈ fs → ¬ f.path = p) → (lostA t fs).any (fun y => decide (y.path = p) && Q y) = false
  | [], _ => rfl
  | f :: r, h => by
    rw [lostA, List.any_append, anyA_off fun g hg => h g (List.mem_cons_of_mem _ hg), Bool.or_false]
    apply Bool.eq_false_iff.2
    intro h2
    obtain ⟨y, hy, h3⟩ := List.any_eq_true.1 h2
    rw [(lostL_mem hy).1, decide_eq_false (h f (List.mem_cons_self ..))] at h3
    cases h3
theorem anyA_at {t : List File} {p : ByteArray} {Q : Lost → Bool} : ∀ {fs : List File}, DistF fs → (lostA t fs).any (fun y => decide (y.path = p) && Q y) = match getT fs p with
    | none => false
    | some old => (lostL t p old 0).any Q
  | [], _ => rfl
  | f :: r, h => by
    obtain ⟨h1, h2⟩ := List.pairwise_cons.1 h
    rw [lostA, List.any_append, getT]
    by_cases e : f.path = p
    · rw [if_pos e, anyA_off (fs := r) (fun g hg => by rw [← e]; exact fun h => h1 g hg h.symm), Bool.or_false]
      subst e
      show _ = (lostL t f.path f.text 0).any Q
      have : ∀ ls : List Lost, (∀ y, y ∈ ls → y.path = f.path) → ls.any (fun y => decide (y.path = f.path) && Q y) = ls.any Q := by
        intro ls
        induction ls with
        | nil => intro _; rfl
        | cons y r ih =>
          intro h
          rw [List.any_cons, List.any_cons, ih fun z hz => h z (List.mem_cons_of_mem _ hz), decide_eq_true (h y (List.mem_cons_self ..)), Bool.true_and]
      exact this _ fun y hy => (lostL_mem hy).1
    · rw [if_neg e, anyA_at h2]
      have : (lostL t f.path f.text 0).any (fun y => decide (y.path = p) && Q y) = false := by
        apply Bool.eq_false_iff.2
        intro h2
        obtain ⟨y, hy, h3⟩ := List.any_eq_true.1 h2
        rw [(lostL_mem hy).1, decide_eq_false e] at h3
        cases h3
      rw [this, Bool.false_or]
theorem knownS_is {a b : List File} (ha : DistF a) {f : File} (hf : getT b f.path = some f.text) {x : Lost} (hx : x.path = f.path) : knownS a b (lostA a a) x = lineIn (knownT a f) x.line := by
  unfold knownS
  rw [hx, anyA_at (Q := fun y => decide ((matchT ((getT a f.path).getD []) ((getT b f.path).getD [])).getD y.line.toNat 0 = x.line)) ha, hf]
  cases hg : getT a f.path with
  | none => rw [known_none hg]; rfl
  | some old =>
    rw [known_some hg, lineIn_any, knownL, List.any_map]
    rfl
theorem more_spec {a b : List File} (ha : DistF a) : ∀ {fs : List File}, (∀ f, f ∈ fs → getT b f.path = some f.text) → (lostA b fs).filter (fun x => !knownS a b (lostA a a) x) = moreA a b fs
  | [], _ => rfl
  | f :: r, h => by
    rw [lostA, List.filter_append, more_spec ha fun g hg => h g (List.mem_cons_of_mem _ hg), moreA, moreF]
    congr 1
    refine List.filter_congr fun x hx => ?_
    rw [knownS_is ha (h f (List.mem_cons_self ..)) (lostL_mem hx).1]
theorem ruleMore_spec {a b : List File} (ha : treeB a = true) (hb : treeB b = true) : ruleMore a b = (lostA b b).filter (fun x => !knownS a b (lostA a a) x) := by
  rw [more_spec (dist_tree ha) fun f hf => getT_of (dist_tree hb) hf, ruleMore, ha, hb]; rfl
theorem ruleMore_bad {a b : List File} (h : (treeB a && treeB b) = false) : ruleMore a b = [] := by rw [ruleMore, h]; rfl
end Go.Vc
