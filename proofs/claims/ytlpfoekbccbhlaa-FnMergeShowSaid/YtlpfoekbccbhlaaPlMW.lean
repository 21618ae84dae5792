/-
  Plain law: what is shown has three marks for each clash. No program is in sight here.
-/
import Derived.Test.YtlpfoekbccbhlaaPlMS
import Derived.Test.YtlpfoekbccbhlaaPlHas
set_option linter.unusedVariables false
namespace Go.Vc
/-- how many parts clash -/
def clashN (ps : List Part) : Nat := (ps.filter (·.clash)).length
theorem clashN_t {p : Part} (r : List Part) (h : p.clash = true) : clashN (p :: r) = clashN r + 1 := by unfold clashN; rw [List.filter_cons_of_pos (by exact h)]; rfl
theorem clashN_f {p : Part} (r : List Part) (h : p.clash = false) : clashN (p :: r) = clashN r := by unfold clashN; rw [List.filter_cons_of_neg (by rw [h]; simp)]
theorem clash_yes {M : Nat} {xs : List Part} {n k : Nat} (H : M = n + clashN (xs.drop k)) (h : k < xs.length) (he : xs[k].clash = true) : M = (n + 1) + clashN (xs.drop (k + 1)) := by
  rw [H, drop_cons xs k h, clashN_t _ he]; omega
theorem clash_no {M : Nat} {xs : List Part} {n k : Nat} (H : M = n + clashN (xs.drop k)) (h : k < xs.length) (he : xs[k].clash = false) : M = n + clashN (xs.drop (k + 1)) := by
  rw [H, drop_cons xs k h, clashN_f _ he]
theorem clash_end {M : Nat} {xs : List Part} {n k : Nat} (H : M = n + clashN (xs.drop k)) (h : ¬ k < xs.length) : M = n := by
  rw [H, drop_nil xs k h]; rfl
theorem mClash_ok {o a b : List ByteArray} (h : threeB o a b = true) : mClash o a b = (clashN (mergeT o a b) : Int) := by rw [mClash, if_pos h]; rfl
theorem mClash_bad {o a b : List ByteArray} (h : threeB o a b = false) : mClash o a b = -1 := by rw [mClash, if_neg (by rw [h]; simp)]
/-- all lines of these parts are of S -/
def LinesIn (S : ByteArray → Prop) (ps : List Part) : Prop := ∀ p, p ∈ ps → (∀ x, x ∈ p.lines → S x) ∧ (∀ x, x ∈ p.one → S x) ∧ (∀ x, x ∈ p.two → S x)
section
variable {S : ByteArray → Prop}
theorem LinesIn.putL {out : List Part} {ls : List ByteArray} (h : LinesIn S out) (hl : ∀ x, x ∈ ls → S x) : LinesIn S (putL out ls) := by
  have happ : LinesIn S (out ++ [⟨false, ls, [], [], []⟩]) := fun p hp => by
    rcases List.mem_append.1 hp with hp | hp
    · exact h p hp
    · obtain rfl := List.mem_singleton.1 hp
      exact ⟨hl, fun x hx => (by cases hx), fun x hx => by cases hx⟩
  unfold Go.Vc.putL
  split
  · exact h
  · split
    · split
      · exact happ
      · rename_i h1 h2 h3
        intro p hp
        rcases List.mem_or_eq_of_mem_set hp with hp | rfl
        · exact h p hp
        · have := h _ (List.getElem_mem (by omega : out.length - 1 < out.length))
          exact ⟨fun x hx => by
            rcases List.mem_append.1 hx with hx | hx
            · exact this.1 x hx
            · exact hl x hx, this.2.1, this.2.2⟩
    · exact happ
theorem LinesIn.pieceG {out : List Part} {old one two : List ByteArray} (h : LinesIn S out) (h1 : ∀ x, x ∈ one → S x) (h2 : ∀ x, x ∈ two → S x) : LinesIn S (pieceG out old one two) := by
  unfold Go.Vc.pieceG
  split
  · exact h.putL h2
  · split
    · exact h.putL h1
    · intro p hp
      rcases List.mem_append.1 hp with hp | hp
      · exact h p hp
      · obtain rfl := List.mem_singleton.1 hp
        exact ⟨fun x hx => (by cases hx), h1, h2⟩
theorem LinesIn.putO {out : List Part} {o : List ByteArray} {i : Nat} (h : LinesIn S out) (ho : ∀ x, x ∈ o → S x) : LinesIn S (putO o i out) := by
  unfold Go.Vc.putO
  split
  · exact h.putL fun x hx => by
      obtain rfl := List.mem_singleton.1 hx
      exact ho _ (List.getElem_mem _)
  · exact h
theorem cutF_mem {a : List ByteArray} {f i : Nat} {x : ByteArray} (h : x ∈ cutF a f i) : x ∈ a := List.mem_of_mem_drop (List.mem_of_mem_take h)
theorem LinesIn.mg {o a b : List ByteArray} (ho : ∀ x, x ∈ o → S x) (ha : ∀ x, x ∈ a → S x) (hb : ∀ x, x ∈ b → S x) : ∀ (ps qs : List Int) (i fo fa fb : Nat) (out : List Part), LinesIn S out → LinesIn S (mg o a b ps qs i fo fa fb out)
  | [], _, _, _, _, _, out, h => by rw [Go.Vc.mg]; exact h; intro _ _ _ _ h; cases h
  | _ :: _, [], _, _, _, _, out, h => by rw [Go.Vc.mg]; exact h; intro _ _ _ _ _ h; cases h
  | p :: ps, q :: qs, i, fo, fa, fb, out, h => by
    rw [Go.Vc.mg]
    split
    · exact LinesIn.mg ho ha hb ps qs _ _ _ _ out h
    · exact LinesIn.mg ho ha hb ps qs _ _ _ _ _ ((h.pieceG (fun x hx => ha x (cutF_mem hx)) (fun x hx => hb x (cutF_mem hx))).putO ho)
end
theorem merge_in {S : ByteArray → Prop} {o a b : List ByteArray} (ho : ∀ x, x ∈ o → S x) (ha : ∀ x, x ∈ a → S x) (hb : ∀ x, x ∈ b → S x) : LinesIn S (mergeT o a b) := LinesIn.mg ho ha hb _ _ _ _ _ _ _ fun p hp => by cases hp
theorem show_many {s : ByteArray} (h1 : s = ⟨#[60, 60, 60]⟩) : ∀ {ps : List Part}, LinesIn (fun x => ¬ x = s) ps → manyT s (showF ps) = clashN ps
  | [], _ => rfl
  | p :: r, h => by
    have ih := show_many h1 (ps := r) fun q hq => h q (List.mem_cons_of_mem _ hq)
    obtain ⟨k1, k2, k3⟩ := h p (List.mem_cons_self ..)
    have e : showF (p :: r) = showOf p ++ showF r := by rw [showF, List.map_cons, List.flatten_cons]; rfl
    rw [e, manyT_app, ih]
    cases hc : p.clash with
    | true =>
      rw [showOf, if_pos hc, manyT_app, manyT_app, manyT_app, manyT_app, manyT_none k2, manyT_none k3]
      have e1 : manyT s [⟨#[60, 60, 60]⟩] = 1 := by subst h1; unfold manyT; simp
      have e2 : manyT s [⟨#[61, 61, 61]⟩] = 0 := manyT_none fun x hx => by
        obtain rfl := List.mem_singleton.1 hx
        subst h1; decide
      have e3 : manyT s [⟨#[62, 62, 62]⟩] = 0 := manyT_none fun x hx => by
        obtain rfl := List.mem_singleton.1 hx
        subst h1; decide
      rw [e1, e2, e3, clashN_t _ hc]
      omega
    | false =>
      rw [showOf, if_neg (by rw [hc]; simp), manyT_none k1, clashN_f _ hc]
      omega
theorem text_show : ∀ {ps : List Part} {out x : List ByteArray}, textF ps out = some x → x = out ++ showF ps
  | [], out, x, h => by rw [textF] at h; rw [← Option.some.inj h]; simp [showF]
  | p :: r, out, x, h => by
    rw [textF] at h
    split at h
    · cases h
    · rename_i hc
      rw [text_show h, List.append_assoc]
      congr 1
      show p.lines ++ _ = (List.map showOf (p :: r)).flatten
      rw [List.map_cons, List.flatten_cons, show showOf p = p.lines from if_neg hc]; rfl
/-- what the law says -/
theorem show_law {o a b : List ByteArray} {x : List ByteArray} {c : Bool} (h : threeB o a b = true) (hx : mText o a b = (x, c)) :
    ((hasS ⟨#[60, 60, 60]⟩ a || hasS ⟨#[60, 60, 60]⟩ b || hasS ⟨#[60, 60, 60]⟩ o) = true ∨ manyT ⟨#[60, 60, 60]⟩ (mShow o a b) = clashN (mergeT o a b)) ∧ (c = true → mShow o a b = x) := by
  have e : mShow o a b = showF (mergeT o a b) := by rw [mShow, mOf, if_pos h]
  rw [e]
  constructor
  · cases hm : (hasS ⟨#[60, 60, 60]⟩ a || hasS ⟨#[60, 60, 60]⟩ b || hasS ⟨#[60, 60, 60]⟩ o) with
    | true => exact .inl rfl
    | false =>
      rw [Bool.or_eq_false_iff, Bool.or_eq_false_iff] at hm
      exact .inr (show_many rfl (merge_in (hasS_f hm.2) (hasS_f hm.1.1) (hasS_f hm.1.2)))
  · intro hc
    subst hc
    rw [mText, if_pos h] at hx
    cases hf : textF (mergeT o a b) [] with
    | none => rw [hf] at hx; simp [pFin] at hx
    | some z =>
      rw [hf, pFin] at hx
      split at hx
      · have := text_show hf
        rw [List.nil_append] at this
        rw [← this]
        exact (Prod.mk.inj hx).1
      · simp at hx
theorem show_len {n : Nat} : ∀ {ps : List Part}, (∀ p, p ∈ ps → p.lines.length ≤ 121 ∧ p.old.length ≤ 10 ∧ p.one.length ≤ 10 ∧ p.two.length ≤ 10) → (showF ps).length ≤ 121 * ps.length
  | [], _ => Nat.le_refl _
  | p :: r, h => by
    have ih := show_len (n := n) (ps := r) fun q hq => h q (List.mem_cons_of_mem _ hq)
    have hp := h p (List.mem_cons_self ..)
    have e : showF (p :: r) = showOf p ++ showF r := by rw [showF, List.map_cons, List.flatten_cons]; rfl
    rw [e, List.length_append, List.length_cons]
    have : (showOf p).length ≤ 121 := by
      unfold showOf
      split
      · simp; omega
      · exact hp.1
    omega
end Go.Vc
