/-
  Plain law: what is made of a text by what is made of it is the other text. No program is in sight here.
-/
import Derived.Test.YtjfhbepnomnalaaPlain4
namespace Go.Vc

theorem pfx_take : ∀ (a b : List ByteArray), a.take (pfx a b) = b.take (pfx a b)
  | a :: as, b :: bs => by
    rw [pfx]
    split
    · rename_i h
      rw [List.take_succ_cons, List.take_succ_cons, pfx_take as bs, h]
    · simp
  | [], _ => by simp [pfx]
  | _ :: _, [] => by simp [pfx]
theorem pfx_self : ∀ (a : List ByteArray), pfx a a = a.length
  | [] => rfl
  | a :: as => by rw [pfx, if_pos rfl, pfx_self as, List.length_cons]

theorem bestF_take (t base : List ByteArray) : ∀ (r : List ByteArray) (i : Nat) (c : Nat × Nat), r = base.drop i → i ≤ base.length → (base.drop c.1).take c.2 = t.take c.2 →
    (base.drop (bestF t r i c).1).take (bestF t r i c).2 = t.take (bestF t r i c).2
  | [], _, c, _, _, h => h
  | x :: r, i, c, hr, hi, h => by
    have hl : (x :: r).length = base.length - i := by rw [hr]; simp
    have hlt : i < base.length := by simp at hl; omega
    rw [bestF]
    refine bestF_take t base r (i + 1) _ ?_ hlt ?_
    · have := drop_cons base i hlt
      rw [← hr] at this
      exact (List.cons.inj this).2
    · split
      · show (base.drop i).take (pfx (x :: r) t) = t.take (pfx (x :: r) t)
        rw [← hr]
        exact pfx_take _ _
      · exact h
theorem bestOf_take (base t : List ByteArray) : (base.drop (bestOf base t).1).take (bestOf base t).2 = t.take (bestOf base t).2 :=
  bestF_take t base base 0 (0, 0) rfl (Nat.zero_le _) (by simp)

/-- what one piece puts -/
def pc (base : List ByteArray) (d : Delta) : List ByteArray := ((base.drop d.fr.toNat).take d.many.toNat) ++ d.lines
def made (base : List ByteArray) (ds : List Delta) : List ByteArray := (ds.map (pc base)).flatten
theorem made_append (base : List ByteArray) (a b : List Delta) : made base (a ++ b) = made base a ++ made base b := by simp [made]
theorem made_one (base : List ByteArray) (d : Delta) : made base [d] = pc base d := by simp [made]

/-- a piece is a run of the base, or lines -/
def OkP (base : List ByteArray) (d : Delta) : Prop :=
  (∃ f m : Nat, d = ⟨f, m, []⟩ ∧ 0 < m ∧ f + m ≤ base.length) ∨ (∃ ls, d = ⟨0, 0, ls⟩ ∧ 0 < ls.length ∧ ∀ l, l ∈ ls → lineB l = true)
def OkAll (base : List ByteArray) (ds : List Delta) : Prop := ∀ d, d ∈ ds → OkP base d

theorem last_split {α : Type} (out : List α) (h : 0 < out.length) : out = out.take (out.length - 1) ++ [out[out.length - 1]] := by
  conv => lhs; rw [← List.take_append_drop (out.length - 1) out]
  congr 1
  rw [List.drop_eq_getElem_cons (by omega), List.drop_eq_nil_of_le (by omega)]
theorem set_last {α : Type} (out : List α) (h : 0 < out.length) (y : α) : out.set (out.length - 1) y = out.take (out.length - 1) ++ [y] := by
  rw [List.set_eq_take_append_cons_drop, if_pos (by omega)]
  congr 2
  exact List.drop_eq_nil_of_le (by omega)

theorem step_made {base : List ByteArray} {out : List Delta} (hok : OkAll base out) (x : ByteArray) (r : List ByteArray) (hl : ∀ l, l ∈ x :: r → lineB l = true) :
    OkAll base (stepD out (bestOf base (x :: r)).1 (bestOf base (x :: r)).2 x) ∧
    made base (stepD out (bestOf base (x :: r)).1 (bestOf base (x :: r)).2 x) = made base out ++ (x :: r).take (max 1 (bestOf base (x :: r)).2) := by
  have hb := bestOf_le base (x :: r)
  have ht := bestOf_take base (x :: r)
  generalize bestOf base (x :: r) = c at hb ht
  obtain ⟨f, m⟩ := c
  simp only at hb ht ⊢
  have hnew : ∀ y : ByteArray, lineB y = true → OkAll base (out ++ [⟨0, 0, [y]⟩]) := by
    intro y hy d hd
    rcases List.mem_append.1 hd with hd | hd
    · exact hok d hd
    · simp at hd; subst hd
      exact .inr ⟨[y], rfl, by simp, by simpa using hy⟩
  by_cases hm : 0 < m
  · rw [stepD_run hm]
    refine ⟨fun d hd => ?_, ?_⟩
    · rcases List.mem_append.1 hd with hd | hd
      · exact hok d hd
      · simp at hd; subst hd
        exact .inl ⟨f, m, rfl, hm, hb.2⟩
    · rw [made_append, made_one, show max 1 m = m by omega]
      simp [pc, ht]
  · have e1 : (x :: r).take (max 1 m) = [x] := by rw [show max 1 m = 1 by omega]; rfl
    rw [e1]
    have hx := hl x (by simp)
    by_cases h1 : 0 < out.length
    · by_cases h2 : 0 < out[out.length - 1].lines.length
      · rw [stepD_more hm h1 h2, set_last out h1]
        have hlast := hok _ (List.getElem_mem (by omega : out.length - 1 < out.length))
        rcases hlast with ⟨f', m', he, _, _⟩ | ⟨ls, he, h0, hls⟩
        · rw [he] at h2; simp at h2
        · have hsp := last_split out h1
          rw [he] at hsp ⊢
          refine ⟨fun d hd => ?_, ?_⟩
          · rcases List.mem_append.1 hd with hd | hd
            · exact hok d (List.mem_of_mem_take hd)
            · simp at hd; subst hd
              refine .inr ⟨ls ++ [x], rfl, by simp, fun l hl => ?_⟩
              rcases List.mem_append.1 hl with hl | hl
              · exact hls l hl
              · simp at hl; subst hl; exact hx
          · conv => rhs; rw [hsp]
            rw [made_append, made_append, made_one, made_one]
            simp [pc]
      · rw [stepD_new hm h1 h2]
        exact ⟨hnew x hx, by rw [made_append, made_one]; simp [pc]⟩
    · rw [stepD_first hm h1]
      exact ⟨hnew x hx, by rw [made_append, made_one]; simp [pc]⟩

theorem deltaF_made (base : List ByteArray) : ∀ (f : Nat) (t : List ByteArray) (out : List Delta), t.length ≤ f → OkAll base out → (∀ l, l ∈ t → lineB l = true) →
    OkAll base (deltaF base f t out) ∧ made base (deltaF base f t out) = made base out ++ t
  | 0, t, out, h, hok, _ => by
    have : t = [] := List.eq_nil_of_length_eq_zero (by omega)
    subst this
    exact ⟨hok, by simp [deltaF]⟩
  | f + 1, [], out, _, hok, _ => ⟨hok, by simp [deltaF]⟩
  | f + 1, x :: r, out, h, hok, hl => by
    obtain ⟨h1, h2⟩ := step_made hok x r hl
    rw [deltaF]
    obtain ⟨h3, h4⟩ := deltaF_made base f ((x :: r).drop (max 1 (bestOf base (x :: r)).2)) _ (by simp at h ⊢; omega) h1 (fun l hm => hl l (List.mem_of_mem_drop hm))
    exact ⟨h3, by rw [h4, h2, List.append_assoc, List.take_append_drop]⟩
theorem deltaOf_made (base t : List ByteArray) (hl : ∀ l, l ∈ t → lineB l = true) : OkAll base (deltaOf base t) ∧ made base (deltaOf base t) = t := by
  have := deltaF_made base t.length t [] (Nat.le_refl _) (fun _ h => by cases h) hl
  exact ⟨this.1, by rw [deltaOf, this.2]; rfl⟩

theorem applyD_made (base : List ByteArray) : ∀ (ds : List Delta) (out : List ByteArray), OkAll base ds → applyD base ds out = some (out ++ made base ds)
  | [], out, _ => by simp [applyD, made]
  | d :: r, out, h => by
    rw [applyD]
    have hd := h d (by simp)
    have hc : ¬ (base.length : Int) < d.fr + d.many := by
      rcases hd with ⟨f, m, rfl, _, hfm⟩ | ⟨ls, rfl, _, _⟩
      · simp <;> omega
      · simp <;> omega
    rw [if_neg hc, applyD_made base r _ fun x hx => h x (List.mem_cons_of_mem _ hx)]
    simp [made, pc]

theorem textB_iff (t : List ByteArray) : textB t = true ↔ t.length ≤ 10 ∧ ∀ l, l ∈ t → lineB l = true := by simp [textB]
theorem withinB_true {n lo hi : Int} (h : lo ≤ n ∧ n ≤ hi) : withinB n lo hi = true := (withinB_iff n lo hi).2 h

theorem deltaOf_ok {base t : List ByteArray} (hb : textB base = true) (ht : textB t = true) : deltaB (deltaOf base t) = true := by
  obtain ⟨h1, h2⟩ := (textB_iff t).1 ht
  obtain ⟨h3, _⟩ := (textB_iff base).1 hb
  obtain ⟨hok, _⟩ := deltaOf_made base t h2
  obtain ⟨hn, hs⟩ := deltaOf_small (base := base) h1
  have hall : ∀ d, d ∈ deltaOf base t → pieceB d = true := by
    intro d hd
    have hsd := hs d hd
    rcases hok d hd with ⟨f, m, rfl, hm, hfm⟩ | ⟨ls, rfl, h0, hls⟩
    · rw [piece2 (by simp)]
      simp only [Bool.and_eq_true, withinB_iff]
      omega
    · rw [piece1 h0 rfl rfl]
      exact (textB_iff ls).2 ⟨by simpa using hsd, hls⟩
  simp only [deltaB, Bool.and_eq_true, decide_eq_true_eq, List.all_eq_true]
  exact ⟨hn, hall⟩

theorem do_of {base t : List ByteArray} (hb : textB base = true) (ht : textB t = true) : dDo base (deltaOf base t) = (t, true) := by
  rw [dDo_ok hb (deltaOf_ok hb ht)]
  obtain ⟨hok, hm⟩ := deltaOf_made base t ((textB_iff t).1 ht).2
  have := applyD_made base (deltaOf base t) [] hok
  rw [hm, List.nil_append] at this
  exact doB_some this ht

theorem bestF_top (t : List ByteArray) : ∀ (r : List ByteArray) (i : Nat) (c : Nat × Nat), t.length ≤ c.2 → bestF t r i c = c
  | [], _, _, _ => rfl
  | x :: r, i, c, h => by
    have := (pfx_le (x :: r) t).2
    rw [bestF, if_neg (by omega)]
    exact bestF_top t r _ c h
theorem bestOf_self (x : ByteArray) (r : List ByteArray) : bestOf (x :: r) (x :: r) = (0, (x :: r).length) := by
  unfold bestOf
  rw [bestF, pfx_self, if_pos (by simp)]
  exact bestF_top _ _ _ _ (Nat.le_refl _)
theorem deltaOf_self (x : ByteArray) (r : List ByteArray) : deltaOf (x :: r) (x :: r) = [⟨0, ((x :: r).length : Nat), []⟩] := by
  unfold deltaOf
  rw [List.length_cons, deltaF, bestOf_self]
  have e : (x :: r).drop (max 1 (x :: r).length) = [] := List.drop_eq_nil_of_le (by omega)
  simp only [e]
  rw [stepD_run (by simp)]
  cases r <;> rfl
theorem deltaF_none : ∀ (f : Nat) (t ls : List ByteArray), t.length ≤ f → 0 < ls.length → deltaF [] f t [⟨0, 0, ls⟩] = [⟨0, 0, ls ++ t⟩]
  | 0, t, ls, h, _ => by
    have : t = [] := List.eq_nil_of_length_eq_zero (by omega)
    subst this
    simp [deltaF]
  | f + 1, [], ls, _, _ => by simp [deltaF]
  | f + 1, x :: r, ls, h, h0 => by
    rw [deltaF]
    show deltaF [] f r (stepD [⟨0, 0, ls⟩] 0 0 x) = _
    rw [stepD_more (by omega) (by simp) (by simpa using h0)]
    show deltaF [] f r [⟨0, 0, ls ++ [x]⟩] = _
    rw [deltaF_none f r _ (by simp at h; omega) (by simp)]
    simp
theorem deltaOf_none (x : ByteArray) (r : List ByteArray) : deltaOf [] (x :: r) = [⟨0, 0, x :: r⟩] := by
  unfold deltaOf
  rw [List.length_cons, deltaF]
  show deltaF [] r.length r (stepD [] 0 0 x) = _
  rw [stepD_first (by omega) (by simp)]
  exact deltaF_none r.length r [x] (Nat.le_refl _) (by simp)
theorem deltaOf_nil (base : List ByteArray) : deltaOf base [] = [] := rfl
end Go.Vc
