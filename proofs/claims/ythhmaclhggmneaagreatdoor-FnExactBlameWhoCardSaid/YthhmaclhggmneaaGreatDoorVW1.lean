/-
  Plain functions: who wrote how many lines. No program is in sight here. / Plain functions: the commits that wrote a file's lines are commits of the repository. No program is in sight here.
-/
import Derived.Test.YthhmaclhggmneaaGreatDoorShare0
import Derived.Test.YthhmaclhggmneaaGreatDoorVH
import Derived.Test.YthhmaclhggmneaaGreatDoorPlBlame
import Derived.Sort.KeysCollected
import Derived.Maps.Views
import Derived.Maps.OwnSet
import Derived.Test.YthhmaclhggmneaaGreatDoorPlBLine
set_option linter.unusedVariables false
namespace Go.Vc
open Go.Maps Go.Proofs
/-- one line more of a name -/
def addW : List Share → ByteArray → List Share
  | [], s => [⟨s, 1⟩]
  | x :: r, s => if lessB x.who s = true then x :: addW r s else if x.who = s then ⟨x.who, x.many + 1⟩ :: r else ⟨s, 1⟩ :: x :: r
def whoF : List Share → List ByteArray → List Share
  | l, [] => l
  | l, s :: r => whoF (addW l s) r
def nameAt (r : Repo) (i : Int) : ByteArray := (r.commits.getD i.toNat noCommit).who
def namesOf (r : Repo) (xs : List Int) : List ByteArray := xs.map (nameAt r)
def blameWho (r : Repo) (at_ : Int) (path : ByteArray) : List Share := whoF [] (namesOf r (blameOf r at_ path))
def AscW (l : List Share) : Prop := l.Pairwise fun x y => lessB x.who y.who = true
theorem less_ne {a b : ByteArray} (h : lessB a b = true) : a ≠ b := fun e => by rw [e, lessB_irrefl] at h; cases h
theorem addW_mem : ∀ {l : List Share} {s : ByteArray} {t : ByteArray}, t ∈ (addW l s).map (·.who) ↔ t = s ∨ t ∈ l.map (·.who)
  | [], s, t => by simp [addW]
  | x :: r, s, t => by
    rw [addW]
    split
    · rw [List.map_cons, List.mem_cons, addW_mem, List.map_cons, List.mem_cons]
      constructor
      · rintro (h | h | h)
        · exact .inr (.inl h)
        · exact .inl h
        · exact .inr (.inr h)
      · rintro (h | h | h)
        · exact .inr (.inl h)
        · exact .inl h
        · exact .inr (.inr h)
    · split
      · rename_i _ h
        simp only [List.map_cons, List.mem_cons, h]
        constructor
        · exact fun h => .inr h
        · rintro (h | h)
          · exact .inl h
          · exact h
      · simp
theorem addW_asc : ∀ {l : List Share} {s : ByteArray}, AscW l → AscW (addW l s)
  | [], s, _ => by unfold addW AscW; simp
  | x :: r, s, h => by
    obtain ⟨h1, h2⟩ := List.pairwise_cons.1 h
    rw [addW]
    split
    · rename_i hl
      refine List.pairwise_cons.2 ⟨fun y hy => ?_, addW_asc h2⟩
      have hm : y.who ∈ (addW r s).map (·.who) := List.mem_map.2 ⟨y, hy, rfl⟩
      rcases addW_mem.1 hm with e | hm
      · rw [e]; exact hl
      · obtain ⟨z, hz, e⟩ := List.mem_map.1 hm
        rw [← e]
        exact h1 z hz
    · split
      · exact List.pairwise_cons.2 ⟨fun y hy => h1 y hy, h2⟩
      · rename_i hl hne
        have hlt : lessB s x.who = true := by
          rcases lessB_tri (by simpa using hl) with h | h
          · exact h
          · exact absurd h hne
        refine List.pairwise_cons.2 ⟨fun y hy => ?_, h⟩
        rcases List.mem_cons.1 hy with rfl | hy
        · exact hlt
        · exact lessB_trans hlt (h1 y hy)
theorem addW_many : ∀ {l : List Share} {s : ByteArray} {f : ByteArray → Int}, AscW l → (∀ x ∈ l, x.many = f x.who) → (s ∉ l.map (·.who) → f s = 0) → ∀ x ∈ addW l s, x.many = if x.who = s then f x.who + 1 else f x.who
  | [], s, f, _, _, h0 => fun x hx => by
    simp only [addW, List.mem_singleton] at hx
    subst hx
    rw [if_pos rfl, h0 (by simp)]; rfl
  | x :: r, s, f, h, hm, h0 => by
    obtain ⟨h1, h2⟩ := List.pairwise_cons.1 h
    rw [addW]
    split
    · rename_i hl
      have hne := less_ne hl
      intro y hy
      rcases List.mem_cons.1 hy with rfl | hy
      · rw [if_neg hne]; exact hm _ (by simp)
      · exact addW_many h2 (fun z hz => hm z (by simp [hz])) (fun hn => h0 (by
          intro hc
          rcases List.mem_cons.1 hc with e | hc
          · exact hne e.symm
          · exact hn hc)) y hy
    · split
      · rename_i _ he
        intro y hy
        rcases List.mem_cons.1 hy with rfl | hy
        · show x.many + 1 = if x.who = s then _ else _
          rw [if_pos he, hm x (by simp)]
        · have := less_ne (h1 y hy)
          rw [he] at this
          rw [if_neg (Ne.symm this)]
          exact hm y (by simp [hy])
      · rename_i hl hne
        have hlt : lessB s x.who = true := by
          rcases lessB_tri (by simpa using hl) with h | h
          · exact h
          · exact absurd h hne
        have hall : ∀ y ∈ x :: r, s ≠ y.who := fun y hy => by
          rcases List.mem_cons.1 hy with rfl | hy
          · exact less_ne hlt
          · exact less_ne (lessB_trans hlt (h1 y hy))
        intro y hy
        rcases List.mem_cons.1 hy with rfl | hy
        · show (1 : Int) = if s = s then _ else _
          rw [if_pos rfl, h0 (fun hc => by
            obtain ⟨z, hz, e⟩ := List.mem_map.1 hc
            exact hall z hz e.symm)]; rfl
        · rw [if_neg (Ne.symm (hall y hy))]
          exact hm y hy
/-- how often a text is there -/
def cntW : List ByteArray → ByteArray → Nat
  | [], _ => 0
  | x :: r, s => (if x = s then 1 else 0) + cntW r s
theorem cntW_snoc : ∀ (ns : List ByteArray) (t s : ByteArray), cntW (ns ++ [t]) s = cntW ns s + if t = s then 1 else 0
  | [], t, s => by simp [cntW]
  | x :: r, t, s => by rw [List.cons_append, cntW, cntW_snoc r t s, cntW]; omega
theorem cntW_zero : ∀ {ns : List ByteArray} {s : ByteArray}, s ∉ ns → cntW ns s = 0
  | [], _, _ => rfl
  | x :: r, s, h => by
    rw [cntW, cntW_zero (fun hm => h (by simp [hm])), if_neg (fun e => h (by simp [e]))]
theorem cntW_le : ∀ (ns : List ByteArray) (s : ByteArray), cntW ns s ≤ ns.length
  | [], _ => Nat.le_refl _
  | x :: r, s => by
    have := cntW_le r s
    rw [cntW, List.length_cons]
    split <;> omega
/-- what is known of the list: names that ascend, each with how many -/
def InvW (l : List Share) (ns : List ByteArray) : Prop := AscW l ∧ (∀ t, t ∈ l.map (·.who) ↔ t ∈ ns) ∧ ∀ x ∈ l, x.many = (cntW ns x.who : Int)
theorem inv_step {l : List Share} {ns : List ByteArray} {s : ByteArray} (h : InvW l ns) : InvW (addW l s) (ns ++ [s]) := by
  obtain ⟨h1, h2, h3⟩ := h
  refine ⟨addW_asc h1, fun t => ?_, fun x hx => ?_⟩
  · rw [addW_mem, h2 t, List.mem_append, List.mem_singleton]
    exact Or.comm
  · rw [addW_many (f := fun t => (cntW ns t : Int)) h1 h3 (fun hn => by
      have : s ∉ ns := fun hc => hn ((h2 s).2 hc)
      show (cntW ns s : Int) = 0
      rw [cntW_zero this]; rfl) x hx, cntW_snoc]
    by_cases e : x.who = s
    · rw [if_pos e, if_pos e.symm]; simp
    · rw [if_neg e, if_neg (Ne.symm e)]; simp
theorem inv_all : ∀ (ns : List ByteArray) {l : List Share} {ns0 : List ByteArray}, InvW l ns0 → InvW (whoF l ns) (ns0 ++ ns)
  | [], l, ns0, h => by rw [whoF, List.append_nil]; exact h
  | s :: ns, l, ns0, h => by
    have := inv_all ns (inv_step (s := s) h)
    rw [whoF, show ns0 ++ s :: ns = (ns0 ++ [s]) ++ ns from by simp]
    exact this
theorem inv_none : InvW [] [] := ⟨List.Pairwise.nil, fun t => by simp, fun x hx => by cases hx⟩
theorem whoF_inv (ns : List ByteArray) : InvW (whoF [] ns) ns := inv_all ns inv_none
theorem addW_len (l : List Share) (s : ByteArray) : (addW l s).length ≤ l.length + 1 := by
  induction l with
  | nil => simp [addW]
  | cons x r ih =>
    rw [addW]
    split
    · simp; omega
    · split <;> simp
theorem whoF_len : ∀ (ns : List ByteArray) (l : List Share), (whoF l ns).length ≤ l.length + ns.length
  | [], l => by simp [whoF]
  | s :: ns, l => by
    have h1 := whoF_len ns (addW l s)
    have h2 := addW_len l s
    rw [whoF, List.length_cons]
    omega
/-! the reference's rounds -/
theorem addW_past : ∀ (l : List Share) (s : ByteArray) (k : Nat), (∀ j (h : j < l.length), j < k → lessB l[j].who s = true) → k ≤ l.length → addW l s = l.take k ++ addW (l.drop k) s
  | l, s, 0, _, _ => by simp
  | [], s, k + 1, _, h => by simp at h
  | x :: r, s, k + 1, h, hk => by
    have h0 : lessB x.who s = true := h 0 (by simp) (by omega)
    rw [addW, if_pos h0, List.take_succ_cons, List.drop_succ_cons, List.cons_append, addW_past r s k (fun j hj hjk => h (j + 1) (by simp; omega) (by omega)) (by simpa using hk)]
theorem addW_eq {l : List Share} {s : ByteArray} {k : Nat} (h : ∀ j (h : j < l.length), j < k → lessB l[j].who s = true) (hk : k < l.length) (he : l[k].who = s) : addW l s = l.set k ⟨l[k].who, l[k].many + 1⟩ := by
  rw [addW_past l s k h (by omega), List.drop_eq_getElem_cons hk, addW, if_neg (by rw [he, lessB_irrefl]; simp), if_pos he]
  rw [List.set_eq_take_append_cons_drop, if_pos hk]
theorem addW_ins {l : List Share} {s : ByteArray} {k : Nat} (h : ∀ j (h : j < l.length), j < k → lessB l[j].who s = true) (hk : k < l.length) (hn : lessB l[k].who s = false) (he : ¬ l[k].who = s) : addW l s = (l.take k ++ [⟨s, 1⟩]) ++ l.drop k := by
  rw [addW_past l s k h (by omega), List.drop_eq_getElem_cons hk, addW, if_neg (by rw [hn]; simp), if_neg he]
  simp
theorem addW_end {l : List Share} {s : ByteArray} {k : Nat} (h : ∀ j (h : j < l.length), j < k → lessB l[j].who s = true) (hk : k = l.length) : addW l s = (l.take k ++ [⟨s, 1⟩]) ++ l.drop k := by
  rw [addW_past l s k h (by omega), List.drop_eq_nil_of_le (by omega)]
  simp [addW]
theorem whoF_next {W l : List Share} {ns : List ByteArray} {k : Nat} (H : W = whoF l (ns.drop k)) (h : k < ns.length) : W = whoF (addW l ns[k]) (ns.drop (k + 1)) := by
  rw [H, drop_cons ns k h, whoF]
theorem whoF_end {W l : List Share} {ns : List ByteArray} {k : Nat} (H : W = whoF l (ns.drop k)) (h : ¬ k < ns.length) : W = l := by
  rw [H, drop_nil ns k h, whoF]
/-! the program's map -/
def CntD (D : DataW Unit) (ns : List ByteArray) : Prop := ∀ s : ByteArray, D.atKey (.string s.data.toList) (.lit (.int .i64 0)) = .lit (.int .i64 (cntW ns s : Int)) ∧ (Maps.has D (.string s.data.toList) = true ↔ s ∈ ns)
theorem cnt_start : CntD (.map []) [] := fun s => by
  refine ⟨rfl, ?_⟩
  rw [has_eq]
  simp
theorem str_ne {s t : ByteArray} (h : t ≠ s) : (Lit.string t.data.toList) ≠ .string s.data.toList := fun e => h (by
  have e1 : t.data.toList = s.data.toList := by simpa using e
  rw [← bytesB_data t, e1, bytesB_data])
theorem cnt_step {D : DataW Unit} {ns : List ByteArray} {s : ByteArray} (hD : IsMap D) (h : CntD D ns) : CntD (D.put (.string s.data.toList) (.lit (.int .i64 ((cntW ns s : Int) + 1)))) (ns ++ [s]) := by
  intro t
  by_cases e : t = s
  · subst e
    refine ⟨?_, ?_⟩
    · rw [atKey_put_same hD (by first | trivial | exact rfl | simp [WideAt.IsKeyLit]), cntW_snoc, if_pos rfl]; simp
    · rw [has_put_same hD (by first | trivial | exact rfl | simp [WideAt.IsKeyLit])]; simp
  · refine ⟨?_, ?_⟩
    · rw [atKey_put_other (str_ne e), (h t).1, cntW_snoc, if_neg (Ne.symm e), Nat.add_zero]
    · rw [has_put_other (str_ne e), (h t).2]
      simp [e]
theorem lessL_ltW : ∀ (a b : List UInt8), lessL a b = true ↔ a < b
  | a, [] => by
    have e : lessL a [] = false := by cases a <;> rfl
    rw [e]
    simp
  | [], y :: b => by
    have e : lessL [] (y :: b) = true := rfl
    rw [e]
    simp
  | x :: a, y :: b => by
    rw [lessL_cons, List.cons_lt_cons_iff, Bool.or_eq_true, Bool.and_eq_true, decide_eq_true_eq, decide_eq_true_eq, lessL_ltW a b, UInt8.lt_iff_toNat_lt]
theorem less_ltW {a b : ByteArray} (h : lessB a b = true) : a.data.toList < b.data.toList := by
  unfold lessB at h
  rw [ByteArray.toList_eq, ByteArray.toList_eq] at h
  exact (lessL_ltW _ _).1 h
/-- the map's keys in order are the names of the list -/
theorem sorted_keys {D : DataW Unit} {ns : List ByteArray} {ss : List (List UInt8)} (hT : Tidy D) (hk : ∀ es, D = .map es → ∀ p ∈ es, ∃ x, p.1 = .string x) (h : CntD D ns) (hS : ss.Perm (strKeys D)) :
    ss.mergeSort (fun x y => decide (x ≤ y)) = (whoF [] ns).map (fun x => x.who.data.toList) ∧ ss.length = (whoF [] ns).length := by
  obtain ⟨es, rfl, hp⟩ := hT
  obtain ⟨h1, h2, h3⟩ := whoF_inv ns
  have hasc : ((whoF [] ns).map (fun x => x.who.data.toList)).Pairwise (· < ·) := List.pairwise_map.2 (h1.imp fun hl => less_ltW hl)
  have hnd : ((whoF [] ns).map (fun x => x.who.data.toList)).Nodup := hasc.imp fun hl e => by rw [e] at hl; exact List.lt_irrefl _ hl
  have hper : ((whoF [] ns).map (fun x => x.who.data.toList)).Perm (strKeys (.map es)) := by
    refine perm_strKeys hp (hk es rfl) hnd fun x => ?_
    have h4 := (h (bytesB x)).2
    rw [bytesB_list] at h4
    rw [h4, ← h2 (bytesB x)]
    constructor
    · intro hm
      obtain ⟨y, hy, e⟩ := List.mem_map.1 hm
      exact List.mem_map.2 ⟨y, hy, by show y.who = bytesB x; rw [← e, bytesB_data]⟩
    · intro hm
      obtain ⟨y, hy, e⟩ := List.mem_map.1 hm
      refine List.mem_map.2 ⟨y, hy, ?_⟩
      show y.who.data.toList = x
      rw [show y.who = bytesB x from e, bytesB_list]
  have hp2 := hS.trans hper.symm
  refine ⟨?_, by rw [hp2.length_eq, List.length_map]⟩
  have e1 := mergeSort_of_perm hp2
  show ss.mergeSort leB = _
  rw [e1]
  refine List.mergeSort_of_pairwise (hasc.imp fun hl => ?_)
  show decide _ = true
  exact decide_eq_true (List.le_of_lt hl)
end Go.Vc
namespace Go.Vc
theorem lineF_in {cs : List Commit} (hP : parOk cs) : ∀ (n : Nat) (at_ : Int), 0 ≤ at_ → at_ < (cs.length : Int) → ∀ v ∈ lineF cs n at_, 0 ≤ v ∧ v < (cs.length : Int)
  | 0, at_, _, _, v, hv => by simp [lineF] at hv
  | n + 1, at_, h0, h1, v, hv => by
    cases hp : (cs.getD at_.toNat noCommit).parents with
    | nil =>
      rw [line_root hp, List.mem_singleton] at hv
      subst hv
      exact ⟨h0, h1⟩
    | cons p ps =>
      obtain ⟨k0, k1⟩ := par_first hP h0 h1 hp
      rw [line_step hp] at hv
      rcases List.mem_cons.1 hv with rfl | hv
      · exact ⟨h0, h1⟩
      · exact lineF_in hP n p k0 (by omega) v hv
theorem blameOf_in (r : Repo) (at_ : Int) (path : ByteArray) : ∀ v ∈ blameOf r at_ path, 0 ≤ v ∧ v < (r.commits.length : Int) := by
  intro v hv
  unfold blameOf at hv
  split at hv
  · rename_i h
    rw [Bool.and_eq_true] at h
    have h2 := any_at h.2 (k := 0) (by simp)
    have h3 : 0 ≤ at_ ∧ at_ < (r.commits.length : Int) := h2
    cases hb : blameF r.commits path r.commits.length at_ with
    | none => rw [hb] at hv; simp at hv
    | some l =>
      rw [hb] at hv
      obtain ⟨x, hx, e⟩ := List.getElem_of_mem hv
      have e2 : l[x]? = some v := by
        rw [← e]
        exact List.getElem?_eq_getElem hx
      exact lineF_in (repo_par h.1) _ _ h3.1 h3.2 v (blame_on (repo_par h.1) r.commits.length at_ l x v h3.1 h3.2 h3.2 hb e2)
  · cases hv
theorem namesOf_len (r : Repo) (xs : List Int) : (namesOf r xs).length = xs.length := by simp [namesOf]
theorem blameWho_len (r : Repo) (at_ : Int) (path : ByteArray) : (blameWho r at_ path).length ≤ 10 := by
  have h1 := whoF_len (namesOf r (blameOf r at_ path)) []
  have h2 := blameOf_len r at_ path
  rw [namesOf_len] at h1
  simp at h1
  unfold blameWho
  omega
theorem addW_bound : ∀ {l : List Share} {s : ByteArray} {c : Int}, (∀ x ∈ l, 0 ≤ x.many ∧ x.many ≤ c) → 0 ≤ c → ∀ x ∈ addW l s, 0 ≤ x.many ∧ x.many ≤ c + 1
  | [], s, c, _, hc => fun x hx => by
    simp only [addW, List.mem_singleton] at hx
    subst hx
    exact ⟨by show (0 : Int) ≤ 1; decide, by show (1 : Int) ≤ c + 1; omega⟩
  | y :: r, s, c, h, hc => by
    have hy := h y (by simp)
    rw [addW]
    intro x
    split
    · intro hx
      rcases List.mem_cons.1 hx with rfl | hx
      · omega
      · exact addW_bound (fun z hz => h z (by simp [hz])) hc x hx
    · split
      · intro hx
        rcases List.mem_cons.1 hx with rfl | hx
        · show 0 ≤ y.many + 1 ∧ y.many + 1 ≤ c + 1
          omega
        · have := h x (by simp [hx]); omega
      · intro hx
        rcases List.mem_cons.1 hx with rfl | hx
        · exact ⟨by show (0 : Int) ≤ 1; decide, by show (1 : Int) ≤ c + 1; omega⟩
        · have := h x hx; omega
theorem take_snoc {ns : List ByteArray} {k : Nat} (h : k < ns.length) : ns.take (k + 1) = ns.take k ++ [ns[k]] := by simp
end Go.Vc
