/-
  Plain functions: names, and texts in order. No program is in sight here. / Plain functions: paths. No program is in sight here. / Plain functions: a text's bytes in pieces. No program is in sight here. / Plain functions: whether a path is below another one. No program is in sight here. / Plain functions: trees. No program is in sight here. / Plain functions: repositories. No program is in sight here.
-/
import Derived.Test.YthddcfbjgcbioaaGreatDoorVA
import Derived.Test.YthddcfbjgcbioaaGreatDoorCore
import Derived.Laws.Cover1
import Derived.Lib.SplitLaws
import Derived.Lib.IndexBytes
import Derived.Test.YthddcfbjgcbioaaGreatDoorVC
set_option linter.unusedVariables false
namespace Go.Vc

def wordB (c : UInt8) : Bool := (decide (97 ≤ c.toNat) && decide (c.toNat ≤ 122)) || (decide (48 ≤ c.toNat) && decide (c.toNat ≤ 57))
def nameB (s : ByteArray) : Bool := withinB (s.size : Int) 1 6 && s.data.toList.all wordB
theorem nameB_bad1 {s : ByteArray} (h : withinB (s.size : Int) 1 6 = false) : nameB s = false := by rw [nameB, h]; rfl
theorem nameB_of {s : ByteArray} (h : withinB (s.size : Int) 1 6 = true) : nameB s = s.data.toList.all wordB := by rw [nameB, h]; rfl
theorem nameB_bad2 {s : ByteArray} (h : s.data.toList.all wordB = false) : nameB s = false := by rw [nameB, h, Bool.and_false]
theorem within_both (n lo hi : Int) : withinB n lo hi = true ↔ lo ≤ n ∧ n ≤ hi := by simp [withinB]
theorem nameB_size {s : ByteArray} (h : nameB s = true) : 1 ≤ s.size ∧ s.size ≤ 6 := by
  unfold nameB at h
  have := (within_both _ _ _).1 (Bool.and_eq_true_iff.1 h).1
  omega

/-- '<' on texts -/
def lessL : List UInt8 → List UInt8 → Bool := Op.bytesLess
theorem lessL_irrefl : ∀ a, lessL a a = false
  | [] => rfl
  | x :: a => by
    show (decide (x < x) || (x == x && lessL a a)) = false
    rw [lessL_irrefl a]
    simp
theorem u8_lt (a b : UInt8) : (a < b) ↔ a.toNat < b.toNat := UInt8.lt_iff_toNat_lt
theorem u8_ext {a b : UInt8} (h : a.toNat = b.toNat) : a = b := UInt8.toNat_inj.1 h
theorem lessL_cons (x y : UInt8) (a b : List UInt8) : lessL (x :: a) (y :: b) = (decide (x.toNat < y.toNat) || (decide (x = y) && lessL a b)) := by
  show (decide (x < y) || (x == y && lessL a b)) = _
  have h1 : decide (x < y) = decide (x.toNat < y.toNat) := by rw [decide_eq_decide]; exact u8_lt x y
  have h2 : (x == y) = decide (x = y) := rfl
  rw [h1, h2]
/-- of two texts one is less, or they are one -/
theorem lessL_tri : ∀ a b, lessL a b = false → lessL b a = true ∨ a = b
  | [], [], _ => .inr rfl
  | [], _ :: _, h => by simp [lessL, Op.bytesLess] at h
  | x :: a, [], _ => .inl rfl
  | x :: a, y :: b, h => by
    rw [lessL_cons] at h ⊢
    simp only [Bool.or_eq_false_iff, decide_eq_false_iff_not, Bool.and_eq_false_iff] at h
    by_cases e : x = y
    · subst e
      rcases lessL_tri a b (by simpa using h.2) with h' | h'
      · exact .inl (by rw [h']; simp)
      · exact .inr (by rw [h'])
    · have : ¬ x.toNat = y.toNat := fun h => e (u8_ext h)
      exact .inl (by simp; omega)
theorem lessL_asymm : ∀ a b, lessL a b = true → lessL b a = false
  | [], [], h => by simp [lessL, Op.bytesLess] at h
  | [], _ :: _, _ => rfl
  | x :: a, [], h => by simp [lessL, Op.bytesLess] at h
  | x :: a, y :: b, h => by
    rw [lessL_cons] at h ⊢
    simp only [Bool.or_eq_true, decide_eq_true_eq, Bool.and_eq_true] at h
    rcases h with h | ⟨rfl, h⟩
    · have hne : y ≠ x := fun e => by subst e; omega
      simp [hne]; omega
    · rw [lessL_asymm a b h]; simp
theorem lessL_trans : ∀ a b c, lessL a b = true → lessL b c = true → lessL a c = true
  | [], b, [], h1, h2 => by cases b <;> simp [lessL, Op.bytesLess] at h1 h2
  | [], _, _ :: _, _, _ => rfl
  | x :: a, [], c, h1, _ => by simp [lessL, Op.bytesLess] at h1
  | x :: a, y :: b, [], _, h2 => by simp [lessL, Op.bytesLess] at h2
  | x :: a, y :: b, z :: c, h1, h2 => by
    rw [lessL_cons] at h1 h2 ⊢
    simp only [Bool.or_eq_true, decide_eq_true_eq, Bool.and_eq_true] at h1 h2 ⊢
    rcases h1 with h1 | ⟨rfl, h1⟩
    · rcases h2 with h2 | ⟨rfl, h2⟩
      · exact .inl (by omega)
      · exact .inl h1
    · rcases h2 with h2 | ⟨rfl, h2⟩
      · exact .inl h2
      · exact .inr ⟨rfl, lessL_trans a b c h1 h2⟩
def lessB (a b : ByteArray) : Bool := lessL a.toList b.toList
theorem lessB_irrefl (a : ByteArray) : lessB a a = false := lessL_irrefl _
theorem lessB_tri {a b : ByteArray} (h : lessB a b = false) : lessB b a = true ∨ a = b := (lessL_tri _ _ h).imp id toList_inj
theorem lessB_asymm {a b : ByteArray} (h : lessB a b = true) : lessB b a = false := lessL_asymm _ _ h
theorem lessB_trans {a b c : ByteArray} (h : lessB a b = true) (k : lessB b c = true) : lessB a c = true := lessL_trans _ _ _ h k
/-- 'b <= a', as both programs ask it -/
theorem lessB_not (a b : ByteArray) : (!lessB a b) = (lessB b a || decide (b = a)) := by
  cases h : lessB a b with
  | true =>
    rw [lessB_asymm h]
    have : ¬ b = a := fun e => by rw [e, lessB_irrefl] at h; cases h
    simp [this]
  | false =>
    rcases lessB_tri h with h' | h'
    · rw [h']; rfl
    · rw [h']; simp
/-- texts in ascending order: place i and the one ahead of it -/
def stepUp (xs : List ByteArray) (i : Nat) : Bool := decide (i = 0) || lessB (xs.getD (i - 1) ⟨#[]⟩) (xs.getD i ⟨#[]⟩)
/-- names in ascending order -/
def namesB (xs : List ByteArray) : Bool := decide (∀ i, i < xs.length → nameB (xs.getD i ⟨#[]⟩) = true ∧ stepUp xs i = true)
theorem namesB_t {xs : List ByteArray} (h : ∀ i, i < xs.length → nameB (xs.getD i ⟨#[]⟩) = true ∧ stepUp xs i = true) : namesB xs = true := decide_eq_true h
theorem namesB_f {xs : List ByteArray} {i : Nat} (hi : i < xs.length) (h : ¬ (nameB (xs.getD i ⟨#[]⟩) = true ∧ stepUp xs i = true)) : namesB xs = false := decide_eq_false fun hh => h (hh i hi)
end Go.Vc
namespace Go.Vc

/-- a text's bytes cut at each stroke -/
def cutL (c : UInt8) : List UInt8 → List (List UInt8)
  | [] => [[]]
  | b :: r => if b = c then [] :: cutL c r else match cutL c r with
    | h :: t => (b :: h) :: t
    | [] => [[b]]
theorem cutL_free {c : UInt8} : ∀ {s : List UInt8}, c ∉ s → cutL c s = [s]
  | [], _ => rfl
  | b :: r, h => by
    have hb : b ≠ c := fun e => h (by simp [e])
    have hr : c ∉ r := fun hm => h (by simp [hm])
    rw [cutL, if_neg hb, cutL_free hr]
theorem cutL_at {c : UInt8} : ∀ {p r : List UInt8}, c ∉ p → cutL c (p ++ c :: r) = p :: cutL c r
  | [], r, _ => by rw [List.nil_append, cutL, if_pos rfl]
  | b :: p, r, h => by
    have hb : b ≠ c := fun e => h (by simp [e])
    have hr : c ∉ p := fun hm => h (by simp [hm])
    rw [List.cons_append, cutL, if_neg hb, cutL_at hr]
theorem indexByte_at {c : UInt8} : ∀ {p r : List UInt8}, c ∉ p → Lib.indexByte (p ++ c :: r) c = (p.length : Int)
  | [], r, _ => by simp [Lib.indexByte]
  | b :: p, r, h => by
    have hb : b ≠ c := fun e => h (by simp [e])
    have hr : c ∉ p := fun hm => h (by simp [hm])
    have hbc : (b == c) = false := by simp [hb]
    have hi := indexByte_at (r := r) hr
    rw [List.cons_append, Lib.indexByte, hbc, hi]
    have : ((p.length : Int) == -1) = false := by rw [beq_eq_false_iff_ne]; omega
    rw [this]
    simp
/-- cut at the first m strokes at most -/
def cutM (c : UInt8) (m : Nat) (s : List UInt8) : List (List UInt8) := Lib.splitK [c] 0 m s
theorem cutM_zero (c : UInt8) (s : List UInt8) : cutM c 0 s = [s] := rfl
theorem indexByte_free {c : UInt8} : ∀ {s : List UInt8}, c ∉ s → Lib.indexByte s c = -1
  | [], _ => rfl
  | b :: r, h => by
    have hb : b ≠ c := fun e => h (by simp [e])
    have hr : c ∉ r := fun hm => h (by simp [hm])
    have hbc : (b == c) = false := by simp [hb]
    rw [Lib.indexByte, hbc, indexByte_free hr]
    simp
theorem cutM_free {c : UInt8} {m : Nat} {s : List UInt8} (h : c ∉ s) : cutM c m s = [s] := by
  cases m with
  | zero => rfl
  | succ m =>
    unfold cutM Lib.splitK
    rw [Lib.index_one, indexByte_free h]
    simp
theorem cutM_at {c : UInt8} {m : Nat} {p r : List UInt8} (h : c ∉ p) : cutM c (m + 1) (p ++ c :: r) = p :: cutM c m r := by
  unfold cutM
  rw [Lib.splitK, Lib.index_one, indexByte_at h]
  have e : ((p.length : Int) == -1) = false := by rw [beq_eq_false_iff_ne]; omega
  rw [e]
  simp
theorem cut_first {c : UInt8} {s : List UInt8} (h : c ∈ s) : ∃ p r, s = p ++ c :: r ∧ c ∉ p := by
  induction s with
  | nil => cases h
  | cons b t ih =>
    by_cases hb : b = c
    · subst hb; exact ⟨[], t, rfl, by simp⟩
    · obtain ⟨p, r, rfl, hp⟩ := ih (by simpa [Ne.symm hb] using h)
      exact ⟨b :: p, r, rfl, by simp [Ne.symm hb, hp]⟩
theorem cutM_all {c : UInt8} : ∀ (m : Nat) (s : List UInt8), s.count c ≤ m → cutM c m s = cutL c s
  | 0, s, h => by
    have hf : c ∉ s := fun hm => by have := List.count_pos_iff.2 hm; omega
    rw [cutM_free hf, cutL_free hf]
  | m + 1, s, h => by
    by_cases hm : c ∈ s
    · obtain ⟨p, r, rfl, hp⟩ := cut_first hm
      have : r.count c ≤ m := by
        rw [List.count_append, List.count_cons_self] at h
        omega
      rw [cutM_at hp, cutL_at hp, cutM_all m r this]
    · rw [cutM_free hm, cutL_free hm]
theorem cutM_len {c : UInt8} : ∀ (m : Nat) (s : List UInt8), (cutM c m s).length = min m (s.count c) + 1
  | 0, s => by rw [cutM_zero]; simp
  | m + 1, s => by
    by_cases hm : c ∈ s
    · obtain ⟨p, r, rfl, hp⟩ := cut_first hm
      have hp0 : p.count c = 0 := List.count_eq_zero.2 hp
      rw [cutM_at hp, List.length_cons, cutM_len m r, List.count_append, List.count_cons_self, hp0]
      omega
    · rw [cutM_free hm, List.count_eq_zero.2 hm]; simp
/-- a path, by its bytes -/
def nameL (s : List UInt8) : Bool := withinB (s.length : Int) 1 6 && s.all wordB
def pathL (s : List UInt8) : Bool := decide ((cutL 47 s).length ≤ 3) && (cutL 47 s).all nameL
def pathB (s : ByteArray) : Bool := pathL s.data.toList
theorem nameB_L (s : ByteArray) : nameB s = nameL s.data.toList := by
  unfold nameB nameL
  rw [show s.data.toList.length = s.size from by simp]
theorem pathL_cut (s : List UInt8) : pathL s = (decide ((cutM 47 3 s).length ≤ 3) && (cutM 47 3 s).all nameL) := by
  by_cases h : s.count 47 ≤ 3
  · rw [cutM_all 3 s h]; rfl
  · have h1 := cutM_len (c := 47) 3 s
    have h2 : (cutL 47 s).length = s.count 47 + 1 := by
      have := cutM_len (c := 47) (s.count 47) s
      rw [cutM_all _ s (Nat.le_refl _)] at this
      omega
    have e1 : decide ((cutL 47 s).length ≤ 3) = false := decide_eq_false (by omega)
    have e2 : decide ((cutM 47 3 s).length ≤ 3) = false := decide_eq_false (by omega)
    rw [pathL, e1, e2]; rfl
end Go.Vc
namespace Go.Vc

def bytesB (l : List UInt8) : ByteArray := ⟨l.toArray⟩
theorem bytesB_data (s : ByteArray) : bytesB s.data.toList = s := by simp [bytesB]
theorem bytesB_list (l : List UInt8) : (bytesB l).data.toList = l := by simp [bytesB]
theorem bytesB_size (l : List UInt8) : (bytesB l).size = l.length := by simp [bytesB, ByteArray.size]
theorem extract_bytes (s : ByteArray) (f k : Nat) : s.extract f k = bytesB ((s.data.toList.drop f).take (k - f)) := by
  apply ByteArray.ext
  apply Array.ext'
  simp [bytesB, ByteArray.data_extract, Array.toList_extract, List.extract_eq_take_drop]
/-- pieces, cut at a byte, so many times at most -/
def piecesM (c : UInt8) (m : Nat) (s : ByteArray) : List ByteArray := (cutM c m s.data.toList).map bytesB
def pieces (c : UInt8) (s : ByteArray) : List ByteArray := (cutL c s.data.toList).map bytesB
theorem pieces_len (c : UInt8) (s : ByteArray) : (pieces c s).length = (cutL c s.data.toList).length := by simp [pieces]
theorem cutL_len (c : UInt8) (s : List UInt8) : (cutL c s).length = s.count c + 1 := by
  have := cutM_len (c := c) (s.count c) s
  rw [cutM_all _ s (Nat.le_refl _)] at this
  omega
theorem cutM_mem {c : UInt8} : ∀ (m : Nat) (s : List UInt8) (x : List UInt8), x ∈ cutM c m s → x.length ≤ s.length
  | 0, s, x, h => by rw [cutM_zero] at h; simp at h; rw [h]; exact Nat.le_refl _
  | m + 1, s, x, h => by
    by_cases hm : c ∈ s
    · obtain ⟨p, r, rfl, hp⟩ := cut_first hm
      rw [cutM_at hp] at h
      rcases List.mem_cons.1 h with rfl | h
      · simp
      · have := cutM_mem m r x h
        simp; omega
    · rw [cutM_free hm] at h
      simp at h; rw [h]; exact Nat.le_refl _
theorem pieces_small {c : UInt8} {s : ByteArray} {i : Nat} (h : i < (pieces c s).length) : (pieces c s)[i].size ≤ s.size := by
  have hm := List.getElem_mem h
  obtain ⟨x, hx, he⟩ := List.mem_map.1 hm
  rw [← he, bytesB_size]
  rw [← cutM_all (s.data.toList.count c) s.data.toList (Nat.le_refl _)] at hx
  have := cutM_mem _ _ _ hx
  simpa using this
/-- the library's own words -/
theorem splitB_pieces (c : UInt8) (s : ByteArray) : Lib.splitB ⟨#[c]⟩ 0 (Lib.countB s ⟨#[c]⟩) s = pieces c s := by
  have h := Lib.splitB_data ⟨#[c]⟩ 0 (Lib.countB s ⟨#[c]⟩) s
  have hc : Lib.countB s ⟨#[c]⟩ = s.data.toList.count c := Lib.count_one c s.data.toList
  have e : (fun l : List UInt8 => bytesB l) ∘ (fun x : ByteArray => x.data.toList) = id := funext fun x => bytesB_data x
  have h2 := congrArg (List.map bytesB) h
  rw [List.map_map, e, List.map_id] at h2
  rw [h2, pieces, ← cutM_all (s.data.toList.count c) s.data.toList (Nat.le_refl _), hc]
  rfl
theorem countB_pieces (c : UInt8) (s : ByteArray) : Lib.countB s ⟨#[c]⟩ + 1 = (pieces c s).length := by
  have hc : Lib.countB s ⟨#[c]⟩ = s.data.toList.count c := Lib.count_one c s.data.toList
  rw [hc, pieces_len, cutL_len]

theorem pathB_pieces (s : ByteArray) : pathB s = (decide ((pieces 47 s).length ≤ 3) && (pieces 47 s).all nameB) := by
  have e : ∀ l, nameB (bytesB l) = nameL l := fun l => by rw [nameB_L, bytesB_list]
  rw [pathB, pathL, pieces_len, pieces, List.all_map]
  congr 2
theorem pathB_piecesM (s : ByteArray) : pathB s = (decide ((piecesM 47 3 s).length ≤ 3) && (piecesM 47 3 s).all nameB) := by
  have e : ∀ l, nameB (bytesB l) = nameL l := fun l => by rw [nameB_L, bytesB_list]
  rw [pathB, pathL_cut, piecesM, List.length_map, List.all_map]
  congr 2
theorem path_long {s : ByteArray} (h : ¬ (pieces 47 s).length ≤ 3) : pathB s = false := by rw [pathB_pieces, decide_eq_false h]; rfl
theorem path_short {s : ByteArray} (h : (pieces 47 s).length ≤ 3) : pathB s = (pieces 47 s).all nameB := by rw [pathB_pieces, decide_eq_true h]; rfl
theorem piecesM_small {c : UInt8} {m : Nat} {s : ByteArray} {i : Nat} (h : i < (piecesM c m s).length) : (piecesM c m s)[i].size ≤ s.size := by
  obtain ⟨x, hx, he⟩ := List.mem_map.1 (List.getElem_mem h)
  rw [← he, bytesB_size]
  have := cutM_mem _ _ _ hx
  simpa using this
theorem piecesM_len (c : UInt8) (m : Nat) (s : ByteArray) : (piecesM c m s).length ≤ m + 1 := by
  rw [piecesM, List.length_map, cutM_len]
  omega

/-- how far the cutting has come: pieces so far, the place from which the next piece runs, the place that is looked at -/
def CutS (c : UInt8) (m : Nat) (s : ByteArray) (ol : List ByteArray) (f k : Nat) : Prop :=
  piecesM c m s = ol ++ (cutM c (m - ol.length) (s.data.toList.drop f)).map bytesB ∧ f ≤ k ∧ k ≤ s.size ∧ ol.length ≤ m ∧ c ∉ (s.data.toList.drop f).take (k - f)
theorem CutS.start (c : UInt8) (m : Nat) (s : ByteArray) : CutS c m s [] 0 0 := ⟨rfl, Nat.le_refl _, Nat.zero_le _, Nat.zero_le _, by simp⟩
theorem take_succ_drop (l : List UInt8) {f k : Nat} (h : f ≤ k) (hk : k < l.length) : (l.drop f).take (k + 1 - f) = (l.drop f).take (k - f) ++ [l[k]] := by
  have e : k + 1 - f = (k - f) + 1 := by omega
  have hl : k - f < (l.drop f).length := by simp; omega
  rw [e, List.take_succ_eq_append_getElem hl]
  congr 2
  rw [List.getElem_drop]
  congr 1
  omega
theorem CutS.skip {c : UInt8} {m : Nat} {s : ByteArray} {ol : List ByteArray} {f k : Nat} (h : CutS c m s ol f k) (hk : k < s.size) (hc : ¬ s[k].toNat = c.toNat) : CutS c m s ol f (k + 1) := by
  obtain ⟨h1, h2, h3, h4, h5⟩ := h
  have hk' : k < s.data.toList.length := by simpa using hk
  refine ⟨h1, by omega, hk, h4, ?_⟩
  rw [take_succ_drop s.data.toList h2 hk']
  intro hm
  rcases List.mem_append.1 hm with hm | hm
  · exact h5 hm
  · simp only [List.mem_singleton] at hm
    apply hc
    rw [hm, byte_at s k hk]
theorem CutS.cut {c : UInt8} {m : Nat} {s : ByteArray} {ol : List ByteArray} {f k : Nat} (h : CutS c m s ol f k) (hk : k < s.size) (hc : s[k].toNat = c.toNat) (hl : ol.length < m) : CutS c m s (ol ++ [s.extract f k]) (k + 1) (k + 1) := by
  obtain ⟨h1, h2, h3, h4, h5⟩ := h
  have hk' : k < s.data.toList.length := by simpa using hk
  refine ⟨?_, Nat.le_refl _, hk, by simp; omega, by simp⟩
  have e : s.data.toList.drop f = (s.data.toList.drop f).take (k - f) ++ c :: s.data.toList.drop (k + 1) := by
    conv => lhs; rw [← List.take_append_drop (k - f) (s.data.toList.drop f)]
    congr 1
    rw [List.drop_drop, show f + (k - f) = k by omega, List.drop_eq_getElem_cons hk']
    congr 1
    rw [byte_at s k hk]
    exact u8_ext hc
  have em : m - ol.length = (m - (ol ++ [s.extract f k]).length) + 1 := by simp; omega
  rw [h1, e, em, cutM_at h5, List.map_cons, ← extract_bytes]
  simp
theorem CutS.fin {c : UInt8} {m : Nat} {s : ByteArray} {ol : List ByteArray} {f k : Nat} (h : CutS c m s ol f k) (he : ¬ k < s.size ∨ ¬ ol.length < m) : piecesM c m s = ol ++ [s.extract f s.size] := by
  obtain ⟨h1, h2, h3, h4, h5⟩ := h
  rw [h1, extract_bytes]
  congr 1
  have eT : (s.data.toList.drop f).take (s.size - f) = s.data.toList.drop f := List.take_of_length_le (by simp)
  rw [eT]
  by_cases hm : ol.length < m
  · have hk : k = s.size := by rcases he with he | he; omega; exact absurd hm he
    subst hk
    rw [eT] at h5
    rw [cutM_free h5]; rfl
  · have : m - ol.length = 0 := by omega
    rw [this, cutM_zero]; rfl
end Go.Vc
namespace Go.Vc
/-- s begins with p -/
def pfxB (p s : ByteArray) : Bool := p.data.toList.isPrefixOf s.data.toList
theorem pfxB_long {p s : ByteArray} (h : ¬ p.size ≤ s.size) : pfxB p s = false := by
  unfold pfxB
  cases hp : p.data.toList.isPrefixOf s.data.toList with
  | false => rfl
  | true =>
    have := (List.isPrefixOf_iff_prefix.1 hp).length_le
    simp at this
    exact absurd this h
theorem extract_list (s : ByteArray) (k : Nat) : (s.extract 0 k).data.toList = s.data.toList.take k := by
  rw [extract_bytes, bytesB_list]; simp
theorem ba_ext {a b : ByteArray} (h : a.data.toList = b.data.toList) : a = b := by
  cases a; cases b; simp only [ByteArray.mk.injEq]; exact Array.ext' h
theorem pfxB_of {p s : ByteArray} (h : p.size ≤ s.size) : pfxB p s = decide (s.extract 0 p.size = p) := by
  unfold pfxB
  by_cases he : s.extract 0 p.size = p
  · rw [decide_eq_true he]
    rw [List.isPrefixOf_iff_prefix]
    have e := extract_list s p.size
    rw [he] at e
    exact ⟨s.data.toList.drop p.size, by rw [e]; exact List.take_append_drop _ _⟩
  · rw [decide_eq_false he]
    cases hp : p.data.toList.isPrefixOf s.data.toList with
    | false => rfl
    | true =>
      have := List.prefix_iff_eq_take.1 (List.isPrefixOf_iff_prefix.1 hp)
      exact absurd (ba_ext (by rw [extract_list]; simpa using this.symm)) he
/-- p is below d -/
def inB (d p : ByteArray) : Bool := pfxB (d ++ ⟨#[47]⟩) p
theorem append_list (a b : ByteArray) : (a ++ b).data.toList = a.data.toList ++ b.data.toList := by
  rw [ByteArray.data_append]; simp
theorem append_size (a b : ByteArray) : (a ++ b).size = a.size + b.size := by
  simp
theorem inB_short {d p : ByteArray} (h : ¬ d.size < p.size) : inB d p = false := pfxB_long (by rw [append_size]; show ¬ d.size + 1 ≤ p.size; omega)
theorem inB_other {d p : ByteArray} (h : ¬ p.extract 0 d.size = d) : inB d p = false := by
  cases hp : inB d p with
  | false => rfl
  | true =>
    have := (List.isPrefixOf_iff_prefix.1 hp)
    rw [append_list] at this
    have h2 := List.prefix_iff_eq_take.1 ((List.prefix_append _ _).trans this)
    exact absurd (ba_ext (by rw [extract_list]; simpa using h2.symm)) h
theorem inB_of {d p : ByteArray} (hl : d.size < p.size) (h : p.extract 0 d.size = d) : inB d p = decide (p[d.size].toNat = 47) := by
  have e1 : d.data.toList = p.data.toList.take d.size := by rw [← extract_list, h]
  have hl' : d.size < p.data.toList.length := by simpa using hl
  have e2 : p.data.toList = d.data.toList ++ p[d.size] :: p.data.toList.drop (d.size + 1) := by
    conv => lhs; rw [← List.take_append_drop d.size p.data.toList, ← e1, List.drop_eq_getElem_cons hl']
    rw [byte_at p d.size hl]
  unfold inB pfxB
  rw [append_list]
  by_cases hc : p[d.size].toNat = 47
  · rw [decide_eq_true hc, List.isPrefixOf_iff_prefix]
    have hc' : p[d.size] = 47 := u8_ext hc
    rw [e2, hc']
    exact ⟨p.data.toList.drop (d.size + 1), by simp⟩
  · rw [decide_eq_false hc]
    cases hp : (d.data.toList ++ (⟨#[47]⟩ : ByteArray).data.toList).isPrefixOf p.data.toList with
    | false => rfl
    | true =>
      obtain ⟨r, hr⟩ := List.isPrefixOf_iff_prefix.1 hp
      rw [e2] at hr
      have : (47 : UInt8) :: r = p[d.size] :: p.data.toList.drop (d.size + 1) := by simpa using hr
      injection this with h3 _
      exact absurd (by rw [← h3]; rfl) hc
theorem inB_of' {d p : ByteArray} (hl : d.size < p.size) (h : p.extract 0 d.size = d) : inB d p = ((p[d.size].toNat : Int) == 47) := by
  rw [inB_of hl h]
  by_cases e : p[d.size].toNat = 47
  · rw [decide_eq_true e, e]; rfl
  · rw [decide_eq_false e]
    symm
    rw [beq_eq_false_iff_ne]
    omega
/-- p is below d, and both are paths -/
def pathInB (d p : ByteArray) : Bool := pathB d && pathB p && inB d p
end Go.Vc
namespace Go.Vc
theorem leq_str (a b : ByteArray) {c : Bool} (h : lessB b a = c) : (Op.bytesLess a.toList b.toList || decide (a = b)) = !c := by
  subst h
  exact (lessB_not b a).symm
theorem lessL_prefix : ∀ (d : List UInt8) (x : UInt8) (r : List UInt8), lessL d (d ++ x :: r) = true
  | [], _, _ => rfl
  | y :: d, x, r => by
    rw [List.cons_append, lessL_cons, lessL_prefix d x r]
    simp
theorem inB_less {d p : ByteArray} (h : inB d p = true) : lessB d p = true := by
  obtain ⟨r, hr⟩ := List.isPrefixOf_iff_prefix.1 h
  unfold lessB
  rw [ByteArray.toList_eq, ByteArray.toList_eq, ← hr, append_list, List.append_assoc]
  exact lessL_prefix _ _ _
theorem inB_self (d : ByteArray) : inB d d = false := inB_short (by omega)
def noFile : File := ⟨⟨#[]⟩, []⟩
def fStep (t : List File) (i : Nat) : Bool := decide (i = 0) || lessB (t.getD (i - 1) noFile).path (t.getD i noFile).path
def fileAt (t : List File) (i : Nat) : Bool := pathB (t.getD i noFile).path && textB (t.getD i noFile).text && fStep t i
def apartAt (t : List File) (i : Nat) : Bool := decide (∀ j, j < i → inB (t.getD j noFile).path (t.getD i noFile).path = false)
def treeAt (t : List File) (i : Nat) : Bool := fileAt t i && apartAt t i
def treesB (t : List File) : Bool := decide (∀ i, i < t.length → treeAt t i = true)
def treeB (t : List File) : Bool := decide (t.length ≤ 8) && treesB t
def overAt (t : List File) (i : Nat) : Bool := decide (∀ k, k < t.length → inB (t.getD i noFile).path (t.getD k noFile).path = false)
theorem getD_file {t : List File} {i : Nat} (hi : i < t.length) : t.getD i noFile = t[i] := by simp [List.getD, hi]
theorem tree_long {t : List File} (h : ¬ t.length ≤ 8) : treeB t = false := by rw [treeB, decide_eq_false h]; rfl
theorem tree_few {t : List File} (h : t.length ≤ 8) : treeB t = treesB t := by rw [treeB, decide_eq_true h]; rfl
theorem trees_f {t : List File} {i : Nat} (hi : i < t.length) (h : treeAt t i = false) : treesB t = false := decide_eq_false fun hh => by rw [hh i hi] at h; cases h
theorem trees_t {t : List File} (h : ∀ i, i < t.length → treeAt t i = true) : treesB t = true := decide_eq_true h
theorem fStep_pos {t : List File} {i : Nat} (h0 : 0 < i) (hi : i < t.length) : fStep t i = lessB (t[i - 1]'(by omega)).path t[i].path := by
  unfold fStep
  rw [getD_file hi, getD_file (by omega), decide_eq_false (by omega), Bool.false_or]
theorem fileAt_text {t : List File} {i : Nat} (hi : i < t.length) (h : textB t[i].text = false) : fileAt t i = false := by unfold fileAt; rw [getD_file hi, h, Bool.and_false]; rfl
theorem fileAt_path {t : List File} {i : Nat} (hi : i < t.length) (h : pathB t[i].path = false) : fileAt t i = false := by unfold fileAt; rw [getD_file hi, h]; rfl
theorem fileAt_step {t : List File} {i : Nat} (h0 : 0 < i) (hi : i < t.length) (h : lessB (t[i - 1]'(by omega)).path t[i].path = false) : fileAt t i = false := by unfold fileAt; rw [fStep_pos h0 hi, h, Bool.and_false]
theorem fileAt_pos {t : List File} {i : Nat} (h0 : 0 < i) (hi : i < t.length) (h1 : pathB t[i].path = true) (h2 : textB t[i].text = true) (h : lessB (t[i - 1]'(by omega)).path t[i].path = true) : fileAt t i = true := by
  unfold fileAt; rw [fStep_pos h0 hi, h, getD_file hi, h1, h2]; rfl
theorem fileAt_first {t : List File} {i : Nat} (h0 : i = 0) (hi : i < t.length) (h1 : pathB t[i].path = true) (h2 : textB t[i].text = true) : fileAt t i = true := by
  unfold fileAt; rw [getD_file hi, h1, h2]; unfold fStep; rw [decide_eq_true h0]; rfl
theorem treeAt_file {t : List File} {i : Nat} (h : fileAt t i = false) : treeAt t i = false := by rw [treeAt, h]; rfl
theorem treeAt_in {t : List File} {i j : Nat} (hi : i < t.length) (hj : j < i) (h : inB (t[j]'(by omega)).path t[i].path = true) : treeAt t i = false := by
  rw [treeAt, Bool.and_eq_false_iff]
  refine .inr (decide_eq_false fun hh => ?_)
  have := hh j hj
  rw [getD_file hi, getD_file (by omega), h] at this
  cases this
theorem treeAt_ok {t : List File} {i : Nat} (hi : i < t.length) (h : fileAt t i = true) (ha : ∀ j, (hj : j < i) → inB (t[j]'(by omega)).path t[i].path = false) : treeAt t i = true := by
  rw [treeAt, h, Bool.true_and]
  refine decide_eq_true fun j hj => ?_
  rw [getD_file hi, getD_file (by omega)]
  exact ha j hj
theorem fileAt_parts {t : List File} {i : Nat} (hi : i < t.length) (h : fileAt t i = true) : pathB t[i].path = true ∧ textB t[i].text = true := by
  unfold fileAt at h
  rw [getD_file hi] at h
  simp only [Bool.and_eq_true] at h
  exact h.1
theorem treeAt_path {t : List File} {i : Nat} (hi : i < t.length) (h : treeAt t i = true) : pathB t[i].path = true ∧ textB t[i].text = true := fileAt_parts hi (by rw [treeAt, Bool.and_eq_true] at h; exact h.1)
theorem pathIn_ok {d p : ByteArray} (h1 : pathB d = true) (h2 : pathB p = true) : pathInB d p = inB d p := by rw [pathInB, h1, h2]; rfl
/-- in order -/
theorem file_asc {t : List File} (h : ∀ i, i < t.length → fileAt t i = true) : ∀ (i j : Nat) (hj : j < i) (hi : i < t.length), lessB (t[j]'(by omega)).path t[i].path = true
  | 0, _, hj, _ => by omega
  | i + 1, j, hj, hi => by
    have h1 := h (i + 1) hi
    have hs : fStep t (i + 1) = true := by unfold fileAt at h1; simp only [Bool.and_eq_true] at h1; exact h1.2
    rw [fStep_pos (by omega) hi] at hs
    simp only [Nat.add_sub_cancel] at hs
    by_cases e : j = i
    · subst e; exact hs
    · exact lessB_trans (file_asc h i j (by omega) (by omega)) hs
/-- as the reference asks it -/
theorem over_trees (t : List File) : (∀ i, i < t.length → (fileAt t i && overAt t i) = true) ↔ (∀ i, i < t.length → treeAt t i = true) := by
  constructor
  · intro h i hi
    have h1 : ∀ i, i < t.length → fileAt t i = true ∧ overAt t i = true := fun i hi => by have := h i hi; rwa [Bool.and_eq_true] at this
    refine treeAt_ok hi (h1 i hi).1 fun j hj => ?_
    have := (of_decide_eq_true (h1 j (by omega)).2) i hi
    rwa [getD_file hi, getD_file (by omega)] at this
  · intro h i hi
    have h1 : ∀ i, i < t.length → fileAt t i = true ∧ apartAt t i = true := fun i hi => by have := h i hi; rwa [treeAt, Bool.and_eq_true] at this
    rw [Bool.and_eq_true]
    refine ⟨(h1 i hi).1, decide_eq_true fun k hk => ?_⟩
    rw [getD_file hi, getD_file hk]
    by_cases e : k = i
    · subst e; exact inB_self _
    · by_cases hl : i < k
      · have := (of_decide_eq_true (h1 k hk).2) i hl
        rwa [getD_file hk, getD_file hi] at this
      · cases hb : inB t[i].path t[k].path with
        | false => rfl
        | true =>
          have h2 := lessB_asymm (inB_less hb)
          rw [file_asc (fun i hi => (h1 i hi).1) i k (by omega) hi] at h2
          cases h2
def oversB (t : List File) : Bool := decide (∀ i, i < t.length → (fileAt t i && overAt t i) = true)
theorem overs_trees (t : List File) : oversB t = treesB t := by
  unfold oversB treesB
  rw [decide_eq_decide]
  exact over_trees t
theorem overs_f {t : List File} {i : Nat} (hi : i < t.length) (h : fileAt t i = false) : oversB t = false := decide_eq_false fun hh => by have := hh i hi; rw [h] at this; cases this
theorem overs_f2 {t : List File} {i k : Nat} (hi : i < t.length) (hk : k < t.length) (h : inB t[i].path t[k].path = true) : oversB t = false := by
  refine decide_eq_false fun hh => ?_
  have := hh i hi
  rw [Bool.and_eq_true] at this
  have := (of_decide_eq_true this.2) k hk
  rw [getD_file hi, getD_file hk, h] at this
  cases this
theorem overs_t {t : List File} (h : ∀ i, i < t.length → fileAt t i = true ∧ overAt t i = true) : oversB t = true := decide_eq_true fun i hi => by rw [Bool.and_eq_true]; exact h i hi
theorem overAt_t {t : List File} {i : Nat} (hi : i < t.length) (h : ∀ k, (hk : k < t.length) → inB t[i].path t[k].path = false) : overAt t i = true := decide_eq_true fun k hk => by
  rw [getD_file hi, getD_file hk]; exact h k hk
end Go.Vc
namespace Go.Vc
def noCommit : Commit := ⟨[], ⟨#[]⟩, []⟩
def noHead : Head := ⟨⟨#[]⟩, 0⟩
theorem getD_com {r : List Commit} {i : Nat} (hi : i < r.length) : r.getD i noCommit = r[i] := by simp [List.getD, hi]
theorem getD_hd {r : List Head} {i : Nat} (hi : i < r.length) : r.getD i noHead = r[i] := by simp [List.getD, hi]
/-- a commit with i ahead of it is ok -/
def comB (c : Commit) (i : Nat) : Bool := decide (c.parents.length ≤ 2) && !decide (c.parents.length = 2 ∧ c.parents[0]? = c.parents[1]?) && nameB c.who && treeB c.tree && c.parents.all fun p => withinB p 0 ((i : Int) - 1)
def comsB (cs : List Commit) : Bool := decide (∀ i, i < cs.length → comB (cs.getD i noCommit) i = true)
def hStep (hs : List Head) (i : Nat) : Bool := decide (i = 0) || lessB (hs.getD (i - 1) noHead).name (hs.getD i noHead).name
def headAt (n : Nat) (hs : List Head) (i : Nat) : Bool := nameB (hs.getD i noHead).name && withinB (hs.getD i noHead).at_ 0 ((n : Int) - 1) && hStep hs i
def headAll (n : Nat) (hs : List Head) : Bool := decide (∀ i, i < hs.length → headAt n hs i = true)
def headsB (n : Nat) (hs : List Head) : Bool := decide (hs.length ≤ 5) && headAll n hs
def repoB (r : Repo) : Bool := decide (r.commits.length ≤ 16) && comsB r.commits && headsB r.commits.length r.heads
theorem comB_iff (c : Commit) (i : Nat) : comB c i = true ↔ c.parents.length ≤ 2 ∧ ¬ (c.parents.length = 2 ∧ c.parents[0]? = c.parents[1]?) ∧ nameB c.who = true ∧ treeB c.tree = true ∧ ∀ p, p ∈ c.parents → 0 ≤ p ∧ p ≤ (i : Int) - 1 := by
  unfold comB
  simp only [Bool.and_eq_true, decide_eq_true_eq, Bool.not_eq_true', decide_eq_false_iff_not, List.all_eq_true, withinB, and_assoc]
theorem coms_f {cs : List Commit} {i : Nat} (hi : i < cs.length) (h : comB cs[i] i = false) : comsB cs = false := decide_eq_false fun hh => by have := hh i hi; rw [getD_com hi, h] at this; cases this
theorem coms_t {cs : List Commit} (h : ∀ i, (hi : i < cs.length) → comB cs[i] i = true) : comsB cs = true := decide_eq_true fun i hi => by rw [getD_com hi]; exact h i hi
theorem coms_at {cs : List Commit} (h : comsB cs = true) (i : Nat) (hi : i < cs.length) : comB cs[i] i = true := by
  have := of_decide_eq_true h i hi
  rwa [getD_com hi] at this
theorem repo_many {r : Repo} (h : ¬ r.commits.length ≤ 16) : repoB r = false := by rw [repoB, decide_eq_false h]; rfl
theorem repo_coms {r : Repo} (h : comsB r.commits = false) : repoB r = false := by rw [repoB, h]; simp
theorem repo_of {r : Repo} (h : r.commits.length ≤ 16) (h2 : comsB r.commits = true) : repoB r = headsB r.commits.length r.heads := by rw [repoB, h2, decide_eq_true h]; rfl
theorem hStep_pos {t : List Head} {i : Nat} (h0 : 0 < i) (hi : i < t.length) : hStep t i = lessB (t[i - 1]'(by omega)).name t[i].name := by
  unfold hStep
  rw [getD_hd hi, getD_hd (by omega), decide_eq_false (by omega), Bool.false_or]
theorem heads_f {n : Nat} {t : List Head} {i : Nat} (hi : i < t.length) (h : headAt n t i = false) : headAll n t = false := decide_eq_false fun hh => by rw [hh i hi] at h; cases h
theorem heads_t {n : Nat} {t : List Head} (h : ∀ i, i < t.length → headAt n t i = true) : headAll n t = true := decide_eq_true h
theorem heads_long {n : Nat} {t : List Head} (h : ¬ t.length ≤ 5) : headsB n t = false := by rw [headsB, decide_eq_false h]; rfl
theorem heads_few {n : Nat} {t : List Head} (h : t.length ≤ 5) : headsB n t = headAll n t := by rw [headsB, decide_eq_true h]; rfl
theorem headAt_name {n : Nat} {t : List Head} {i : Nat} (hi : i < t.length) (h : nameB t[i].name = false) : headAt n t i = false := by unfold headAt; rw [getD_hd hi, h]; rfl
theorem headAt_at {n : Nat} {t : List Head} {i : Nat} (hi : i < t.length) (h : withinB t[i].at_ 0 ((n : Int) - 1) = false) : headAt n t i = false := by unfold headAt; rw [getD_hd hi, h, Bool.and_false]; rfl
theorem headAt_step {n : Nat} {t : List Head} {i : Nat} (h0 : 0 < i) (hi : i < t.length) (h : lessB (t[i - 1]'(by omega)).name t[i].name = false) : headAt n t i = false := by unfold headAt; rw [hStep_pos h0 hi, h, Bool.and_false]
theorem headAt_pos {n : Nat} {t : List Head} {i : Nat} (h0 : 0 < i) (hi : i < t.length) (h1 : nameB t[i].name = true) (h2 : withinB t[i].at_ 0 ((n : Int) - 1) = true) (h : lessB (t[i - 1]'(by omega)).name t[i].name = true) : headAt n t i = true := by
  unfold headAt; rw [hStep_pos h0 hi, h, getD_hd hi, h1, h2]; rfl
theorem headAt_first {n : Nat} {t : List Head} {i : Nat} (h0 : i = 0) (hi : i < t.length) (h1 : nameB t[i].name = true) (h2 : withinB t[i].at_ 0 ((n : Int) - 1) = true) : headAt n t i = true := by
  unfold headAt; rw [getD_hd hi, h1, h2]; unfold hStep; rw [decide_eq_true h0]; rfl
/-- what a repository that is ok gives -/
theorem repo_parts {r : Repo} (h : repoB r = true) : r.commits.length ≤ 16 ∧ comsB r.commits = true ∧ headsB r.commits.length r.heads = true := by
  unfold repoB at h
  simp only [Bool.and_eq_true, decide_eq_true_eq] at h
  exact ⟨h.1.1, h.1.2, h.2⟩
theorem repo_parent {r : Repo} (h : repoB r = true) {i : Nat} (hi : i < r.commits.length) {k : Nat} (hk : k < r.commits[i].parents.length) : 0 ≤ r.commits[i].parents[k] ∧ r.commits[i].parents[k] < (i : Int) ∧ r.commits[i].parents.length ≤ 2 := by
  have h1 := (comB_iff _ _).1 (coms_at (repo_parts h).2.1 i hi)
  have h2 := h1.2.2.2.2 _ (List.getElem_mem hk)
  omega
theorem repo_head {r : Repo} (h : repoB r = true) {i : Nat} (hi : i < r.heads.length) : 0 ≤ r.heads[i].at_ ∧ r.heads[i].at_ < (r.commits.length : Int) := by
  have h1 := (repo_parts h).2.2
  unfold headsB at h1
  rw [Bool.and_eq_true] at h1
  have h2 := of_decide_eq_true h1.2 i hi
  unfold headAt at h2
  rw [getD_hd hi] at h2
  simp only [Bool.and_eq_true, withinB, decide_eq_true_eq] at h2
  omega
theorem repo_tree {r : Repo} (h : repoB r = true) {i : Nat} (hi : i < r.commits.length) : treeB r.commits[i].tree = true := ((comB_iff _ _).1 (coms_at (repo_parts h).2.1 i hi)).2.2.2.1
/-- all paths are such that the library cuts them -/
def shortT (t : List File) : Prop := ∀ f, f ∈ t → f.path.size < 4294967281
def shortR (r : Repo) : Prop := ∀ c, c ∈ r.commits → shortT c.tree
end Go.Vc
