/-
  Plain functions: a text's bytes in pieces. No program is in sight here.
-/
import Derived.Test.YtlokkbllplhlbaaDoorPlT
set_option linter.unusedVariables false
namespace Go.Vc

def bytesB (l : List UInt8) : ByteArray := ⟨l.toArray⟩
theorem bytesB_data (s : ByteArray) : bytesB s.data.toList = s := by simp [bytesB]
theorem bytesB_list (l : List UInt8) : (bytesB l).data.toList = l := by simp [bytesB]
theorem bytesB_size (l : List UInt8) : (bytesB l).size = l.length := by simp [bytesB, ByteArray.size]
theorem extract_bytes (s : ByteArray) (f k : Nat) : s.extract f k = bytesB ((s.data.toList.drop f).take (k - f)) := by
  apply ByteArray.ext
  apply Array.ext'
  simp [bytesB, ByteArray.data_extract, Array.toList_extract, List.extract_eq_take_drop]
/-- pieces, cut at a byte, so many times at most -/
def piecesM (c : UInt8) (m : Nat) (s : ByteArray) : List ByteArray := (cutM c m s.data.toList).map bytesB
def pieces (c : UInt8) (s : ByteArray) : List ByteArray := (cutL c s.data.toList).map bytesB
theorem pieces_len (c : UInt8) (s : ByteArray) : (pieces c s).length = (cutL c s.data.toList).length := by simp [pieces]
theorem cutL_len (c : UInt8) (s : List UInt8) : (cutL c s).length = s.count c + 1 := by
  have := cutM_len (c := c) (s.count c) s
  rw [cutM_all _ s (Nat.le_refl _)] at this
  omega
theorem cutM_mem {c : UInt8} : ∀ (m : Nat) (s : List UInt8) (x : List UInt8), x ∈ cutM c m s → x.length ≤ s.length
  | 0, s, x, h => by rw [cutM_zero] at h; simp at h; rw [h]; exact Nat.le_refl _
  | m + 1, s, x, h => by
    by_cases hm : c ∈ s
    · obtain ⟨p, r, rfl, hp⟩ := cut_first hm
      rw [cutM_at hp] at h
      rcases List.mem_cons.1 h with rfl | h
      · simp
      · have := cutM_mem m r x h
        simp; omega
    · rw [cutM_free hm] at h
      simp at h; rw [h]; exact Nat.le_refl _
theorem pieces_small {c : UInt8} {s : ByteArray} {i : Nat} (h : i < (pieces c s).length) : (pieces c s)[i].size ≤ s.size := by
  have hm := List.getElem_mem h
  obtain ⟨x, hx, he⟩ := List.mem_map.1 hm
  rw [← he, bytesB_size]
  rw [← cutM_all (s.data.toList.count c) s.data.toList (Nat.le_refl _)] at hx
  have := cutM_mem _ _ _ hx
  simpa using this
/-- the library's own words -/
theorem splitB_pieces (c : UInt8) (s : ByteArray) : Lib.splitB ⟨#[c]⟩ 0 (Lib.countB s ⟨#[c]⟩) s = pieces c s := by
  have h := Lib.splitB_data ⟨#[c]⟩ 0 (Lib.countB s ⟨#[c]⟩) s
  have hc : Lib.countB s ⟨#[c]⟩ = s.data.toList.count c := Lib.count_one c s.data.toList
  have e : (fun l : List UInt8 => bytesB l) ∘ (fun x : ByteArray => x.data.toList) = id := funext fun x => bytesB_data x
  have h2 := congrArg (List.map bytesB) h
  rw [List.map_map, e, List.map_id] at h2
  rw [h2, pieces, ← cutM_all (s.data.toList.count c) s.data.toList (Nat.le_refl _), hc]
  rfl
theorem countB_pieces (c : UInt8) (s : ByteArray) : Lib.countB s ⟨#[c]⟩ + 1 = (pieces c s).length := by
  have hc : Lib.countB s ⟨#[c]⟩ = s.data.toList.count c := Lib.count_one c s.data.toList
  rw [hc, pieces_len, cutL_len]

theorem pathB_pieces (s : ByteArray) : pathB s = (decide ((pieces 47 s).length ≤ 3) && (pieces 47 s).all nameB) := by
  have e : ∀ l, nameB (bytesB l) = nameL l := fun l => by rw [nameB_L, bytesB_list]
  rw [pathB, pathL, pieces_len, pieces, List.all_map]
  congr 2
theorem pathB_piecesM (s : ByteArray) : pathB s = (decide ((piecesM 47 3 s).length ≤ 3) && (piecesM 47 3 s).all nameB) := by
  have e : ∀ l, nameB (bytesB l) = nameL l := fun l => by rw [nameB_L, bytesB_list]
  rw [pathB, pathL_cut, piecesM, List.length_map, List.all_map]
  congr 2
theorem path_long {s : ByteArray} (h : ¬ (pieces 47 s).length ≤ 3) : pathB s = false := by rw [pathB_pieces, decide_eq_false h]; rfl
theorem path_short {s : ByteArray} (h : (pieces 47 s).length ≤ 3) : pathB s = (pieces 47 s).all nameB := by rw [pathB_pieces, decide_eq_true h]; rfl
theorem piecesM_small {c : UInt8} {m : Nat} {s : ByteArray} {i : Nat} (h : i < (piecesM c m s).length) : (piecesM c m s)[i].size ≤ s.size := by
  obtain ⟨x, hx, he⟩ := List.mem_map.1 (List.getElem_mem h)
  rw [← he, bytesB_size]
  have := cutM_mem _ _ _ hx
  simpa using this
theorem piecesM_len (c : UInt8) (m : Nat) (s : ByteArray) : (piecesM c m s).length ≤ m + 1 := by
  rw [piecesM, List.length_map, cutM_len]
  omega

/-- how far the cutting has come: pieces so far, the place from which the next piece runs, the place that is looked at -/
def CutS (c : UInt8) (m : Nat) (s : ByteArray) (ol : List ByteArray) (f k : Nat) : Prop :=
  piecesM c m s = ol ++ (cutM c (m - ol.length) (s.data.toList.drop f)).map bytesB ∧ f ≤ k ∧ k ≤ s.size ∧ ol.length ≤ m ∧ c ∉ (s.data.toList.drop f).take (k - f)
theorem CutS.start (c : UInt8) (m : Nat) (s : ByteArray) : CutS c m s [] 0 0 := ⟨rfl, Nat.le_refl _, Nat.zero_le _, Nat.zero_le _, by simp⟩
theorem take_succ_drop (l : List UInt8) {f k : Nat} (h : f ≤ k) (hk : k < l.length) : (l.drop f).take (k + 1 - f) = (l.drop f).take (k - f) ++ [l[k]] := by
  have e : k + 1 - f = (k - f) + 1 := by omega
  have hl : k - f < (l.drop f).length := by simp; omega
  rw [e, List.take_succ_eq_append_getElem hl]
  congr 2
  rw [List.getElem_drop]
  congr 1
  omega
theorem CutS.skip {c : UInt8} {m : Nat} {s : ByteArray} {ol : List ByteArray} {f k : Nat} (h : CutS c m s ol f k) (hk : k < s.size) (hc : ¬ s[k].toNat = c.toNat) : CutS c m s ol f (k + 1) := by
  obtain ⟨h1, h2, h3, h4, h5⟩ := h
  have hk' : k < s.data.toList.length := by simpa using hk
  refine ⟨h1, by omega, hk, h4, ?_⟩
  rw [take_succ_drop s.data.toList h2 hk']
  intro hm
  rcases List.mem_append.1 hm with hm | hm
  · exact h5 hm
  · simp only [List.mem_singleton] at hm
    apply hc
    rw [hm, byte_at s k hk]
theorem CutS.cut {c : UInt8} {m : Nat} {s : ByteArray} {ol : List ByteArray} {f k : Nat} (h : CutS c m s ol f k) (hk : k < s.size) (hc : s[k].toNat = c.toNat) (hl : ol.length < m) : CutS c m s (ol ++ [s.extract f k]) (k + 1) (k + 1) := by
  obtain ⟨h1, h2, h3, h4, h5⟩ := h
  have hk' : k < s.data.toList.length := by simpa using hk
  refine ⟨?_, Nat.le_refl _, hk, by simp; omega, by simp⟩
  have e : s.data.toList.drop f = (s.data.toList.drop f).take (k - f) ++ c :: s.data.toList.drop (k + 1) := by
    conv => lhs; rw [← List.take_append_drop (k - f) (s.data.toList.drop f)]
    congr 1
    rw [List.drop_drop, show f + (k - f) = k by omega, List.drop_eq_getElem_cons hk']
    congr 1
    rw [byte_at s k hk]
    exact u8_ext hc
  have em : m - ol.length = (m - (ol ++ [s.extract f k]).length) + 1 := by simp; omega
  rw [h1, e, em, cutM_at h5, List.map_cons, ← extract_bytes]
  simp
theorem CutS.fin {c : UInt8} {m : Nat} {s : ByteArray} {ol : List ByteArray} {f k : Nat} (h : CutS c m s ol f k) (he : ¬ k < s.size ∨ ¬ ol.length < m) : piecesM c m s = ol ++ [s.extract f s.size] := by
  obtain ⟨h1, h2, h3, h4, h5⟩ := h
  rw [h1, extract_bytes]
  congr 1
  have eT : (s.data.toList.drop f).take (s.size - f) = s.data.toList.drop f := List.take_of_length_le (by simp)
  rw [eT]
  by_cases hm : ol.length < m
  · have hk : k = s.size := by rcases he with he | he; omega; exact absurd hm he
    subst hk
    rw [eT] at h5
    rw [cutM_free h5]; rfl
  · have : m - ol.length = 0 := by omega
    rw [this, cutM_zero]; rfl
end Go.Vc
