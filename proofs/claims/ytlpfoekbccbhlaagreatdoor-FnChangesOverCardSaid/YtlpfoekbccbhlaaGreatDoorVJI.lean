/-
  The library's Sort and Compact at own texts. / Walks: all paths of trees. / Walks: what two sides made of a tree, as the program has it.
-/
import Derived.Test.YtlpfoekbccbhlaaGreatDoorVPJ
import Derived.Test.YtlpfoekbccbhlaaGreatDoorVTY
import Derived.Test.YtlpfoekbccbhlaaGreatDoorShelfS
import Derived.Test.YtlpfoekbccbhlaaGreatDoorVB
import Derived.Test.YtlpfoekbccbhlaaGreatDoorVMT
import Derived.Test.YtlpfoekbccbhlaaGreatDoorVI
import Derived.Test.YtlpfoekbccbhlaaGreatDoorVTR
import Derived.Test.YtlpfoekbccbhlaaGreatDoorVJA
import Derived.Test.YtlpfoekbccbhlaaGreatDoorVFS
import Derived.Test.YtlpfoekbccbhlaaGreatDoorWCTree
set_option linter.unusedVariables false
namespace Go.Vc
open Go.RowKit Go.Sort Go.Proofs
open Rep (rd)
open Own (own)
theorem strs_enc (xs : List ByteArray) : (strsL xs).map encStr = xs.map Value.string := by
  unfold strsL
  rw [List.map_map]
  congr 1
theorem enc_ofStrs (ls : List (List UInt8)) : (ofStrs ls).map Value.string = ls.map encStr := by
  unfold ofStrs
  rw [List.map_map]
  congr 1
theorem sort_sizes {xs : List ByteArray} (h : ∀ x, x ∈ xs → x.size ≤ maxLen) : ∀ x, x ∈ sortS xs → x.size ≤ maxLen := fun x hx => h x (mem_sortS.1 hx)
theorem comp_sizes {xs : List ByteArray} (h : ∀ x, x ∈ xs → x.size ≤ maxLen) : ∀ x, x ∈ compS xs → x.size ≤ maxLen := fun x hx => h x (mem_comp.1 hx)
section
variable {w : World}
theorem ownAll_strs : ∀ {Fs : List (List Nat)} {cs : List (List Value)} {xs : List ByteArray}, ownAll w Fs cs xs → cs.flatten = xs.map Value.string ∧ Fs.flatten = [] ∧ ∀ x, x ∈ xs → x.size ≤ maxLen
  | [], [], [], _ => ⟨rfl, rfl, fun x h => by cases h⟩
  | F :: Fs, c :: cs, x :: xs, h => by
    obtain ⟨h1, h2, h3⟩ := ownAll_strs h.2
    obtain ⟨rfl, rfl, hz⟩ := h.1
    refine ⟨by rw [List.flatten_cons, h1]; rfl, by rw [List.flatten_cons, h2]; rfl, fun y hy => ?_⟩
    rcases List.mem_cons.1 hy with rfl | hy
    · exact hz
    · exact h3 y hy
  | [], [], _ :: _, h => h.elim
  | [], _ :: _, [], h => h.elim
  | [], _ :: _, _ :: _, h => h.elim
  | _ :: _, [], [], h => h.elim
  | _ :: _, [], _ :: _, h => h.elim
  | _ :: _, _ :: _, [], h => h.elim
theorem strs_ownAll : ∀ (xs : List ByteArray), (∀ x, x ∈ xs → x.size ≤ maxLen) → ownAll w (xs.map fun _ => []) (xs.map fun x => [Value.string x]) xs
  | [], _ => trivial
  | x :: xs, h => ⟨⟨rfl, rfl, h x (List.mem_cons_self ..)⟩, strs_ownAll xs fun y hy => h y (List.mem_cons_of_mem _ hy)⟩
theorem flat_strs : ∀ (xs : List ByteArray), (xs.map fun x => [Value.string x]).flatten = xs.map Value.string
  | [] => rfl
  | x :: xs => by rw [List.map_cons, List.flatten_cons, flat_strs xs]; rfl
theorem flat_nils : ∀ (xs : List ByteArray), (xs.map fun _ => ([] : List Nat)).flatten = []
  | [] => rfl
  | x :: xs => by rw [List.map_cons, List.flatten_cons, flat_nils xs]; rfl
variable [Tid ByteArray]
theorem own_strs {g cap n : Nat} {xs : List ByteArray} (hn : n = xs.length) (hrow : w.ownsRow 0 (Tid.tid ByteArray) 1 (.slice (some ⟨g, 0, none⟩) n cap) n (xs.map Value.string)) (hz : ∀ x, x ∈ xs → x.size ≤ maxLen) :
    own [g] w [.slice (some ⟨g, 0, none⟩) n cap] xs := by
  subst hn
  exact ⟨_, xs.map fun x => [Value.string x], xs.map fun _ => [], rfl, by rw [flat_strs]; exact hrow, by rw [flat_nils]; rfl, strs_ownAll xs hz, Nat.one_pos⟩
/-- an own slice of texts, its block -/
theorem fresh_strs {B m : Nat} {v : Value} {xs : List ByteArray} (h : Fresh B m w [v] xs) :
    (v = .slice none 0 0 ∧ xs = []) ∨ ∃ g cap cur, v = .slice (some ⟨g, 0, none⟩) xs.length cap ∧ B ≤ g ∧ g < m ∧ w.heap[g]? = some (.cells cur (Tid.tid ByteArray) (0, 0)) ∧ xs.length ≤ cap ∧ cap ≤ maxLen ∧ cur.size = cap * 1 ∧ cur.toList.take xs.length = xs.map Value.string ∧ ∀ x, x ∈ xs → x.size ≤ maxLen := by
  obtain ⟨F, ⟨v', cs, Fs, hv, hrow, rfl, hall, _⟩, _, hb⟩ := h
  simp at hv
  subst hv
  obtain ⟨h1, h2, h3⟩ := ownAll_strs hall
  rcases hrow.2 with ⟨rfl, hn⟩ | ⟨g, cap, cur, rfl, _, hg, hnc, hcm, hcs, ht⟩
  · exact .inl ⟨rfl, List.eq_nil_of_length_eq_zero hn⟩
  · have := hb g (by simp [Value.ownBlock])
    refine .inr ⟨g, cap, cur, rfl, this.1, this.2, hg, hnc, hcm, hcs, ?_, h3⟩
    rw [← h1, ← ht]
    show _ = List.take (xs.length * 1) cur.toList
    rw [Nat.mul_one]
end
end Go.Vc
namespace Go.Proofs.YtlpfoekbccbhlaaGreatDoor
open Go.RowKit Go.Vc Go.Sort
open Go.Vc.Rep (rd)
open Go.Vc.Own (own)
set_option maxHeartbeats 4000000 in
theorem sort_any {B m : Nat} (v : Value) (xs : List ByteArray) (w : World) (hv : Fresh B m w [v] xs) (hB : B ≤ w.heap.size) (hl : xs.length ≤ 1000) :
    Calls Tryz.prog 105 #[v] w fun e w' => e = .returned (.tuple #[]) ∧ Fresh B w'.heap.size w' [v] (sortS xs) ∧ Below B w w' := by
  rcases fresh_strs hv with ⟨rfl, rfl⟩ | ⟨g, cap, cur, rfl, hBg, hgm, hg, hnc, hcm, hcs, ht, hz⟩
  · refine (Tryz.slices_Sort_string_none none 0 w).mono fun e w' h => ?_
    obtain ⟨rfl, rfl⟩ := h
    have es : sortS [] = [] := by unfold sortS sortU strsL ofStrs; simp
    exact ⟨rfl, by rw [es]; exact Fresh.nil (β := ByteArray) _ _ _ Nat.one_pos, Below.refl _ _⟩
  · have hgl : g < w.heap.size := (Array.getElem?_eq_some_iff.1 hg).1
    have hH : Holds encStr w g 0 (strsL xs).toArray := holds_of_block hg (by rw [strs_len, strs_enc]; exact ht)
    have hc := Tryz.slices_Sort_string g 0 cap (strsL xs) w hH hgl (by rw [strs_len]; omega)
    rw [strs_len] at hc
    refine hc.mono fun e w' h => ?_
    obtain ⟨rfl, n, os, rfl⟩ := h
    have hown := ownsRow_sorted (n := n) (os := os) (ss := strsL xs) (ts := sortU (strsL xs)) (base := 0) (sortU_len _) (Nat.zero_le _) hg (by rw [strs_len]; exact hnc) hcm hcs
    rw [strs_len, ← enc_ofStrs] at hown
    have hb := (Below.refl B w).grown (grownBy_sorted (w := w) (g := g) (n := n) (os := os) (sortU (strsL xs)).toArray) hB (fun k hk => by cases hk; exact hBg)
    refine ⟨rfl, ⟨[g], own_strs (by rw [sortS_len]) hown (sort_sizes hz), by simp, fun b hb' => ?_⟩, hb⟩
    rw [List.mem_singleton] at hb'
    subst hb'
    exact ⟨hBg, Nat.lt_of_lt_of_le hgl hb.size⟩
set_option maxHeartbeats 4000000 in
theorem compact_any {B m : Nat} (v : Value) (xs : List ByteArray) (w : World) (hv : Fresh B m w [v] xs) (hB : B ≤ w.heap.size) (hl : xs.length ≤ 1000) :
    Calls Tryz.prog 59 #[v] w fun e w' => ∃ v', e = .returned v' ∧ Fresh B w'.heap.size w' [v'] (compS xs) ∧ Below B w w' := by
  rcases fresh_strs hv with ⟨rfl, rfl⟩ | ⟨g, cap, cur, rfl, hBg, hgm, hg, hnc, hcm, hcs, ht, hz⟩
  · refine (Tryz.slices_Compact_string_empty none 0 w).mono fun e w' h => ?_
    obtain ⟨rfl, rfl⟩ := h
    have es : compS [] = [] := rfl
    exact ⟨_, rfl, by rw [es]; exact Fresh.nil (β := ByteArray) _ _ _ Nat.one_pos, Below.refl _ _⟩
  · have hgl : g < w.heap.size := (Array.getElem?_eq_some_iff.1 hg).1
    have hH : Holds encStr w g 0 (strsL xs).toArray := holds_of_block hg (by rw [strs_len, strs_enc]; exact ht)
    have hc := Tryz.slices_Compact_string g 0 cap (strsL xs) w hH (by rw [strs_len]; omega) (by rw [strs_len]; exact hnc)
    rw [strs_len] at hc
    refine hc.mono fun e w' h => ?_
    obtain ⟨rfl, n, rfl⟩ := h
    have hle : (Lib.compact (strsL xs)).length ≤ xs.length := by
      have := compS_len xs
      unfold compS at this
      rwa [ofStrs_len] at this
    obtain ⟨ts, hts⟩ : ∃ ts, ts = Lib.compact (strsL xs) ++ List.replicate (xs.length - (Lib.compact (strsL xs)).length) ([] : List UInt8) := ⟨_, rfl⟩
    rw [← hts]
    have htl : ts.length = xs.length := by rw [hts]; simp; omega
    have htk : ts.take (Lib.compact (strsL xs)).length = Lib.compact (strsL xs) := by rw [hts]; exact List.take_left
    have hw : putRow encStr (Sort.ahead w n) g 0 ts.toArray = grow (putRow encStr (Sort.ahead w n) g 0 ts.toArray) #[] := (grow_empty _).symm
    rw [hw]
    have hown := ownsRow_sorted (n := n) (os := #[]) (ss := strsL xs) (ts := ts) (base := 0) (by rw [htl, strs_len]) (Nat.zero_le _) hg (by rw [strs_len]; exact hnc) hcm hcs
    have hb := (Below.refl B w).grown (grownBy_sorted (w := w) (g := g) (n := n) (os := #[]) ts.toArray) hB (fun k hk => by cases hk; exact hBg)
    rw [strs_len] at hown
    have hrow : (grow (putRow encStr (Sort.ahead w n) g 0 ts.toArray) #[]).ownsRow 0 (Tid.tid ByteArray) 1 (.slice (some ⟨g, 0, none⟩) (Lib.compact (strsL xs)).length cap) (Lib.compact (strsL xs)).length ((compS xs).map Value.string) := by
      rcases hown.2 with ⟨h1, _⟩ | ⟨g2, cap2, cur2, h1, _, h3, h4, h5, h6, h7⟩
      · cases h1
      · simp only [Value.slice.injEq, Option.some.injEq, Addr.mk.injEq] at h1
        obtain ⟨⟨rfl, _⟩, _, rfl⟩ := h1
        refine ⟨by rw [List.length_map]; unfold compS; rw [ofStrs_len, Nat.mul_one], .inr ⟨_, _, cur2, rfl, Nat.zero_le _, h3, by omega, h5, h6, ?_⟩⟩
        rw [Nat.mul_one] at h7 ⊢
        have h8 := congrArg (List.take (Lib.compact (strsL xs)).length) h7
        rw [List.take_take, Nat.min_eq_left hle, ← List.map_take, htk] at h8
        rw [h8]
        unfold compS
        rw [enc_ofStrs]
    refine ⟨_, rfl, ⟨[g], own_strs (by unfold compS; rw [ofStrs_len]) hrow (comp_sizes hz), by simp, fun b hb' => ?_⟩, hb⟩
    rw [List.mem_singleton] at hb'
    subst hb'
    exact ⟨hBg, Nat.lt_of_lt_of_le hgl hb.size⟩
end Go.Proofs.YtlpfoekbccbhlaaGreatDoor
namespace Go.Vc
open Go.RowKit
open Rep (rd)
open Own (own)
def flatP (ts : List (List File)) : List ByteArray := (ts.map pathsT).flatten
theorem flatP_next {M ol : List ByteArray} {ts : List (List File)} {i : Nat} (H : M = ol ++ flatP (ts.drop i)) (h : i < ts.length) : M = (ol ++ pathsT ts[i]) ++ flatP (ts.drop (i + 1)) := by
  rw [H, drop_cons ts i h, flatP, List.map_cons, List.flatten_cons, List.append_assoc]; rfl
theorem flatP_end {M ol : List ByteArray} {ts : List (List File)} {i : Nat} (H : M = ol ++ flatP (ts.drop i)) (h : ¬ i < ts.length) : M = ol := by
  rw [H, drop_nil ts i h]; simp [flatP]
theorem pathsT_next {M ol : List ByteArray} {t : List File} {k : Nat} (H : M = ol ++ pathsT (t.drop k)) (h : k < t.length) : M = (ol ++ [t[k].path]) ++ pathsT (t.drop (k + 1)) := by
  rw [H, drop_cons t k h, pathsT, List.map_cons, List.append_assoc]; rfl
theorem pathsT_end {M ol : List ByteArray} {t : List File} {k : Nat} (H : M = ol ++ pathsT (t.drop k)) (h : ¬ k < t.length) : M = ol := by
  rw [H, drop_nil t k h]; simp [pathsT]
theorem own_strp {s : ByteArray} (h : s.size ≤ maxLen) (w : World) : own [] w [.string s] s := ⟨rfl, rfl, h⟩
/-- a literal of three slices -/
theorem lit_three {α : Type} [Rep α] {S : Nat → Prop} {w : World} {g : Nat} {e : TypeId} {v0 v1 v2 : Value} {x0 x1 x2 : List α} (h : w.heap[g]? = some (.cells #[v0, v1, v2] e (0, 0))) (hg : S g) (h0 : rd S w [v0] x0) (h1 : rd S w [v1] x1) (h2 : rd S w [v2] x2) :
    IsSlice S w (some ⟨g, 0, none⟩) 3 [x0, x1, x2] := by
  refine ⟨Nat.le_refl _, by unfold maxLen; omega, fun i hi => ?_⟩
  have hc : ∀ j u, #[v0, v1, v2][j]? = some u → w.cell? ⟨g, j, none⟩ = some u := fun j u hu => by rw [cell_of_row w g j _ e (0, 0) h]; exact hu
  have h3 : i = 0 ∨ i = 1 ∨ i = 2 := by simp at hi; omega
  rcases h3 with rfl | rfl | rfl
  · refine ⟨g, 0, [v0], rfl, hg, fun j u hu => ?_, h0, Nat.one_pos⟩
    have hj : j = 0 := by have := (List.getElem?_eq_some_iff.1 hu).1; simpa using this
    subst hj
    simp at hu
    subst hu
    exact hc 0 _ rfl
  · refine ⟨g, 0, [v1], rfl, hg, fun j u hu => ?_, h1, Nat.one_pos⟩
    have hj : j = 0 := by have := (List.getElem?_eq_some_iff.1 hu).1; simpa using this
    subst hj
    simp at hu
    subst hu
    exact hc 1 _ rfl
  · refine ⟨g, 0, [v2], rfl, hg, fun j u hu => ?_, h2, Nat.one_pos⟩
    have hj : j = 0 := by have := (List.getElem?_eq_some_iff.1 hu).1; simpa using this
    subst hj
    simp at hu
    subst hu
    exact hc 2 _ rfl
end Go.Vc
namespace Go.Proofs.YtlpfoekbccbhlaaGreatDoor
open Go.RowKit Go.Vc
open Go.Vc.Rep (rd)
open Go.Vc.Own (own)
end Go.Proofs.YtlpfoekbccbhlaaGreatDoor
namespace Go.Proofs.YtlpfoekbccbhlaaGreatDoor
open Go.RowKit Go.Vc
open Go.Vc.Rep (rd)
open Go.Vc.Own (own)
theorem flat_three (o a b : List File) : compS (sortS (flatP [o, a, b])) = allP o a b := by rw [← all_comp]; simp [flatP, List.append_assoc]
theorem nz_t {a b : Int} (h : ¬ a = b) : (a != b) = true := by simp [h]
theorem nz_f {a b : Int} (h : a = b) : (a != b) = false := by simp [h]
theorem i64_small {n : Nat} (h : n ≤ 3) : I64 (n : Int) := by unfold I64; omega
end Go.Proofs.YtlpfoekbccbhlaaGreatDoor
