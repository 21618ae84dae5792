/-
  Walks: lines put behind parts, as the program does. / Walks: the merge, as the program does it. / Walks: what comes of a merge, as the program has it. / Walks: what two sides made of a piece, put behind parts, as the reference does. / Walks: what two sides made of a piece, as the reference has it. / Walks: the merge, as the reference has it. / Walks: what comes of a merge, as the reference has it. / Walks: what a tree has at a path, and what two sides made of it. / Walks: what two sides made of a file. / The library's Sort and Compact at own texts. / Walks: all paths of trees. / Walks: what two sides made of a tree, as the program has it. / Walks: what becomes of a path, as the reference has it. / Walks: all paths in order, as the reference has them. / Walks: what two sides made of a tree, as the reference has it. / Walks: the joined tree, and whether nothing was changed on both sides, as the reference has it. / Walks: the joined tree, and whether nothing was changed on both sides, as the reference has it.
-/
import Derived.Test.YthddcfbjgcbioaaGreatDoorVM3
import Derived.Test.YthddcfbjgcbioaaGreatDoorVFS
import Derived.Test.YthddcfbjgcbioaaGreatDoorVP2
import Derived.Test.YthddcfbjgcbioaaGreatDoorVSM
import Derived.Test.YthddcfbjgcbioaaGreatDoorVI
import Derived.Test.YthddcfbjgcbioaaGreatDoorVMT
import Derived.Test.YthddcfbjgcbioaaGreatDoorVGR
import Derived.Test.YthddcfbjgcbioaaGreatDoorVPJ
import Derived.Test.YthddcfbjgcbioaaGreatDoorVTY
import Derived.Test.YthddcfbjgcbioaaGreatDoorShelfS
import Derived.Test.YthddcfbjgcbioaaGreatDoorVB
import Derived.Test.YthddcfbjgcbioaaGreatDoorVTR
import Derived.Test.YthddcfbjgcbioaaGreatDoorWCTree
import Derived.Test.YthddcfbjgcbioaaGreatDoorVDJ
import Derived.Test.YthddcfbjgcbioaaGreatDoorVK
set_option linter.unusedVariables false
namespace Go.Proofs.YthddcfbjgcbioaaGreatDoor
open Go.RowKit Go.Vc
open Go.Vc.Rep (rd)
open Go.Vc.Own (own)

end Go.Proofs.YthddcfbjgcbioaaGreatDoor
namespace Go.Proofs.YthddcfbjgcbioaaGreatDoor
open Go.RowKit Go.Vc
open Go.Vc.Rep (rd)
open Go.Vc.Own (own)

end Go.Proofs.YthddcfbjgcbioaaGreatDoor
namespace Go.Proofs.YthddcfbjgcbioaaGreatDoor
open Go.RowKit Go.Vc
open Go.Vc.Rep (rd)
open Go.Vc.Own (own)

/-- as one side has it, whichever -/
def mSideV (o a b : List ByteArray) (s : Int) : List ByteArray × Bool := if threeB o a b = true then pFin (some (sideF s (mergeT o a b))) else ([], false)

end Go.Proofs.YthddcfbjgcbioaaGreatDoor
namespace Go.Proofs.YthddcfbjgcbioaaGreatDoor
open Go.RowKit Go.Vc
open Go.Vc.Rep (rd)
open Go.Vc.Own (own)

end Go.Proofs.YthddcfbjgcbioaaGreatDoor
namespace Go.Proofs.YthddcfbjgcbioaaGreatDoor
open Go.RowKit Go.Vc
open Go.Vc.Rep (rd)
open Go.Vc.Own (own)

theorem wdrewN {w : World} {n : Nat} : Below w.heap.size w (w.drewN n) := below_drewN (Below.refl _ _) n

end Go.Proofs.YthddcfbjgcbioaaGreatDoor
namespace Go.Proofs.YthddcfbjgcbioaaGreatDoor
open Go.RowKit Go.Vc
open Go.Vc.Rep (rd)
open Go.Vc.Own (own)

end Go.Proofs.YthddcfbjgcbioaaGreatDoor
namespace Go.Proofs.YthddcfbjgcbioaaGreatDoor
open Go.RowKit Go.Vc
open Go.Vc.Rep (rd)
open Go.Vc.Own (own)




end Go.Proofs.YthddcfbjgcbioaaGreatDoor
namespace Go
/-- a result in a box -/
theorem results_row {P : Program} {fn : Func} {p : Tmp} {ty : TypeId} (h : fn.results = #[.cell p ty]) (tmps : Array Value) (w : World) (g : Nat) (t : TypeId) (cs : Array Value) (fr : Nat × Nat) (d : TypeDesc)
    (hp : tmps.getD p undef = .pointer (some ⟨g, 0, none⟩)) (hg : w.heap[g]? = some (.cells cs t fr))
    (hu : P.underlying ty = some d) (hd : (match d with | .struct _ | .array _ _ => true | _ => false) = true) (hi : (P.info? ty).map (·.size) = some cs.size) :
    (results fn tmps).run P w = .ok (.agg cs) w := by
  have hp' : tmps[p]?.getD undef = .pointer (some ⟨g, 0, none⟩) := by simpa using hp
  simp [results, h, hp', asAddr, run_loadVar_row w g t ty cs fr d hg hu hd hi]
/-- a result in a box, and one in a variable -/
theorem results_row_tmp {P : Program} {fn : Func} {u p : Tmp} {ty : TypeId} (h : fn.results = #[.cell p ty, .tmp u]) (tmps : Array Value) (w : World) (g : Nat) (t : TypeId) (cs : Array Value) (fr : Nat × Nat) (d : TypeDesc)
    (hp : tmps.getD p undef = .pointer (some ⟨g, 0, none⟩)) (hg : w.heap[g]? = some (.cells cs t fr))
    (hu : P.underlying ty = some d) (hd : (match d with | .struct _ | .array _ _ => true | _ => false) = true) (hi : (P.info? ty).map (·.size) = some cs.size) :
    (results fn tmps).run P w = .ok (.tuple #[.agg cs, tmps.getD u undef]) w := by
  have hp' : tmps[p]?.getD undef = .pointer (some ⟨g, 0, none⟩) := by simpa using hp
  simp [results, h, hp', asAddr, run_loadVar_row w g t ty cs fr d hg hu hd hi]
end Go
namespace Go.Vc
open Go.RowKit
open Rep (rd)
open Own (own)
theorem opt_same (M1 M2 : Option (List ByteArray)) : (M1.isSome == M2.isSome && decide (M1.getD [] = M2.getD [])) = decide (M1 = M2) := by
  cases M1 <;> cases M2 <;> simp
theorem opt_same_t {M1 M2 : Option (List ByteArray)} (h : M1.isSome = M2.isSome) : decide (M1.getD [] = M2.getD []) = decide (M1 = M2) := by
  rw [← opt_same, h]; simp
theorem opt_same_f {M1 M2 : Option (List ByteArray)} (h : ¬ M1.isSome = M2.isSome) : decide (M1 = M2) = false := decide_eq_false fun e => h (by rw [e])
end Go.Vc
namespace Go.Proofs.YthddcfbjgcbioaaGreatDoor
open Go.RowKit Go.Vc
open Go.Vc.Rep (rd)
open Go.Vc.Own (own)

end Go.Proofs.YthddcfbjgcbioaaGreatDoor
namespace Go.Vc
open Go.RowKit
open Rep (rd)
open Own (own)
theorem one_1 {O A Q : Option (List ByteArray)} (h : A = O) : joinOne O A Q = (Q, 0) := by unfold joinOne; rw [if_pos (.inl h)]
theorem one_2 {O A Q : Option (List ByteArray)} (h : A = Q) : joinOne O A Q = (Q, 0) := by unfold joinOne; rw [if_pos (.inr h)]
theorem one_3 {O A Q : Option (List ByteArray)} (h1 : ¬ A = O) (h2 : ¬ A = Q) (h : Q = O) : joinOne O A Q = (A, 0) := by unfold joinOne; rw [if_neg (fun e => e.elim h1 h2), if_pos h]
theorem one_4 {O A Q : Option (List ByteArray)} (h1 : ¬ A = O) (h2 : ¬ A = Q) (h3 : ¬ Q = O) (h : A.isSome = false ∨ Q.isSome = false) : joinOne O A Q = (O, 1) := by
  unfold joinOne
  rw [if_neg (fun e => e.elim h1 h2), if_neg h3, if_pos]
  rcases h with h | h
  · exact .inl (by cases A with | none => rfl | some _ => cases h)
  · exact .inr (by cases Q with | none => rfl | some _ => cases h)
theorem one_5 {O A Q : Option (List ByteArray)} (h1 : ¬ A = O) (h2 : ¬ A = Q) (h3 : ¬ Q = O) (h4 : A.isSome = true) (h5 : Q.isSome = true) (h : O.isSome = false) : joinOne O A Q = (O, 2) := by
  unfold joinOne
  rw [if_neg (fun e => e.elim h1 h2), if_neg h3, if_neg]
  · cases O with
    | none => rw [if_pos rfl]
    | some _ => cases h
  · rintro (rfl | rfl)
    · cases h4
    · cases h5
theorem one_6 {O A Q : Option (List ByteArray)} (h1 : ¬ A = O) (h2 : ¬ A = Q) (h3 : ¬ Q = O) (h4 : A.isSome = true) (h5 : Q.isSome = true) (h6 : O.isSome = true) :
    joinOne O A Q = if (mText (O.getD []) (A.getD []) (Q.getD [])).2 = true then (some (mText (O.getD []) (A.getD []) (Q.getD [])).1, 0) else (O, 3) := by
  conv => lhs; unfold joinOne
  rw [if_neg (fun e => e.elim h1 h2), if_neg h3, if_neg, if_neg]
  · rintro rfl; cases h6
  · rintro (rfl | rfl)
    · cases h4
    · cases h5
end Go.Vc
namespace Go.Proofs.YthddcfbjgcbioaaGreatDoor
open Go.RowKit Go.Vc
open Go.Vc.Rep (rd)
open Go.Vc.Own (own)
end Go.Proofs.YthddcfbjgcbioaaGreatDoor
namespace Go.Vc
open Go.RowKit Go.Sort Go.Proofs
open Rep (rd)
open Own (own)
theorem strs_enc (xs : List ByteArray) : (strsL xs).map encStr = xs.map Value.string := by
  unfold strsL
  rw [List.map_map]
  congr 1
theorem enc_ofStrs (ls : List (List UInt8)) : (ofStrs ls).map Value.string = ls.map encStr := by
  unfold ofStrs
  rw [List.map_map]
  congr 1
theorem sort_sizes {xs : List ByteArray} (h : ∀ x, x ∈ xs → x.size ≤ maxLen) : ∀ x, x ∈ sortS xs → x.size ≤ maxLen := fun x hx => h x (mem_sortS.1 hx)
theorem comp_sizes {xs : List ByteArray} (h : ∀ x, x ∈ xs → x.size ≤ maxLen) : ∀ x, x ∈ compS xs → x.size ≤ maxLen := fun x hx => h x (mem_comp.1 hx)
section
variable {w : World}
theorem ownAll_strs : ∀ {Fs : List (List Nat)} {cs : List (List Value)} {xs : List ByteArray}, ownAll w Fs cs xs → cs.flatten = xs.map Value.string ∧ Fs.flatten = [] ∧ ∀ x, x ∈ xs → x.size ≤ maxLen
  | [], [], [], _ => ⟨rfl, rfl, fun x h => by cases h⟩
  | F :: Fs, c :: cs, x :: xs, h => by
    obtain ⟨h1, h2, h3⟩ := ownAll_strs h.2
    obtain ⟨rfl, rfl, hz⟩ := h.1
    refine ⟨by rw [List.flatten_cons, h1]; rfl, by rw [List.flatten_cons, h2]; rfl, fun y hy => ?_⟩
    rcases List.mem_cons.1 hy with rfl | hy
    · exact hz
    · exact h3 y hy
  | [], [], _ :: _, h => h.elim
  | [], _ :: _, [], h => h.elim
  | [], _ :: _, _ :: _, h => h.elim
  | _ :: _, [], [], h => h.elim
  | _ :: _, [], _ :: _, h => h.elim
  | _ :: _, _ :: _, [], h => h.elim
theorem strs_ownAll : ∀ (xs : List ByteArray), (∀ x, x ∈ xs → x.size ≤ maxLen) → ownAll w (xs.map fun _ => []) (xs.map fun x => [Value.string x]) xs
  | [], _ => trivial
  | x :: xs, h => ⟨⟨rfl, rfl, h x (List.mem_cons_self ..)⟩, strs_ownAll xs fun y hy => h y (List.mem_cons_of_mem _ hy)⟩
theorem flat_strs : ∀ (xs : List ByteArray), (xs.map fun x => [Value.string x]).flatten = xs.map Value.string
  | [] => rfl
  | x :: xs => by rw [List.map_cons, List.flatten_cons, flat_strs xs]; rfl
theorem flat_nils : ∀ (xs : List ByteArray), (xs.map fun _ => ([] : List Nat)).flatten = []
  | [] => rfl
  | x :: xs => by rw [List.map_cons, List.flatten_cons, flat_nils xs]; rfl
variable [Tid ByteArray]
theorem own_strs {g cap n : Nat} {xs : List ByteArray} (hn : n = xs.length) (hrow : w.ownsRow 0 (Tid.tid ByteArray) 1 (.slice (some ⟨g, 0, none⟩) n cap) n (xs.map Value.string)) (hz : ∀ x, x ∈ xs → x.size ≤ maxLen) :
    own [g] w [.slice (some ⟨g, 0, none⟩) n cap] xs := by
  subst hn
  exact ⟨_, xs.map fun x => [Value.string x], xs.map fun _ => [], rfl, by rw [flat_strs]; exact hrow, by rw [flat_nils]; rfl, strs_ownAll xs hz, Nat.one_pos⟩
/-- an own slice of texts, its block -/
theorem fresh_strs {B m : Nat} {v : Value} {xs : List ByteArray} (h : Fresh B m w [v] xs) :
    (v = .slice none 0 0 ∧ xs = []) ∨ ∃ g cap cur, v = .slice (some ⟨g, 0, none⟩) xs.length cap ∧ B ≤ g ∧ g < m ∧ w.heap[g]? = some (.cells cur (Tid.tid ByteArray) (0, 0)) ∧ xs.length ≤ cap ∧ cap ≤ maxLen ∧ cur.size = cap * 1 ∧ cur.toList.take xs.length = xs.map Value.string ∧ ∀ x, x ∈ xs → x.size ≤ maxLen := by
  obtain ⟨F, ⟨v', cs, Fs, hv, hrow, rfl, hall, _⟩, _, hb⟩ := h
  simp at hv
  subst hv
  obtain ⟨h1, h2, h3⟩ := ownAll_strs hall
  rcases hrow.2 with ⟨rfl, hn⟩ | ⟨g, cap, cur, rfl, _, hg, hnc, hcm, hcs, ht⟩
  · exact .inl ⟨rfl, List.eq_nil_of_length_eq_zero hn⟩
  · have := hb g (by simp [Value.ownBlock])
    refine .inr ⟨g, cap, cur, rfl, this.1, this.2, hg, hnc, hcm, hcs, ?_, h3⟩
    rw [← h1, ← ht]
    show _ = List.take (xs.length * 1) cur.toList
    rw [Nat.mul_one]
end
end Go.Vc
namespace Go.Proofs.YthddcfbjgcbioaaGreatDoor
open Go.RowKit Go.Vc Go.Sort
open Go.Vc.Rep (rd)
open Go.Vc.Own (own)
set_option maxHeartbeats 4000000 in
theorem sort_any {B m : Nat} (v : Value) (xs : List ByteArray) (w : World) (hv : Fresh B m w [v] xs) (hB : B ≤ w.heap.size) (hl : xs.length ≤ 1000) :
    Calls Tryz.prog 53 #[v] w fun e w' => e = .returned (.tuple #[]) ∧ Fresh B w'.heap.size w' [v] (sortS xs) ∧ Below B w w' := by
  rcases fresh_strs hv with ⟨rfl, rfl⟩ | ⟨g, cap, cur, rfl, hBg, hgm, hg, hnc, hcm, hcs, ht, hz⟩
  · refine (Tryz.slices_Sort_string_none none 0 w).mono fun e w' h => ?_
    obtain ⟨rfl, rfl⟩ := h
    have es : sortS [] = [] := by unfold sortS sortU strsL ofStrs; simp
    exact ⟨rfl, by rw [es]; exact Fresh.nil (β := ByteArray) _ _ _ Nat.one_pos, Below.refl _ _⟩
  · have hgl : g < w.heap.size := (Array.getElem?_eq_some_iff.1 hg).1
    have hH : Holds encStr w g 0 (strsL xs).toArray := holds_of_block hg (by rw [strs_len, strs_enc]; exact ht)
    have hc := Tryz.slices_Sort_string g 0 cap (strsL xs) w hH hgl (by rw [strs_len]; omega)
    rw [strs_len] at hc
    refine hc.mono fun e w' h => ?_
    obtain ⟨rfl, n, os, rfl⟩ := h
    have hown := ownsRow_sorted (n := n) (os := os) (ss := strsL xs) (ts := sortU (strsL xs)) (base := 0) (sortU_len _) (Nat.zero_le _) hg (by rw [strs_len]; exact hnc) hcm hcs
    rw [strs_len, ← enc_ofStrs] at hown
    have hb := (Below.refl B w).grown (grownBy_sorted (w := w) (g := g) (n := n) (os := os) (sortU (strsL xs)).toArray) hB (fun k hk => by cases hk; exact hBg)
    refine ⟨rfl, ⟨[g], own_strs (by rw [sortS_len]) hown (sort_sizes hz), by simp, fun b hb' => ?_⟩, hb⟩
    rw [List.mem_singleton] at hb'
    subst hb'
    exact ⟨hBg, Nat.lt_of_lt_of_le hgl hb.size⟩
set_option maxHeartbeats 4000000 in
theorem compact_any {B m : Nat} (v : Value) (xs : List ByteArray) (w : World) (hv : Fresh B m w [v] xs) (hB : B ≤ w.heap.size) (hl : xs.length ≤ 1000) :
    Calls Tryz.prog 31 #[v] w fun e w' => ∃ v', e = .returned v' ∧ Fresh B w'.heap.size w' [v'] (compS xs) ∧ Below B w w' := by
  rcases fresh_strs hv with ⟨rfl, rfl⟩ | ⟨g, cap, cur, rfl, hBg, hgm, hg, hnc, hcm, hcs, ht, hz⟩
  · refine (Tryz.slices_Compact_string_empty none 0 w).mono fun e w' h => ?_
    obtain ⟨rfl, rfl⟩ := h
    have es : compS [] = [] := rfl
    exact ⟨_, rfl, by rw [es]; exact Fresh.nil (β := ByteArray) _ _ _ Nat.one_pos, Below.refl _ _⟩
  · have hgl : g < w.heap.size := (Array.getElem?_eq_some_iff.1 hg).1
    have hH : Holds encStr w g 0 (strsL xs).toArray := holds_of_block hg (by rw [strs_len, strs_enc]; exact ht)
    have hc := Tryz.slices_Compact_string g 0 cap (strsL xs) w hH (by rw [strs_len]; omega) (by rw [strs_len]; exact hnc)
    rw [strs_len] at hc
    refine hc.mono fun e w' h => ?_
    obtain ⟨rfl, n, rfl⟩ := h
    have hle : (Lib.compact (strsL xs)).length ≤ xs.length := by
      have := compS_len xs
      unfold compS at this
      rwa [ofStrs_len] at this
    obtain ⟨ts, hts⟩ : ∃ ts, ts = Lib.compact (strsL xs) ++ List.replicate (xs.length - (Lib.compact (strsL xs)).length) ([] : List UInt8) := ⟨_, rfl⟩
    rw [← hts]
    have htl : ts.length = xs.length := by rw [hts]; simp; omega
    have htk : ts.take (Lib.compact (strsL xs)).length = Lib.compact (strsL xs) := by rw [hts]; exact List.take_left
    have hw : putRow encStr (Sort.ahead w n) g 0 ts.toArray = grow (putRow encStr (Sort.ahead w n) g 0 ts.toArray) #[] := (grow_empty _).symm
    rw [hw]
    have hown := ownsRow_sorted (n := n) (os := #[]) (ss := strsL xs) (ts := ts) (base := 0) (by rw [htl, strs_len]) (Nat.zero_le _) hg (by rw [strs_len]; exact hnc) hcm hcs
    have hb := (Below.refl B w).grown (grownBy_sorted (w := w) (g := g) (n := n) (os := #[]) ts.toArray) hB (fun k hk => by cases hk; exact hBg)
    rw [strs_len] at hown
    have hrow : (grow (putRow encStr (Sort.ahead w n) g 0 ts.toArray) #[]).ownsRow 0 (Tid.tid ByteArray) 1 (.slice (some ⟨g, 0, none⟩) (Lib.compact (strsL xs)).length cap) (Lib.compact (strsL xs)).length ((compS xs).map Value.string) := by
      rcases hown.2 with ⟨h1, _⟩ | ⟨g2, cap2, cur2, h1, _, h3, h4, h5, h6, h7⟩
      · cases h1
      · simp only [Value.slice.injEq, Option.some.injEq, Addr.mk.injEq] at h1
        obtain ⟨⟨rfl, _⟩, _, rfl⟩ := h1
        refine ⟨by rw [List.length_map]; unfold compS; rw [ofStrs_len, Nat.mul_one], .inr ⟨_, _, cur2, rfl, Nat.zero_le _, h3, by omega, h5, h6, ?_⟩⟩
        rw [Nat.mul_one] at h7 ⊢
        have h8 := congrArg (List.take (Lib.compact (strsL xs)).length) h7
        rw [List.take_take, Nat.min_eq_left hle, ← List.map_take, htk] at h8
        rw [h8]
        unfold compS
        rw [enc_ofStrs]
    refine ⟨_, rfl, ⟨[g], own_strs (by unfold compS; rw [ofStrs_len]) hrow (comp_sizes hz), by simp, fun b hb' => ?_⟩, hb⟩
    rw [List.mem_singleton] at hb'
    subst hb'
    exact ⟨hBg, Nat.lt_of_lt_of_le hgl hb.size⟩
end Go.Proofs.YthddcfbjgcbioaaGreatDoor
namespace Go.Vc
open Go.RowKit
open Rep (rd)
open Own (own)
def flatP (ts : List (List File)) : List ByteArray := (ts.map pathsT).flatten
theorem flatP_next {M ol : List ByteArray} {ts : List (List File)} {i : Nat} (H : M = ol ++ flatP (ts.drop i)) (h : i < ts.length) : M = (ol ++ pathsT ts[i]) ++ flatP (ts.drop (i + 1)) := by
  rw [H, drop_cons ts i h, flatP, List.map_cons, List.flatten_cons, List.append_assoc]; rfl
theorem flatP_end {M ol : List ByteArray} {ts : List (List File)} {i : Nat} (H : M = ol ++ flatP (ts.drop i)) (h : ¬ i < ts.length) : M = ol := by
  rw [H, drop_nil ts i h]; simp [flatP]
theorem pathsT_next {M ol : List ByteArray} {t : List File} {k : Nat} (H : M = ol ++ pathsT (t.drop k)) (h : k < t.length) : M = (ol ++ [t[k].path]) ++ pathsT (t.drop (k + 1)) := by
  rw [H, drop_cons t k h, pathsT, List.map_cons, List.append_assoc]; rfl
theorem pathsT_end {M ol : List ByteArray} {t : List File} {k : Nat} (H : M = ol ++ pathsT (t.drop k)) (h : ¬ k < t.length) : M = ol := by
  rw [H, drop_nil t k h]; simp [pathsT]
theorem own_strp {s : ByteArray} (h : s.size ≤ maxLen) (w : World) : own [] w [.string s] s := ⟨rfl, rfl, h⟩
/-- a literal of three slices -/
theorem lit_three {α : Type} [Rep α] {S : Nat → Prop} {w : World} {g : Nat} {e : TypeId} {v0 v1 v2 : Value} {x0 x1 x2 : List α} (h : w.heap[g]? = some (.cells #[v0, v1, v2] e (0, 0))) (hg : S g) (h0 : rd S w [v0] x0) (h1 : rd S w [v1] x1) (h2 : rd S w [v2] x2) :
    IsSlice S w (some ⟨g, 0, none⟩) 3 [x0, x1, x2] := by
  refine ⟨Nat.le_refl _, by unfold maxLen; omega, fun i hi => ?_⟩
  have hc : ∀ j u, #[v0, v1, v2][j]? = some u → w.cell? ⟨g, j, none⟩ = some u := fun j u hu => by rw [cell_of_row w g j _ e (0, 0) h]; exact hu
  have h3 : i = 0 ∨ i = 1 ∨ i = 2 := by simp at hi; omega
  rcases h3 with rfl | rfl | rfl
  · refine ⟨g, 0, [v0], rfl, hg, fun j u hu => ?_, h0, Nat.one_pos⟩
    have hj : j = 0 := by have := (List.getElem?_eq_some_iff.1 hu).1; simpa using this
    subst hj
    simp at hu
    subst hu
    exact hc 0 _ rfl
  · refine ⟨g, 0, [v1], rfl, hg, fun j u hu => ?_, h1, Nat.one_pos⟩
    have hj : j = 0 := by have := (List.getElem?_eq_some_iff.1 hu).1; simpa using this
    subst hj
    simp at hu
    subst hu
    exact hc 1 _ rfl
  · refine ⟨g, 0, [v2], rfl, hg, fun j u hu => ?_, h2, Nat.one_pos⟩
    have hj : j = 0 := by have := (List.getElem?_eq_some_iff.1 hu).1; simpa using this
    subst hj
    simp at hu
    subst hu
    exact hc 2 _ rfl
end Go.Vc
namespace Go.Proofs.YthddcfbjgcbioaaGreatDoor
open Go.RowKit Go.Vc
open Go.Vc.Rep (rd)
open Go.Vc.Own (own)
end Go.Proofs.YthddcfbjgcbioaaGreatDoor
namespace Go.Proofs.YthddcfbjgcbioaaGreatDoor
open Go.RowKit Go.Vc
open Go.Vc.Rep (rd)
open Go.Vc.Own (own)
theorem flat_three (o a b : List File) : compS (sortS (flatP [o, a, b])) = allP o a b := by rw [← all_comp]; simp [flatP, List.append_assoc]
theorem nz_t {a b : Int} (h : ¬ a = b) : (a != b) = true := by simp [h]
theorem nz_f {a b : Int} (h : a = b) : (a != b) = false := by simp [h]
theorem i64_small {n : Nat} (h : n ≤ 3) : I64 (n : Int) := by unfold I64; omega
end Go.Proofs.YthddcfbjgcbioaaGreatDoor
namespace Go.Vc
open Go.RowKit
theorem mText_ok {o a b : List ByteArray} (h1 : textB o = true) (h2 : textB a = true) (h3 : textB b = true) : mText o a b = pFin (textF (mergeT o a b) []) := by
  unfold mText
  rw [if_pos (three_iff.2 ⟨h1, h2, h3⟩)]
theorem mText_len (o a b : List ByteArray) : (mText o a b).1.length ≤ 10 := by
  unfold mText
  split
  · cases h : textF (mergeT o a b) [] with
    | none => simp [pFin]
    | some x =>
      unfold pFin
      simp only
      split
      · rename_i h2; exact text_len10 h2
      · simp
  · simp
theorem joinOne_len {O A Q : Option (List ByteArray)} (h1 : (O.getD []).length ≤ 10) (h2 : (A.getD []).length ≤ 10) (h3 : (Q.getD []).length ≤ 10) : ((joinOne O A Q).1.getD []).length ≤ 10 := by
  unfold joinOne
  split
  · exact h3
  · split
    · exact h2
    · split
      · exact h1
      · split
        · simp
        · split
          · exact mText_len _ _ _
          · exact h1
theorem getT_textB {t : List File} (h : treeB t = true) (p : ByteArray) : textB ((getT t p).getD []) = true := by
  cases hg : getT t p with
  | none => rfl
  | some x =>
    obtain ⟨f, hf, _, rfl⟩ := getT_mem hg
    exact (((tree_iff t).1 h).2.1 f hf).2
end Go.Vc
namespace Go.Proofs.YthddcfbjgcbioaaGreatDoor
open Go.RowKit Go.Vc
open Go.Vc.Rep (rd)
open Go.Vc.Own (own)
end Go.Proofs.YthddcfbjgcbioaaGreatDoor
namespace Go.Vc
open Go.RowKit
theorem putP_same {ps : List ByteArray} {s : ByteArray} {K : Nat} (hK : lowP s ps = K) (h : K < ps.length) (e : ps[K] = s) : putP ps s = ps := by
  unfold putP; subst hK; rw [if_pos]; rw [List.getElem?_eq_getElem h, e]
theorem putP_new {ps : List ByteArray} {s : ByteArray} {K : Nat} (hK : lowP s ps = K) (h : ¬ K < ps.length ∨ ∃ h : K < ps.length, ¬ ps[K] = s) : putP ps s = ps.take K ++ [s] ++ ps.drop K := by
  unfold putP; subst hK; rw [if_neg]
  rcases h with h | ⟨h, e⟩
  · rw [List.getElem?_eq_none (by omega)]; simp
  · rw [List.getElem?_eq_getElem h]; simpa using e
end Go.Vc
namespace Go.Proofs.YthddcfbjgcbioaaGreatDoor
open Go.RowKit Go.Vc
open Go.Vc.Rep (rd)
open Go.Vc.Own (own)
set_option maxHeartbeats 4000000 in
set_option maxRecDepth 100000 in
theorem l5Put_any {B : Nat} (v : Value) (ps : List ByteArray) (s : ByteArray) (w : World) (hv : Fresh B w.heap.size w [v] ps) (hB : B ≤ w.heap.size) (hl : ps.length ≤ 1000) (hz : s.size ≤ maxLen) :
    Calls Tryz.prog 29 #[v, .string s] w fun e w' => ∃ v', e = .returned v' ∧ Fresh B w'.heap.size w' [v'] (putP ps s) ∧ Below w.heap.size w w' := by
  obtain ⟨a, cap, rfl, hs0⟩ := hv.shape
  have hs := hs0.lt
  have hle := hs.le
  have hcap := hs.1
  go_enter Tryz.func29, Tryz.ntmps29
  go_wp2
  go_loopw [5] (fun i wr => (∃ k : Nat, k ≤ ps.length ∧ i = .int .i64 k ∧ Hid (lowP s ps = k + lowP s (ps.drop k))) ∧ wr = w) (fun i _ => ps.length - (intOf i).toNat)
  case atStart => exact ⟨⟨0, by omega, rfl, by show _ = _; simp⟩, rfl⟩
  case round =>
    obtain ⟨⟨k, hk, rfl, HA⟩, rfl⟩ := hrel
    have ins : ¬ k < ps.length ∨ (∃ h : k < ps.length, ¬ ps[k] = s) → lowP s ps = k → Hid (putP ps s = ps.take k ++ [s] ++ ps.drop k) := fun h1 h2 => putP_new h2 h1
    have INS := Lib.hid ins
    have hpl : (ps.take k).length = k := by simp; omega
    have hdl : (ps.drop k).length = ps.length - k := by simp
    have hct := run_cut0 slz_string.slt a ps.length cap k (by omega)
    have hct2 := run_cut slz_string.slt a ps.length cap k hk
    clear ins
    by_cases hlt : k < ps.length
    · obtain ⟨g, off, hag, hcp, hzp⟩ := hs.str hlt
      have hNx := low_next HA.out hlt
      have hSt := low_stop HA.out hlt
      have hSm := fun h1 => putP_same (s := s) (K := k) h1 hlt
      have hIn := fun h1 h2 => INS.out (.inr ⟨hlt, h1⟩) h2
      obtain ⟨p, hp⟩ : ∃ p, p = ps[k] := ⟨_, rfl⟩
      rw [← hp] at hcp hzp hNx hSt hSm hIn
      cases hls : lessB p s with
      | true =>
        have hl' : Op.bytesLess p.toList s.toList = true := hls
        have HN := Lib.hid (hNx hls)
        subst hag
        clear hNx hSt hSm hIn hls hp
        go_wp2
        go_roundw
        case rel => exact ⟨⟨k + 1, by omega, by go_num, HN.out⟩, trivial⟩
        case measure => simp [intOf] <;> omega
      | false =>
        have hl' : Op.bytesLess p.toList s.toList = false := hls
        have hK := hSt hls
        by_cases he : p = s
        · have hd : decide (p = s) = true := decide_eq_true he
          have HP := Lib.hid (hSm hK he)
          subst hag
          clear hNx hSt hSm hIn hls hp he hK
          go_wp2
          go_ret
          exact ⟨_, rfl, by rw [HP.out]; exact hv, Below.refl _ _⟩
        · have hd : decide (p = s) = false := decide_eq_false he
          have HP := hIn he hK
          have HP := Lib.hid HP
          subst hag
          clear hNx hSt hSm hIn hls hp he hK hs0
          have hsl : IsSlice (fun b => b < wr.heap.size) wr (some ⟨g, off, none⟩) cap ps := hs
          have HB : B ≤ wr.heap.size := hB
          clear hs hv
          go_wp2_with (first
            | (at_builtin; (refine wpList_app_leaf slz_string.slt rfl (.tmp 34) (.tmp 37) rfl rfl (Fresh.empty (β := ByteArray) Nat.one_pos wr.heap.size wr (Nat.le_refl _)) (le_alloc (Nat.le_refl _) _) rfl hpl.symm ((hsl.take k).alloc _) (by simp <;> omega) (by unfold maxLen; simp <;> omega) ?_); intro a5 c5 w5 hG5; have hF5 := (show Fresh wr.heap.size w5.heap.size w5 [.slice a5 k c5] (ps.take k) from (by have := hG5.fresh; simpa only [List.length_nil, Nat.zero_add, hpl, List.nil_append] using this)); have hb5 := ((Below.refl _ wr).alloc (Nat.le_refl _) _).trans hG5.below; have hsz5 := hb5.size; have hsrc := (show IsSlice (fun b => b = w5.heap.size) (w5.alloc (.cells #[.string s] (Tid.tid ByteArray))) (some ⟨w5.heap.size, 0, none⟩) 1 [s] from lit_strs [s] (heap_alloc_new _ _) (by simpa using hz) (by unfold maxLen; simp)))
            | (at_builtin; (refine wpList_app_leaf slz_string.slt rfl (.tmp 39) (.tmp 41) rfl rfl (hF5.alloc _) (le_alloc (by omega) _) rfl rfl hsrc (by simp <;> omega) (by unfold maxLen; simp <;> omega) ?_); intro a8 c8 w8 hG8; have hF8 := (show Fresh wr.heap.size w8.heap.size w8 [.slice a8 (k + 1) c8] (ps.take k ++ [s]) from (by have := hG8.fresh; rw [hpl] at this; exact this)); have hb8 := (hb5.alloc hsz5 (.cells #[.string s] (Tid.tid ByteArray))).trans hG8.below; have hsz8 := hb8.size; have hs8 := hsl.keep hb8)
            | (at_builtin; go_must (refine wpList_app_leaf slz_string.slt rfl (.tmp 43) (.tmp 46) rfl rfl hF8 (by omega) rfl hdl.symm (hs8.cut (k := k) hk) (by simp <;> omega) (by unfold maxLen; simp <;> omega) ?_); intro a9 c9 w9 hG9))
          have hF9 : Fresh wr.heap.size w9.heap.size w9 [.slice a9 (k + 1 + (ps.length - k)) c9] (ps.take k ++ [s] ++ ps.drop k) := by
            have := hG9.fresh
            simpa only [List.length_append, hpl, hdl, List.length_singleton] using this
          go_ret
          exact ⟨_, rfl, by rw [HP.out]; exact hF9.mono HB (Nat.le_refl _), hb8.trans hG9.below⟩
    · have HP := Lib.hid (INS.out (.inl hlt) (low_end HA.out hlt))
      clear hs0
      have hsl : IsSlice (fun b => b < wr.heap.size) wr a cap ps := hs
      have HB : B ≤ wr.heap.size := hB
      clear hs hv
      go_wp2_with (first
        | (at_builtin; (refine wpList_app_leaf slz_string.slt rfl (.tmp 34) (.tmp 37) rfl rfl (Fresh.empty (β := ByteArray) Nat.one_pos wr.heap.size wr (Nat.le_refl _)) (le_alloc (Nat.le_refl _) _) rfl hpl.symm ((hsl.take k).alloc _) (by simp <;> omega) (by unfold maxLen; simp <;> omega) ?_); intro a5 c5 w5 hG5; have hF5 := (show Fresh wr.heap.size w5.heap.size w5 [.slice a5 k c5] (ps.take k) from (by have := hG5.fresh; simpa only [List.length_nil, Nat.zero_add, hpl, List.nil_append] using this)); have hb5 := ((Below.refl _ wr).alloc (Nat.le_refl _) _).trans hG5.below; have hsz5 := hb5.size; have hsrc := (show IsSlice (fun b => b = w5.heap.size) (w5.alloc (.cells #[.string s] (Tid.tid ByteArray))) (some ⟨w5.heap.size, 0, none⟩) 1 [s] from lit_strs [s] (heap_alloc_new _ _) (by simpa using hz) (by unfold maxLen; simp)))
        | (at_builtin; (refine wpList_app_leaf slz_string.slt rfl (.tmp 39) (.tmp 41) rfl rfl (hF5.alloc _) (le_alloc (by omega) _) rfl rfl hsrc (by simp <;> omega) (by unfold maxLen; simp <;> omega) ?_); intro a8 c8 w8 hG8; have hF8 := (show Fresh wr.heap.size w8.heap.size w8 [.slice a8 (k + 1) c8] (ps.take k ++ [s]) from (by have := hG8.fresh; rw [hpl] at this; exact this)); have hb8 := (hb5.alloc hsz5 (.cells #[.string s] (Tid.tid ByteArray))).trans hG8.below; have hsz8 := hb8.size; have hs8 := hsl.keep hb8)
        | (at_builtin; go_must (refine wpList_app_leaf slz_string.slt rfl (.tmp 43) (.tmp 46) rfl rfl hF8 (by omega) rfl hdl.symm (hs8.cut (k := k) hk) (by simp <;> omega) (by unfold maxLen; simp <;> omega) ?_); intro a9 c9 w9 hG9))
      have hF9 : Fresh wr.heap.size w9.heap.size w9 [.slice a9 (k + 1 + (ps.length - k)) c9] (ps.take k ++ [s] ++ ps.drop k) := by
        have := hG9.fresh
        simpa only [List.length_append, hpl, hdl, List.length_singleton] using this
      go_ret
      exact ⟨_, rfl, by rw [HP.out]; exact hF9.mono HB (Nat.le_refl _), hb8.trans hG9.below⟩
-- l6Paths: printed by gen_l6paths.py
end Go.Proofs.YthddcfbjgcbioaaGreatDoor
namespace Go.Proofs.YthddcfbjgcbioaaGreatDoor
open Go.RowKit Go.Vc
open Go.Vc.Rep (rd)
open Go.Vc.Own (own)
theorem joinAt_len {o a b : List File} (h1 : treeB o = true) (h2 : treeB a = true) (h3 : treeB b = true) (p : ByteArray) : ((joinAt o a b p).1.getD []).length ≤ 10 :=
  joinOne_len (text_len10 (getT_textB h1 p)) (text_len10 (getT_textB h2 p)) (text_len10 (getT_textB h3 p))
theorem strS {S : Nat → Prop} {w : World} {a : Option Addr} {cap : Nat} {xs : List ByteArray} (h : IsSlice S w a cap xs) {i : Nat} (hi : i < xs.length) :
    ∃ g off, a = some ⟨g, off, none⟩ ∧ S g ∧ w.cell? ⟨g, off + i, none⟩ = some (.string xs[i]) ∧ xs[i].size ≤ maxLen := by
  obtain ⟨g, off, us, h1, h2, h3, h4, h5⟩ := h.elem hi
  subst h4
  refine ⟨g, off, h1, h2, ?_, h5⟩
  have := h3 0 _ rfl
  simpa [Rep.sz] using this
end Go.Proofs.YthddcfbjgcbioaaGreatDoor
namespace Go.Proofs.YthddcfbjgcbioaaGreatDoor
open Go.RowKit Go.Vc
open Go.Vc.Rep (rd)
open Go.Vc.Own (own)
end Go.Proofs.YthddcfbjgcbioaaGreatDoor
namespace Go.Proofs.YthddcfbjgcbioaaGreatDoor
open Go.RowKit Go.Vc
open Go.Vc.Rep (rd)
open Go.Vc.Own (own)
end Go.Proofs.YthddcfbjgcbioaaGreatDoor
