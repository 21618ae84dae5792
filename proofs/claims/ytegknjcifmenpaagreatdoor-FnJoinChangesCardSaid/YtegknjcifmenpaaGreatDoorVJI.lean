/-
  The library's Sort and Compact at own texts. / Walks: all paths of trees. / Walks: what two sides made of a tree, as the program has it.
-/
import Derived.Test.YtegknjcifmenpaaGreatDoorVPJ
import Derived.Test.YtegknjcifmenpaaGreatDoorVTY
import Derived.Test.YtegknjcifmenpaaGreatDoorShelfS
import Derived.Test.YtegknjcifmenpaaGreatDoorVB
import Derived.Test.YtegknjcifmenpaaGreatDoorVMT
import Derived.Test.YtegknjcifmenpaaGreatDoorVI
import Derived.Test.YtegknjcifmenpaaGreatDoorVTR
import Derived.Test.YtegknjcifmenpaaGreatDoorVJA
import Derived.Test.YtegknjcifmenpaaGreatDoorVFS
import Derived.Test.YtegknjcifmenpaaGreatDoorWCTree
set_option linter.unusedVariables false
namespace Go.Vc
open Go.RowKit Go.Sort Go.Proofs
open Rep (rd)
open Own (own)
theorem strs_enc (xs : List ByteArray) : (strsL xs).map encStr = xs.map Value.string := by
  unfold strsL
  rw [List.map_map]
  congr 1
theorem enc_ofStrs (ls : List (List UInt8)) : (ofStrs ls).map Value.string = ls.map encStr := by
  unfold ofStrs
  rw [List.map_map]
  congr 1
theorem sort_sizes {xs : List ByteArray} (h : ∀ x, x ∈ xs → x.size ≤ maxLen) : ∀ x, x ∈ sortS xs → x.size ≤ maxLen := fun x hx => h x (mem_sortS.1 hx)
theorem comp_sizes {xs : List ByteArray} (h : ∀ x, x ∈ xs → x.size ≤ maxLen) : ∀ x, x ∈ compS xs → x.size ≤ maxLen := fun x hx => h x (mem_comp.1 hx)
section
variable {w : World}
theorem ownAll_strs : ∀ {Fs : List (List Nat)} {cs : List (List Value)} {xs : List ByteArray}, ownAll w Fs cs xs → cs.flatten = xs.map Value.string ∧ Fs.flatten = [] ∧ ∀ x, x ∈ xs → x.size ≤ maxLen
  | [], [], [], _ => ⟨rfl, rfl, fun x h => by cases h⟩
  | F :: Fs, c :: cs, x :: xs, h => by
    obtain ⟨h1, h2, h3⟩ := ownAll_strs h.2
    obtain ⟨rfl, rfl, hz⟩ := h.1
    refine ⟨by rw [List.flatten_cons, h1]; rfl, by rw [List.flatten_cons, h2]; rfl, fun y hy => ?_⟩
    rcases List.mem_cons.1 hy with rfl | hy
    · exact hz
    · exact h3 y hy
  | [], [], _ :: _, h => h.elim
  | [], _ :: _, [], h => h.elim
  | [], _ :: _, _ :: _, h => h.elim
  | _ :: _, [], [], h => h.elim
  | _ :: _, [], _ :: _, h => h.elim
  | _ :: _, _ :: _, [], h => h.elim
theorem strs_ownAll : ∀ (xs : List ByteArray), (∀ x, x ∈ xs → x.size ≤ maxLen) → ownAll w (xs.map fun _ => []) (xs.map fun x => [Value.string x]) xs
  | [], _ => trivial
  | x :: xs, h => ⟨⟨rfl, rfl, h x (List.mem_cons_self ..)⟩, strs_ownAll xs fun y hy => h y (List.mem_cons_of_mem _ hy)⟩
theorem flat_strs : ∀ (xs : List ByteArray), (xs.map fun x => [Value.string x]).flatten = xs.map Value.string
  | [] => rfl
  | x :: xs => by rw [List.map_cons, List.flatten_cons, flat_strs xs]; rfl
theorem flat_nils : ∀ (xs : List ByteArray), (xs.map fun _ => ([] : List Nat)).flatten = []
  | [] => rfl
  | x :: xs => by rw [List.map_cons, List.flatten_cons, flat_nils xs]; rfl
variable [Tid ByteArray]
theorem own_strs {g cap n : Nat} {xs : List ByteArray} (hn : n = xs.length) (hrow : w.ownsRow 0 (Tid.tid ByteArray) 1 (.slice (some ⟨g, 0, none⟩) n cap) n (xs.map Value.string)) (hz : ∀ x, x ∈ xs → x.size ≤ maxLen) :
    own [g] w [.slice (some ⟨g, 0, none⟩) n cap] xs := by
  subst hn
  exact ⟨_, xs.map fun x => [Value.string x], xs.map fun _ => [], rfl, by rw [flat_strs]; exact hrow, by rw [flat_nils]; rfl, strs_ownAll xs hz, Nat.one_pos⟩
/-- an own slice of texts, its block -/
theorem fresh_strs {B m : Nat} {v : Value} {xs : List ByteArray} (h : Fresh B m w [v] xs) :
    (v = .slice none 0 0 ∧ xs = []) ∨ ∃ g cap cur, v = .slice (some ⟨g, 0, none⟩) xs.length cap ∧ B ≤ g ∧ g < m ∧ w.heap[g]? = some (.cells cur (Tid.tid ByteArray) (0, 0)) ∧ xs.length ≤ cap ∧ cap ≤ maxLen ∧ cur.size = cap * 1 ∧ cur.toList.take xs.length = xs.map Value.string ∧ ∀ x, x ∈ xs → x.size ≤ maxLen := by
  obtain ⟨F, ⟨v', cs, Fs, hv, hrow, rfl, hall, _⟩, _, hb⟩ := h
  simp at hv
  subst hv
  obtain ⟨h1, h2, h3⟩ := ownAll_strs hall
  rcases hrow.2 with ⟨rfl, hn⟩ | ⟨g, cap, cur, rfl, _, hg, hnc, hcm, hcs, ht⟩
  · exact .inl ⟨rfl, List.eq_nil_of_length_eq_zero hn⟩
  · have := hb g (by simp [Value.ownBlock])
    refine .inr ⟨g, cap, cur, rfl, this.1, this.2, hg, hnc, hcm, hcs, ?_, h3⟩
    rw [← h1, ← ht]
    show _ = List.take (xs.length * 1) cur.toList
    rw [Nat.mul_one]
end
end Go.Vc
namespace Go.Proofs.YtegknjcifmenpaaGreatDoor
open Go.RowKit Go.Vc Go.Sort
open Go.Vc.Rep (rd)
open Go.Vc.Own (own)
set_option maxHeartbeats 4000000 in
theorem sort_any {B m : Nat} (v : Value) (xs : List ByteArray) (w : World) (hv : Fresh B m w [v] xs) (hB : B ≤ w.heap.size) (hl : xs.length ≤ 1000) :
    Calls Tryz.prog 109 #[v] w fun e w' => e = .returned (.tuple #[]) ∧ Fresh B w'.heap.size w' [v] (sortS xs) ∧ Below B w w' := by
  rcases fresh_strs hv with ⟨rfl, rfl⟩ | ⟨g, cap, cur, rfl, hBg, hgm, hg, hnc, hcm, hcs, ht, hz⟩
  · refine (Tryz.slices_Sort_string_none none 0 w).mono fun e w' h => ?_
    obtain ⟨rfl, rfl⟩ := h
    have es : sortS [] = [] := by unfold sortS sortU strsL ofStrs; simp
    exact ⟨rfl, by rw [es]; exact Fresh.nil (β := ByteArray) _ _ _ Nat.one_pos, Below.refl _ _⟩
  · have hgl : g < w.heap.size := (Array.getElem?_eq_some_iff.1 hg).1
    have hH : Holds encStr w g 0 (strsL xs).toArray := holds_of_block hg (by rw [strs_len, strs_enc]; exact ht)
    have hc := Tryz.slices_Sort_string g 0 cap (strsL xs) w hH hgl (by rw [strs_len]; omega)
    rw [strs_len] at hc
    refine hc.mono fun e w' h => ?_
    obtain ⟨rfl, n, os, rfl⟩ := h
    have hown := ownsRow_sorted (n := n) (os := os) (ss := strsL xs) (ts := sortU (strsL xs)) (base := 0) (sortU_len _) (Nat.zero_le _) hg (by rw [strs_len]; exact hnc) hcm hcs
    rw [strs_len, ← enc_ofStrs] at hown
    have hb := (Below.refl B w).grown (grownBy_sorted (w := w) (g := g) (n := n) (os := os) (sortU (strsL xs)).toArray) hB (fun k hk => by cases hk; exact hBg)
    refine ⟨rfl, ⟨[g], own_strs (by rw [sortS_len]) hown (sort_sizes hz), by simp, fun b hb' => ?_⟩, hb⟩
    rw [List.mem_singleton] at hb'
    subst hb'
    exact ⟨hBg, Nat.lt_of_lt_of_le hgl hb.size⟩
set_option maxHeartbeats 4000000 in
theorem compact_any {B m : Nat} (v : Value) (xs : List ByteArray) (w : World) (hv : Fresh B m w [v] xs) (hB : B ≤ w.heap.size) (hl : xs.length ≤ 1000) :
    Calls Tryz.prog 66 #[v] w fun e w' => ∃ v', e = .returned v' ∧ Fresh B w'.heap.size w' [v'] (compS xs) ∧ Below B w w' := by
  rcases fresh_strs hv with ⟨rfl, rfl⟩ | ⟨g, cap, cur, rfl, hBg, hgm, hg, hnc, hcm, hcs, ht, hz⟩
  · refine (Tryz.slices_Compact_string_empty none 0 w).mono fun e w' h => ?_
    obtain ⟨rfl, rfl⟩ := h
    have es : compS [] = [] := rfl
    exact ⟨_, rfl, by rw [es]; exact Fresh.nil (β := ByteArray) _ _ _ Nat.one_pos, Below.refl _ _⟩
  · have hgl : g < w.heap.size := (Array.getElem?_eq_some_iff.1 hg).1
    have hH : Holds encStr w g 0 (strsL xs).toArray := holds_of_block hg (by rw [strs_len, strs_enc]; exact ht)
    have hc := Tryz.slices_Compact_string g 0 cap (strsL xs) w hH (by rw [strs_len]; omega) (by rw [strs_len]; exact hnc)
    rw [strs_len] at hc
    refine hc.mono fun e w' h => ?_
    obtain ⟨rfl, n, rfl⟩ := h
    have hle : (Lib.compact (strsL xs)).length ≤ xs.length := by
      have := compS_len xs
      unfold compS at this
      rwa [ofStrs_len] at this
    obtain ⟨ts, hts⟩ : ∃ ts, ts = Lib.compact (strsL xs) ++ List.replicate (xs.length - (Lib.compact (strsL xs)).length) ([] : List UInt8) := ⟨_, rfl⟩
    rw [← hts]
    have htl : ts.length = xs.length := by rw [hts]; simp; omega
    have htk : ts.take (Lib.compact (strsL xs)).length = Lib.compact (strsL xs) := by rw [hts]; exact List.take_left
    have hw : putRow encStr (Sort.ahead w n) g 0 ts.toArray = grow (putRow encStr (Sort.ahead w n) g 0 ts.toArray) #[] := (grow_empty _).symm
    rw [hw]
    have hown := ownsRow_sorted (n := n) (os := #[]) (ss := strsL xs) (ts := ts) (base := 0) (by rw [htl, strs_len]) (Nat.zero_le _) hg (by rw [strs_len]; exact hnc) hcm hcs
    have hb := (Below.refl B w).grown (grownBy_sorted (w := w) (g := g) (n := n) (os := #[]) ts.toArray) hB (fun k hk => by cases hk; exact hBg)
    rw [strs_len] at hown
    have hrow : (grow (putRow encStr (Sort.ahead w n) g 0 ts.toArray) #[]).ownsRow 0 (Tid.tid ByteArray) 1 (.slice (some ⟨g, 0, none⟩) (Lib.compact (strsL xs)).length cap) (Lib.compact (strsL xs)).length ((compS xs).map Value.string) := by
      rcases hown.2 with ⟨h1, _⟩ | ⟨g2, cap2, cur2, h1, _, h3, h4, h5, h6, h7⟩
      · cases h1
      · simp only [Value.slice.injEq, Option.some.injEq, Addr.mk.injEq] at h1
        obtain ⟨⟨rfl, _⟩, _, rfl⟩ := h1
        refine ⟨by rw [List.length_map]; unfold compS; rw [ofStrs_len, Nat.mul_one], .inr ⟨_, _, cur2, rfl, Nat.zero_le _, h3, by omega, h5, h6, ?_⟩⟩
        rw [Nat.mul_one] at h7 ⊢
        have h8 := congrArg (List.take (Lib.compact (strsL xs)).length) h7
        rw [List.take_take, Nat.min_eq_left hle, ← List.map_take, htk] at h8
        rw [h8]
        unfold compS
        rw [enc_ofStrs]
    refine ⟨_, rfl, ⟨[g], own_strs (by unfold compS; rw [ofStrs_len]) hrow (comp_sizes hz), by simp, fun b hb' => ?_⟩, hb⟩
    rw [List.mem_singleton] at hb'
    subst hb'
    exact ⟨hBg, Nat.lt_of_lt_of_le hgl hb.size⟩
end Go.Proofs.YtegknjcifmenpaaGreatDoor
namespace Go.Vc
open Go.RowKit
open Rep (rd)
open Own (own)
def flatP (ts : List (List File)) : List ByteArray := (ts.map pathsT).flatten
theorem flatP_next {M ol : List ByteArray} {ts : List (List File)} {i : Nat} (H : M = ol ++ flatP (ts.drop i)) (h : i < ts.length) : M = (ol ++ pathsT ts[i]) ++ flatP (ts.drop (i + 1)) := by
  rw [H, drop_cons ts i h, flatP, List.map_cons, List.flatten_cons, List.append_assoc]; rfl
theorem flatP_end {M ol : List ByteArray} {ts : List (List File)} {i : Nat} (H : M = ol ++ flatP (ts.drop i)) (h : ¬ i < ts.length) : M = ol := by
  rw [H, drop_nil ts i h]; simp [flatP]
theorem pathsT_next {M ol : List ByteArray} {t : List File} {k : Nat} (H : M = ol ++ pathsT (t.drop k)) (h : k < t.length) : M = (ol ++ [t[k].path]) ++ pathsT (t.drop (k + 1)) := by
  rw [H, drop_cons t k h, pathsT, List.map_cons, List.append_assoc]; rfl
theorem pathsT_end {M ol : List ByteArray} {t : List File} {k : Nat} (H : M = ol ++ pathsT (t.drop k)) (h : ¬ k < t.length) : M = ol := by
  rw [H, drop_nil t k h]; simp [pathsT]
theorem own_strp {s : ByteArray} (h : s.size ≤ maxLen) (w : World) : own [] w [.string s] s := ⟨rfl, rfl, h⟩
/-- a literal of three slices -/
theorem lit_three {α : Type} [Rep α] {S : Nat → Prop} {w : World} {g : Nat} {e : TypeId} {v0 v1 v2 : Value} {x0 x1 x2 : List α} (h : w.heap[g]? = some (.cells #[v0, v1, v2] e (0, 0))) (hg : S g) (h0 : rd S w [v0] x0) (h1 : rd S w [v1] x1) (h2 : rd S w [v2] x2) :
    IsSlice S w (some ⟨g, 0, none⟩) 3 [x0, x1, x2] := by
  refine ⟨Nat.le_refl _, by unfold maxLen; omega, fun i hi => ?_⟩
  have hc : ∀ j u, #[v0, v1, v2][j]? = some u → w.cell? ⟨g, j, none⟩ = some u := fun j u hu => by rw [cell_of_row w g j _ e (0, 0) h]; exact hu
  have h3 : i = 0 ∨ i = 1 ∨ i = 2 := by simp at hi; omega
  rcases h3 with rfl | rfl | rfl
  · refine ⟨g, 0, [v0], rfl, hg, fun j u hu => ?_, h0, Nat.one_pos⟩
    have hj : j = 0 := by have := (List.getElem?_eq_some_iff.1 hu).1; simpa using this
    subst hj
    simp at hu
    subst hu
    exact hc 0 _ rfl
  · refine ⟨g, 0, [v1], rfl, hg, fun j u hu => ?_, h1, Nat.one_pos⟩
    have hj : j = 0 := by have := (List.getElem?_eq_some_iff.1 hu).1; simpa using this
    subst hj
    simp at hu
    subst hu
    exact hc 1 _ rfl
  · refine ⟨g, 0, [v2], rfl, hg, fun j u hu => ?_, h2, Nat.one_pos⟩
    have hj : j = 0 := by have := (List.getElem?_eq_some_iff.1 hu).1; simpa using this
    subst hj
    simp at hu
    subst hu
    exact hc 2 _ rfl
end Go.Vc
namespace Go.Proofs.YtegknjcifmenpaaGreatDoor
open Go.RowKit Go.Vc
open Go.Vc.Rep (rd)
open Go.Vc.Own (own)
set_option maxHeartbeats 4000000 in
set_option maxRecDepth 100000 in
theorem allPaths_any {S : Nat → Prop} (v : Value) (ts : List (List File)) (w : World) (hv : rd S w [v] ts) (hn : ts.length ≤ 3) (hx : ∀ t, t ∈ ts → t.length ≤ 8) :
    Calls Tryz.prog 75 #[v] w fun e w' => ∃ v', e = .returned v' ∧ Fresh w.heap.size w'.heap.size w' [v'] (compS (sortS (flatP ts))) ∧ Below w.heap.size w w' := by
  obtain ⟨a, cap, rfl, hs⟩ := rd_slice_elim (Rep.lt hv)
  have hle := hs.le
  go_enter Tryz.func75, Tryz.ntmps75
  go_wp2
  go_loopw [3, 10] (fun out i wr => (∃ (k : Nat) (ol : List ByteArray), k ≤ ts.length ∧ i = .int .i64 k ∧ ol.length ≤ 8 * k ∧ Fresh w.heap.size wr.heap.size wr [out] ol ∧ Hid (flatP ts = ol ++ flatP (ts.drop k))) ∧ Below w.heap.size w wr) (fun _ i _ => ts.length - (intOf i).toNat)
  case atStart => exact ⟨⟨0, [], by omega, rfl, by simp, Fresh.nil _ _ _ (by decide), rfl⟩, Below.refl _ _⟩
  case round =>
    obtain ⟨⟨k, ol, hk, rfl, hol, hF, HA⟩, hb⟩ := hrel
    obtain ⟨a2, c2, rfl, _⟩ := hF.shape
    have hsz := hb.size
    by_cases hlt : k < ts.length
    · have HN := Lib.hid (flatP_next HA.out hlt)
      obtain ⟨g, off, b, n, rfl, hc, hrow⟩ := hs.row hlt
      have hc := keepc hc hb
      have h8 := hx ts[k] (List.getElem_mem hlt)
      obtain ⟨t, ht⟩ : ∃ t, t = ts[k] := ⟨_, rfl⟩
      rw [← ht] at hc hrow h8
      have HN : Hid (flatP ts = (ol ++ pathsT t) ++ flatP (ts.drop (k + 1))) := by rw [ht]; exact HN
      have hrl := hrow.le
      obtain ⟨wo, hwo⟩ : ∃ wo : World, wo = wr := ⟨_, rfl⟩
      subst hwo
      obtain ⟨k1, hk1⟩ : ∃ k1 : Nat, k1 = k := ⟨_, rfl⟩
      rw [← hk1] at hol
      have hk9 : k1 ≤ 2 := by omega
      have HK := Lib.hid hk1
      clear ht hk1
      go_wp2
      go_loopw [3, 16] (fun out i wr => (∃ (k : Nat) (ol2 : List ByteArray), k ≤ t.length ∧ i = .int .i64 k ∧ ol2.length ≤ 8 * k1 + k ∧ Fresh w.heap.size wr.heap.size wr [out] ol2 ∧ Hid (ol ++ pathsT t = ol2 ++ pathsT (t.drop k))) ∧ Below w.heap.size w wr) (fun _ i _ => t.length - (intOf i).toNat)
      case atStart => exact ⟨⟨0, ol, by omega, rfl, by omega, hF, rfl⟩, hb⟩
      case round =>
        obtain ⟨⟨j, ol2, hj, rfl, hol2, hF2, HB⟩, hb2⟩ := hrel
        obtain ⟨a3, c3, rfl, _⟩ := hF2.shape
        have hsz2 := hb2.size
        by_cases hlt2 : j < t.length
        · obtain ⟨g2, off2, a1, c1, rfl, hc1, hc2, hz1, hft⟩ := (hrow.keep hb2).file hlt2
          have HN2 := Lib.hid (pathsT_next HB.out hlt2)
          obtain ⟨f, hf⟩ : ∃ f, f = t[j] := ⟨_, rfl⟩
          rw [← hf] at hc1 hc2 hz1 hft
          have HN2 : Hid (ol ++ pathsT t = (ol2 ++ [f.path]) ++ pathsT (t.drop (j + 1))) := by rw [hf]; exact HN2
          obtain ⟨wc, hwc⟩ : ∃ wc, wc = wr.alloc (.cells #[.string f.path, .slice a1 f.text.length c1] 59) := ⟨_, rfl⟩
          obtain ⟨hB1, hsc, hq1⟩ := boxed (vs := [.string f.path, .slice a1 f.text.length c1]) hwc
          have p0 := hq1 0 _ rfl
          have p1 := hq1 1 _ rfl
          have hF2 := (hF2.below (Nat.le_refl _) hB1).now
          have hb3 := hb2.trans (hB1.mono hsz2)
          have hsr2 := hb3.size
          have HWC := Lib.hid hwc
          have HSC := Lib.hid hsc
          rw [hwc] at p0 p1
          clear hq1 hwc hsc hf hft
          go_wp2_with (at_builtin; rw [← HWC.out]; go_must (refine wpList_app_one slz_string.slt rfl (.tmp 20) (.tmp 23) rfl rfl (hF2.alloc _) (le_alloc hsr2 _) rfl (heap_new_at HSC.out.symm) (Fresh.leaf (α := ByteArray) (m := wc.heap.size) (own_strp hz1 _)) hsr2 (by omega) (by unfold maxLen; omega) ?_); intro a5 c5 w5 hG5)
          go_roundw
          case rel => exact ⟨⟨j + 1, ol2 ++ [f.path], by omega, by go_num, by simp; omega, by have := hG5.fresh; simpa using this, HN2.out⟩, (hb3.alloc hsr2 _).trans hG5.below⟩
          case measure => simp [intOf] <;> omega
        · have HN2 := Lib.hid (pathsT_end HB.out hlt2)
          have hj2 : j = t.length := by omega
          go_wp2
          go_roundw
          case rel => exact ⟨⟨k + 1, ol2, by omega, by go_num, by have := HK.out; omega, hF2, by show _ = _; rw [HN.out, HN2.out]⟩, hb2⟩
          case measure => simp [intOf] <;> omega
    · have HN := Lib.hid (flatP_end HA.out hlt)
      have hl9 : ol.length ≤ 1000 := by omega
      go_wp2_with fail
      refine (sort_any _ ol _ hF (by omega) hl9).mono ?_
      rintro e w3 ⟨rfl, hF3, hb3⟩
      obtain ⟨sl, hsl⟩ : ∃ sl, sl = sortS ol := ⟨_, rfl⟩
      have hl8 : sl.length ≤ 1000 := by rw [hsl, sortS_len]; exact hl9
      rw [← hsl] at hF3
      have HS := Lib.hid hsl
      clear hsl
      go_wp2_with fail
      refine (compact_any _ sl _ hF3 (by have := hb3.size; omega) hl8).mono ?_
      rintro e w4 ⟨v4, rfl, hF4, hb4⟩
      go_wp2
      go_ret
      exact ⟨_, rfl, by rw [HN.out, ← HS.out]; exact hF4, (hb.trans hb3).trans hb4⟩
end Go.Proofs.YtegknjcifmenpaaGreatDoor
namespace Go.Proofs.YtegknjcifmenpaaGreatDoor
open Go.RowKit Go.Vc
open Go.Vc.Rep (rd)
open Go.Vc.Own (own)
set_option maxHeartbeats 4000000 in
set_option maxRecDepth 100000 in
theorem areTrees_is {S T U : Nat → Prop} (v u x : Value) (o a b : List File) (w : World) (hv : rd S w [v] o) (hu : rd T w [u] a) (hx : rd U w [x] b) (hSo : ∀ f, f ∈ o → ShortS f.path) (hSa : ∀ f, f ∈ a → ShortS f.path) (hSb : ∀ f, f ∈ b → ShortS f.path) (hM : ML w) {c : Bool} (h : threeT o a b = c) :
    Calls Tryz.prog 74 #[v, u, x] w fun e w' => e = .returned (.bool c) ∧ Below w.heap.size w w' := by
  obtain ⟨a1, c1, rfl, h1⟩ := rd_slice_elim (Rep.lt hv)
  obtain ⟨a2, c2, rfl, h2⟩ := rd_slice_elim (Rep.lt hu)
  obtain ⟨a3, c3, rfl, h3⟩ := rd_slice_elim (Rep.lt hx)
  subst h
  cases e1 : treeB o with
  | false =>
    have HC : Hid (threeT o a b = false) := by show _ = _; unfold threeT; rw [e1]; rfl
    go_enter Tryz.func74, Tryz.ntmps74
    go_wp2_with fail
    refine (treeOk_is _ o _ h1.rd hSo hM e1).mono ?_
    rintro e w1 ⟨rfl, hb1⟩
    go_wp2
    go_ret
    exact ⟨by rw [HC.out]; rfl, hb1⟩
  | true =>
    cases e2 : treeB a with
    | false =>
      have HC : Hid (threeT o a b = false) := by show _ = _; unfold threeT; rw [e1, e2]; rfl
      go_enter Tryz.func74, Tryz.ntmps74
      go_wp2_with fail
      refine (treeOk_is _ o _ h1.rd hSo hM e1).mono ?_
      rintro e w1 ⟨rfl, hb1⟩
      go_wp2_with fail
      refine (treeOk_is _ a _ (h2.keep hb1).rd hSa (hM.keep hb1) e2).mono ?_
      rintro e w2 ⟨rfl, hb2⟩
      go_wp2
      go_ret
      exact ⟨by rw [HC.out]; rfl, hb1.trans (hb2.mono hb1.size)⟩
    | true =>
      cases e3 : treeB b with
      | false =>
        have HC : Hid (threeT o a b = false) := by show _ = _; unfold threeT; rw [e1, e2, e3]; rfl
        go_enter Tryz.func74, Tryz.ntmps74
        go_wp2_with fail
        refine (treeOk_is _ o _ h1.rd hSo hM e1).mono ?_
        rintro e w1 ⟨rfl, hb1⟩
        go_wp2_with fail
        refine (treeOk_is _ a _ (h2.keep hb1).rd hSa (hM.keep hb1) e2).mono ?_
        rintro e w2 ⟨rfl, hb2⟩
        have hb := hb1.trans (hb2.mono hb1.size)
        go_wp2_with fail
        refine (treeOk_is _ b _ (h3.keep hb).rd hSb (hM.keep hb) e3).mono ?_
        rintro e w3 ⟨rfl, hb3⟩
        go_wp2
        go_ret
        exact ⟨by rw [HC.out]; rfl, hb.trans (hb3.mono hb.size)⟩
      | true =>
        have HC : Hid (threeT o a b = true) := by show _ = _; unfold threeT; rw [e1, e2, e3]; rfl
        go_enter Tryz.func74, Tryz.ntmps74
        go_wp2_with fail
        refine (treeOk_is _ o _ h1.rd hSo hM e1).mono ?_
        rintro e w1 ⟨rfl, hb1⟩
        go_wp2_with fail
        refine (treeOk_is _ a _ (h2.keep hb1).rd hSa (hM.keep hb1) e2).mono ?_
        rintro e w2 ⟨rfl, hb2⟩
        have hb := hb1.trans (hb2.mono hb1.size)
        go_wp2_with fail
        refine (treeOk_is _ b _ (h3.keep hb).rd hSb (hM.keep hb) e3).mono ?_
        rintro e w3 ⟨rfl, hb3⟩
        go_wp2
        go_ret
        exact ⟨by rw [HC.out]; rfl, hb.trans (hb3.mono hb.size)⟩
theorem lit_clash {w : World} {g : Nat} {e : TypeId} {c : Clash} (h : w.heap[g]? = some (.cells #[.string c.path, .int .i64 c.kind] e (0, 0))) (hz : c.path.size ≤ maxLen) (hk : I64 c.kind) : IsSlice (fun b => b = g) w (some ⟨g, 0, none⟩) 1 [c] := by
  refine ⟨by simp, by unfold maxLen; omega, fun i hi => ?_⟩
  obtain rfl : i = 0 := by simpa using hi
  refine ⟨g, 0, [.string c.path, .int .i64 c.kind], rfl, rfl, fun j u hu => ?_, ⟨[_], [_], rfl, ⟨rfl, hz⟩, rfl, hk⟩, by decide⟩
  rw [cell_of_row _ _ _ _ _ (0, 0) h]
  simpa using hu

theorem flat_three (o a b : List File) : compS (sortS (flatP [o, a, b])) = allP o a b := by rw [← all_comp]; simp [flatP, List.append_assoc]
theorem nz_t {a b : Int} (h : ¬ a = b) : (a != b) = true := by simp [h]
theorem nz_f {a b : Int} (h : a = b) : (a != b) = false := by simp [h]
theorem i64_small {n : Nat} (h : n ≤ 3) : I64 (n : Int) := by unfold I64; omega
set_option maxHeartbeats 8000000 in
set_option maxRecDepth 100000 in
theorem implJoinOf {S T U : Nat → Prop} (v u x : Value) (o a b : List File) (w : World) (hv : rd S w [v] o) (hu : rd T w [u] a) (hx : rd U w [x] b) (hSo : ∀ f, f ∈ o → ShortS f.path) (hSa : ∀ f, f ∈ a → ShortS f.path) (hSb : ∀ f, f ∈ b → ShortS f.path) (hM : ML w) :
    Calls Tryz.prog 27 #[v, u, x] w fun e w' => ∃ v1 v2, e = .returned (.tuple #[v1, v2]) ∧ Fresh w.heap.size w'.heap.size w' [v1] (joinOf o a b).1 ∧ rd (fun k => w.heap.size ≤ k ∧ k < w'.heap.size) w' [v2] (joinOf o a b).2 ∧ Below w.heap.size w w' := by
  obtain ⟨a1, c1, rfl, h1⟩ := rd_slice_elim (Rep.lt hv)
  obtain ⟨a2, c2, rfl, h2⟩ := rd_slice_elim (Rep.lt hu)
  obtain ⟨a3, c3, rfl, h3⟩ := rd_slice_elim (Rep.lt hx)
  cases hb : threeT o a b with
  | false =>
    have HD := Lib.hid (joinOf_bad hb)
    go_enter Tryz.func27, Tryz.ntmps27
    go_wp2_with fail
    refine (areTrees_is _ _ _ o a b _ h1.rd h2.rd h3.rd hSo hSa hSb hM hb).mono ?_
    rintro e w1 ⟨rfl, hb1⟩
    go_wp2
    go_ret2
    exact ⟨.slice none 0 0, .slice none 0 0, rfl, by rw [HD.out]; exact Fresh.nil _ _ _ (by decide), by rw [HD.out]; exact rd_slice_nil _ _, hb1⟩
  | true =>
    obtain ⟨t1, t2, t3⟩ := threeT_iff.1 hb
    obtain ⟨l1, x1⟩ := tree_files t1
    obtain ⟨l2, x2⟩ := tree_files t2
    obtain ⟨l3, x3⟩ := tree_files t3
    go_enter Tryz.func27, Tryz.ntmps27
    go_wp2_with fail
    refine (areTrees_is _ _ _ o a b _ h1.rd h2.rd h3.rd hSo hSa hSb hM hb).mono ?_
    rintro e w1 ⟨rfl, hb1⟩
    have hs1 := hb1.size
    go_wp2_with fail
    refine (allPaths_any (S := fun k => k < w1.heap.size + 1) _ [o, a, b] _ (lit_three (heap_alloc_new _ _) (Nat.lt_succ_self _) (Rep.mono (fun k hk => by omega) ((h1.keep hb1).alloc _).rd) (Rep.mono (fun k hk => by omega) ((h2.keep hb1).alloc _).rd) (Rep.mono (fun k hk => by omega) ((h3.keep hb1).alloc _).rd)).rd (by simp) (fun t ht => by simp at ht; rcases ht with rfl | rfl | rfl <;> assumption)).mono ?_
    rintro e w2 ⟨vp, rfl, hP, hb2⟩
    rw [flat_three] at hP
    have hB2 := (hb1.alloc hs1 (.cells #[.slice a1 o.length c1, .slice a2 a.length c2, .slice a3 b.length c3] 23)).trans (hb2.mono (by simp; omega))
    have hs2 := hB2.size
    have hpl := allP_len o a b
    have hSp := allP_small hSo hSa hSb
    obtain ⟨ps, hps⟩ : ∃ ps, ps = allP o a b := ⟨_, rfl⟩
    rw [← hps] at hP hpl hSp
    have HPS := Lib.hid hps
    obtain ⟨ap, cp, rfl, hpr⟩ := rd_slice_elim (Rep.lt hP.rd)
    have hple := hpr.le
    have HT := Lib.hid hb
    clear hb1 hb2 hP hps hv hu hx t1 t2 t3 hs1 hb
    go_wp2
    go_loopw [8, 9, 25] (fun out cl i wr => (∃ (k : Nat) (ol : List File) (cs : List Clash) (S1 S2 : Nat → Prop), k ≤ ps.length ∧ i = .int .i64 k ∧ ol.length ≤ k ∧ cs.length ≤ k ∧ FS S1 wr [out] ol ∧ FS S2 wr [cl] cs ∧ (∀ b, S1 b → S2 b → False) ∧ (∀ b, S1 b ∨ S2 b → w2.heap.size ≤ b ∧ b < wr.heap.size) ∧ Hid (joinF o a b ps = ol ++ joinF o a b (ps.drop k)) ∧ Hid (joinC o a b ps = cs ++ joinC o a b (ps.drop k))) ∧ Below w2.heap.size w2 wr) (fun _ _ i _ => ps.length - (intOf i).toNat)
    case atStart => exact ⟨⟨0, [], [], fun _ => False, fun _ => False, by omega, rfl, by simp, by simp, (Fresh.nil (β := File) w2.heap.size w2.heap.size _ (by decide)).fs.mono (fun b hb hl => by omega), (Fresh.nil (β := Clash) w2.heap.size w2.heap.size _ (by decide)).fs.mono (fun b hb hl => by omega), fun _ h _ => h, fun b hb => by rcases hb with h | h <;> exact h.elim, rfl, rfl⟩, Below.refl _ _⟩
    case round =>
      obtain ⟨⟨k, ol, cs, S1, S2, hk, rfl, hol, hcs, hF1, hF2, hdis, hbd, HF, HC⟩, hbr⟩ := hrel
      obtain ⟨ao, co, rfl, _⟩ := rd_slice_elim hF1.rd
      obtain ⟨ac, cc, rfl, _⟩ := rd_slice_elim hF2.rd
      have hsr := hbr.size
      have hBr := hB2.trans (hbr.mono hs2)
      by_cases hlt : k < ps.length
      · obtain ⟨g, off, rfl, hcp, hzp⟩ := (hpr.keep hbr).str hlt
        have hFy := fun x h => joinF_yes (x := x) HF.out hlt h
        have hFn := fun h => joinF_no HF.out hlt h
        have hCy := fun n e h => joinC_yes HC.out hlt (n := n) e h
        have hCn := fun h => joinC_no HC.out hlt h
        have hk3 := joinOne_kind (getT o ps[k]) (getT a ps[k]) (getT b ps[k])
        obtain ⟨p, hp⟩ : ∃ p, p = ps[k] := ⟨_, rfl⟩
        rw [← hp] at hcp hzp hFy hFn hCy hCn hk3
        obtain ⟨O, hO⟩ : ∃ O, getT o p = O := ⟨_, rfl⟩
        obtain ⟨A, hA⟩ : ∃ A, getT a p = A := ⟨_, rfl⟩
        obtain ⟨Q, hQ⟩ : ∃ Q, getT b p = Q := ⟨_, rfl⟩
        obtain ⟨R, hR⟩ : ∃ R, joinOne O A Q = R := ⟨_, rfl⟩
        have hRat : joinAt o a b p = R := by unfold joinAt; rw [hO, hA, hQ, hR]
        rw [hRat] at hFy hFn hCy hCn
        rw [hO, hA, hQ, hR] at hk3
        have HFY := Lib.hid hFy
        have HFN := Lib.hid hFn
        have HCY := Lib.hid hCy
        have HCN := Lib.hid hCn
        have HO := Lib.hid hO
        have HA := Lib.hid hA
        have HQ := Lib.hid hQ
        have HR := Lib.hid hR
        clear hp hFy hFn hCy hCn hRat HF HC hO hA hQ hR
        go_wp2_with fail
        refine (hasAt_any _ o p _ (h1.keep hBr).rd x1 HO.out).mono ?_
        rintro e w3 ⟨vo, rfl, hFo, hb3⟩
        have hs3 := hb3.size
        have hB3 := hBr.trans (hb3.mono hBr.size)
        go_wp2_with fail
        refine (hasAt_any _ a p _ (h2.keep hB3).rd x2 HA.out).mono ?_
        rintro e w4 ⟨va, rfl, hFa, hb4⟩
        have hs4 := hb4.size
        have hB4 := hB3.trans (hb4.mono hB3.size)
        go_wp2_with fail
        refine (hasAt_any _ b p _ (h3.keep hB4).rd x3 HQ.out).mono ?_
        rintro e w5 ⟨vq, rfl, hFq, hb5⟩
        have hs5 := hb5.size
        have hFo5 := (((hFo.below (Nat.le_refl _) hb4).below (by omega) hb5).mono (Nat.le_refl wr.heap.size) (by omega : w3.heap.size ≤ w5.heap.size))
        have hFa5 := ((hFa.below (Nat.le_refl _) hb5).mono hs3 (by omega : w4.heap.size ≤ w5.heap.size))
        have hFq5 := (hFq.mono (by omega : wr.heap.size ≤ w4.heap.size) (Nat.le_refl _))
        obtain ⟨ao1, co1, rfl, _⟩ := hFo5.shape
        obtain ⟨aa1, ca1, rfl, _⟩ := hFa5.shape
        obtain ⟨aq1, cq1, rfl, _⟩ := hFq5.shape
        have hb35 := hb3.trans ((hb4.mono hs3).trans (hb5.mono (by omega)))
        clear hFo hFa hFq hB3 hB4 hb3 hb4 hb5
        go_wp2_with fail
        refine (joinAt_any (B := wr.heap.size) _ _ _ O A Q _ hFo5 hFa5 hFq5 (by omega) HR.out).mono ?_
        rintro e w6 ⟨vr, rfl, hFr, hb6⟩
        have hs6 := hb6.size
        have hb36 := hb35.trans (hb6.mono (by omega))
        obtain ⟨ar, cr, rfl, _⟩ := hFr.shape
        obtain ⟨M, n⟩ := R
        simp only at hFr HFY HFN HCY HCN hk3 ⊢
        have hY : M.isSome = true → M = some (M.getD []) := by cases M <;> simp
        have hN : M.isSome = false → M = none := by cases M <;> simp
        obtain ⟨bm, hbm⟩ : ∃ bm, bm = M.isSome := ⟨_, rfl⟩
        obtain ⟨xm, hxm⟩ : ∃ xm, xm = M.getD [] := ⟨_, rfl⟩
        rw [← hbm] at hY hN ⊢
        rw [← hxm] at hY hFr ⊢
        have HFY := Lib.hid (fun h => HFY.out xm (hY h))
        have HFN := Lib.hid (fun h => HFN.out (hN h))
        clear hFo5 hFa5 hFq5 hb35 hb6 HO HA HQ HR hY hN hbm hxm
        obtain ⟨wb, hwb⟩ : ∃ wb, wb = w6.alloc (.cells #[.slice ar xm.length cr, .bool bm] 85) := ⟨_, rfl⟩
        obtain ⟨hb7, hs7, hq⟩ := boxed (vs := [.slice ar xm.length cr, .bool bm]) hwb
        have y0 := hq 0 _ rfl
        have y1 := hq 1 _ rfl
        have z0 := y0
        have z1 := y1
        rw [hwb] at z0 z1
        have hb37 := hb36.trans (hb7.mono (by omega))
        have hbd1 : ∀ b, S1 b → w2.heap.size ≤ b ∧ b < wr.heap.size := fun b h => hbd b (.inl h)
        have hbd2 : ∀ b, S2 b → w2.heap.size ≤ b ∧ b < wr.heap.size := fun b h => hbd b (.inr h)
        have hF1 := hF1.below hb37 (fun b h _ => (hbd1 b h).2)
        have hF2 := hF2.below hb37 (fun b h _ => (hbd2 b h).2)
        have hFt : FS (fun b => wr.heap.size ≤ b ∧ b < w6.heap.size) wb [.slice ar xm.length cr] xm := (hFr.below (Nat.le_refl _) hb7).fs
        have HWB := Lib.hid hwb
        have HS7 := Lib.hid hs7
        have hsb : w6.heap.size < wb.heap.size := by omega
        have hBB := hbr.trans (hb37.mono hsr)
        clear hwb hq hFr hb7 hb36 hs7
        have hFL : FS (fun b => wr.heap.size ≤ b ∧ b < w6.heap.size) wb [.string p, .slice ar xm.length cr] (⟨p, xm⟩ : File) := FS.consL (x := p) (y := xm) (show Go.Vc.Own.own [] wb [.string p] p from ⟨rfl, rfl, hzp⟩) hFt
        by_cases hn : n = 0
        · have hne : ((n : Int) != 0) = false := nz_f (by omega)
          have HC2 := Lib.hid (HCN.out hn)
          cases bm with
          | false =>
            have HF2 := Lib.hid (HFN.out rfl)
            clear HFY HFN HCY HCN hFL hFt
            go_wp2
            rw [← HWB.out]
            go_roundw
            case rel => exact ⟨⟨k + 1, ol, cs, S1, S2, by omega, by go_num, by omega, by omega, hF1, hF2, hdis, fun b hb => by have := hbd b hb; omega, HF2.out, HC2.out⟩, hBB⟩
            case measure => simp [intOf] <;> omega
          | true =>
            have HF2 := Lib.hid (HFY.out rfl)
            clear HFY HFN HCY HCN hFt
            go_wp2_with (at_builtin; rw [← HWB.out]; go_must (refine wpList_app_oneS slz_file.slt rfl (.tmp 52) (.tmp 57) rfl rfl (hF1.alloc _) rfl (heap_new_at (by have := HS7.out; omega)) (hFL.alloc _) (fun b h1 h2 _ => by have := hbd1 b h1; have h3 : wr.heap.size ≤ b ∧ b < w6.heap.size := h2; omega) (by omega) (by unfold maxLen; omega) ?_); intro a9 c9 w9 g1 g2 g3)
            have hs9 := (g2 0 (Nat.zero_le _) (fun _ _ _ => Nat.zero_le _)).size
            rw [World.size_alloc] at hs9
            have hB9 := (hBB.alloc (by omega) _).trans (g2 w2.heap.size (by simp; omega) (fun b h _ => (hbd1 b h).1))
            have hF29 : FS S2 w9 [.slice ac cs.length cc] cs := (hF2.alloc _).keep fun b h hl => g3 b hl fun h1 => hdis b h1 h
            have hF19 := g1.mono (T := fun b => (S1 b ∨ (wr.heap.size ≤ b ∧ b < w6.heap.size) ∨ wb.heap.size ≤ b) ∧ b < w9.heap.size) (fun b h hl => ⟨by rcases h with h | h | h; exact .inl h; exact .inr (.inl h); exact .inr (.inr (by simp at h; omega)), hl⟩)
            go_roundw
            case rel => exact ⟨⟨k + 1, ol ++ [(⟨p, xm⟩ : File)], cs, _, S2, by omega, by go_num, by simp; omega, by omega, by simpa using hF19, hF29, fun b h h2 => by
                have h3 := hbd2 b h2
                rcases h.1 with h1 | h1 | h1
                · exact hdis b h1 h2
                · have h4 : wr.heap.size ≤ b ∧ b < w6.heap.size := h1; omega
                · omega, fun b h => by
                rcases h with h | h
                · have h9 := h.2
                  rcases h.1 with h1 | h1 | h1
                  · have := hbd1 b h1; omega
                  · have h4 : wr.heap.size ≤ b ∧ b < w6.heap.size := h1; omega
                  · omega
                · have := hbd2 b h; omega, HF2.out, HC2.out⟩, hB9⟩
            case measure => simp [intOf] <;> omega
        · have hne : ((n : Int) != 0) = true := nz_t (by omega)
          have HC2 := Lib.hid (HCY.out n rfl hn)
          have hi64 := i64_small hk3
          cases bm with
          | false =>
            have HF2 := Lib.hid (HFN.out rfl)
            clear HFY HFN HCY HCN hFL hFt
            go_wp2_with (at_builtin; rw [← HWB.out]; go_must (refine wpList_app_leafS slz_clash.slt rfl (.tmp 44) (.tmp 48) rfl rfl (hF2.alloc _) rfl rfl (lit_clash (c := ⟨p, (n : Int)⟩) (heap_new_at (by have := HS7.out; omega)) hzp hi64) (by simp; omega) (by unfold maxLen; simp; omega) ?_); intro a7 c7 w7 hG7; have y0 := hG7.cell (keepc y0 ((Below.refl _ _).alloc (Nat.le_refl _) (.cells #[.string p, .int .i64 n] 46))) (fun h => by have := hbd2 _ h; simp at this; omega); have y1 := hG7.cell (keepc y1 ((Below.refl _ _).alloc (Nat.le_refl _) (.cells #[.string p, .int .i64 n] 46))) (fun h => by have := hbd2 _ h; simp at this; omega))
            have hs7' := hG7.size
            rw [World.size_alloc] at hs7'
            have hB7 := (hBB.alloc (by omega) _).trans (hG7.below w2.heap.size (by simp; omega) (fun b h _ => (hbd2 b h).1))
            have hF17 : FS S1 w7 [.slice ao ol.length co] ol := (hF1.alloc _).keep fun b h hl => hG7.rest b hl fun h2 => hdis b h h2
            have hF27 := hG7.fs.mono (T := fun b => (S2 b ∨ wb.heap.size ≤ b) ∧ b < w7.heap.size) (fun b h hl => ⟨by rcases h with h | h; exact .inl h; exact .inr (by simp at h; omega), hl⟩)
            go_roundw
            case rel => exact ⟨⟨k + 1, ol, cs ++ [(⟨p, (n : Int)⟩ : Clash)], S1, _, by omega, by go_num, by omega, by simp; omega, hF17, by simpa using hF27, fun b h h2 => by
                have h3 := hbd1 b h
                rcases h2.1 with h1 | h1
                · exact hdis b h h1
                · omega, fun b h => by
                rcases h with h | h
                · have := hbd1 b h; omega
                · have h9 := h.2
                  rcases h.1 with h1 | h1
                  · have := hbd2 b h1; omega
                  · omega, HF2.out, HC2.out⟩, hB7⟩
            case measure => simp [intOf] <;> omega
          | true =>
            have HF2 := Lib.hid (HFY.out rfl)
            clear HFY HFN HCY HCN hFt
            go_wp2_with (first | (at_builtin; rw [← HWB.out]; go_must (refine wpList_app_leafS slz_clash.slt rfl (.tmp 44) (.tmp 48) rfl rfl (hF2.alloc _) rfl rfl (lit_clash (c := ⟨p, (n : Int)⟩) (heap_new_at (by have := HS7.out; omega)) hzp hi64) (by simp; omega) (by unfold maxLen; simp; omega) ?_); intro a7 c7 w7 hG7; have y0 := hG7.cell (keepc y0 ((Below.refl _ _).alloc (Nat.le_refl _) (.cells #[.string p, .int .i64 n] 46))) (fun h => by have := hbd2 _ h; simp at this; omega); have y1 := hG7.cell (keepc y1 ((Below.refl _ _).alloc (Nat.le_refl _) (.cells #[.string p, .int .i64 n] 46))) (fun h => by have := hbd2 _ h; simp at this; omega); have hs7' := hG7.size; rw [World.size_alloc] at hs7'; have hB7 := (hBB.alloc (by omega) _).trans (hG7.below w2.heap.size (by simp; omega) (fun b h _ => (hbd2 b h).1)); have hF17 : FS S1 w7 [.slice ao ol.length co] ol := (hF1.alloc _).keep fun b h hl => hG7.rest b hl fun h2 => hdis b h h2; have hFL7 : FS (fun b => wr.heap.size ≤ b ∧ b < w6.heap.size) w7 [.string p, .slice ar xm.length cr] (⟨p, xm⟩ : File) := (hFL.alloc _).keep fun b h hl => hG7.rest b hl (fun h2 => (by have := hbd2 b h2; have h4 : wr.heap.size ≤ b ∧ b < w6.heap.size := h; omega)); have hF27 := hG7.fs.mono (T := fun b => (S2 b ∨ wb.heap.size ≤ b) ∧ b < w7.heap.size) (fun b h hl => ⟨by rcases h with h | h; exact .inl h; exact .inr (by simp at h; omega), hl⟩)) | (at_builtin; go_must (refine wpList_app_oneS slz_file.slt rfl (.tmp 52) (.tmp 57) rfl rfl (hF17.alloc _) rfl (heap_alloc_new _ _) (hFL7.alloc _) (fun b h1 h2 _ => (by have := hbd1 b h1; have h3 : wr.heap.size ≤ b ∧ b < w6.heap.size := h2; omega)) (by omega) (by unfold maxLen; omega) ?_); intro a9 c9 w9 g1 g2 g3))
            have hs9 := (g2 0 (Nat.zero_le _) (fun _ _ _ => Nat.zero_le _)).size
            rw [World.size_alloc] at hs9
            have hB9 := (hB7.alloc (by omega) _).trans (g2 w2.heap.size (by simp; omega) (fun b h _ => (hbd1 b h).1))
            have hF29 := (hF27.alloc _).keep (w' := w9) fun b h hl => g3 b hl fun h1 => (by
              rcases h.1 with h2 | h2
              · exact hdis b h1 h2
              · have := hbd1 b h1; omega)
            have hF19 := g1.mono (T := fun b => (S1 b ∨ (wr.heap.size ≤ b ∧ b < w6.heap.size) ∨ w7.heap.size ≤ b) ∧ b < w9.heap.size) (fun b h hl => ⟨by rcases h with h | h | h; exact .inl h; exact .inr (.inl h); exact .inr (.inr (by simp at h; omega)), hl⟩)
            go_roundw
            case rel => exact ⟨⟨k + 1, ol ++ [(⟨p, xm⟩ : File)], cs ++ [(⟨p, (n : Int)⟩ : Clash)], _, _, by omega, by go_num, by simp; omega, by simp; omega, by simpa using hF19, by simpa using hF29, fun b h h2 => by
                have h9 := h2.2
                rcases h.1 with h1 | h1 | h1
                · have := hbd1 b h1
                  rcases h2.1 with h3 | h3
                  · exact hdis b h1 h3
                  · omega
                · have h4 : wr.heap.size ≤ b ∧ b < w6.heap.size := h1
                  rcases h2.1 with h3 | h3
                  · have := hbd2 b h3; omega
                  · omega
                · omega, fun b h => by
                rcases h with h | h
                · have h9 := h.2
                  rcases h.1 with h1 | h1 | h1
                  · have := hbd1 b h1; omega
                  · have h4 : wr.heap.size ≤ b ∧ b < w6.heap.size := h1; omega
                  · omega
                · have h9 := h.2
                  rcases h.1 with h1 | h1
                  · have := hbd2 b h1; omega
                  · omega, HF2.out, HC2.out⟩, hB9⟩
            case measure => simp [intOf] <;> omega
      · have HF1 := Lib.hid (joinF_end HF.out hlt)
        have HC1 := Lib.hid (joinC_end HC.out hlt)
        have hbd1 : ∀ b, S1 b → w2.heap.size ≤ b ∧ b < wr.heap.size := fun b h => hbd b (.inl h)
        have hbd2 : ∀ b, S2 b → w2.heap.size ≤ b ∧ b < wr.heap.size := fun b h => hbd b (.inr h)
        have hFr := hF1.fresh (B := w.heap.size) (m := wr.heap.size) (fun b h _ => by have := hbd1 b h; omega)
        have hCr := hF2.rd
        have HE := Lib.hid (show ¬ cs = [] ∨ treeB ol = true → joinOf o a b = (ol, cs) from fun h => by
          rw [joinOf_ok HT.out (by rw [← HPS.out, HF1.out, HC1.out]; exact h), ← HPS.out, HF1.out, HC1.out])
        have HE2 := Lib.hid (show cs = [] → treeB ol = false → joinOf o a b = (o, [⟨⟨#[]⟩, 4⟩]) from fun h h2 => joinOf_tree HT.out (by rw [← HPS.out, HC1.out]; exact h) (by rw [← HPS.out, HF1.out]; exact h2))
        have HSO := Lib.hid (show ∀ f, f ∈ ol → ShortS f.path from fun f hf => hSp f.path (joinF_path (o := o) (a := a) (b := b) (by rw [HF1.out]; exact hf)))
        clear HF HC HF1 HC1 hF1 hF2
        by_cases h0 : cs.length = 0
        · have hd0 : ((cs.length : Int) == 0) = true := by simp [h0]
          obtain rfl := List.eq_nil_of_length_eq_zero h0
          cases ht : treeB ol with
          | true =>
            have HR := Lib.hid (HE.out (.inr ht))
            go_wp2_with fail
            refine (treeOk_is _ ol _ hFr.rd HSO.out (hM.keep hBr) ht).mono ?_
            rintro e w3 ⟨rfl, hb3⟩
            have hs3 := hb3.size
            have hFr := (hFr.below (Nat.le_refl _) hb3).now
            go_wp2
            go_ret2
            exact ⟨.slice ao ol.length co, .slice ac 0 cc, rfl, by rw [HR.out]; exact hFr, by rw [HR.out]; exact Rep.frame (fun b h hl => ⟨hb3.block b hl, by have := hbd2 b h; omega⟩) hCr, hBr.trans (hb3.mono hBr.size)⟩
          | false =>
            have HR := Lib.hid (HE2.out rfl ht)
            go_wp2_with fail
            refine (treeOk_is _ ol _ hFr.rd HSO.out (hM.keep hBr) ht).mono ?_
            rintro e w3 ⟨rfl, hb3⟩
            have hs3 := hb3.size
            have hB3 := hBr.trans (hb3.mono hBr.size)
            go_wp2_with fail
            refine (copyTree_any _ o _ (h1.keep hB3).rd (by omega) x1).mono ?_
            rintro e w4 ⟨v4, rfl, hC, hb4⟩
            have hs4 := hb4.size
            have hB4 := hB3.trans (hb4.mono hB3.size)
            obtain ⟨a4, c4, rfl, _⟩ := hC.shape
            go_wp2
            go_ret2
            exact ⟨.slice a4 o.length c4, _, rfl, by rw [HR.out]; exact (hC.alloc _).mono (by omega) (by simp), by rw [HR.out]; exact ((lit_clash (c := ⟨⟨#[]⟩, 4⟩) (heap_alloc_new _ _) (Nat.zero_le _) ⟨by decide, by decide⟩).mono (fun b hb => by subst hb; simp; omega)).rd, hB4.alloc (by omega) _⟩
        · have hd0 : ((cs.length : Int) == 0) = false := by rw [beq_eq_false_iff_ne]; omega
          have HR := Lib.hid (HE.out (.inl (fun e => h0 (by rw [e]; rfl))))
          go_wp2
          go_ret2
          exact ⟨.slice ao ol.length co, .slice ac cs.length cc, rfl, by rw [HR.out]; exact hFr, by rw [HR.out]; exact Rep.frame (fun b h hl => ⟨rfl, by have := hbd2 b h; omega⟩) hCr, hBr⟩
end Go.Proofs.YtegknjcifmenpaaGreatDoor
