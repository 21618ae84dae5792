/-
  The library's sorted keys of a map that counts texts: the names in order, in new memory.
-/
import Derived.Test.YthhmaclhggmneaaGreatDoorShelfI
import Derived.Test.YthhmaclhggmneaaGreatDoorTypes
import Derived.Test.YthhmaclhggmneaaGreatDoorVB
import Derived.Test.YthhmaclhggmneaaGreatDoorVW1
import Derived.Maps.OwnOps
set_option linter.unusedVariables false
namespace Go.Vc
open Go.RowKit Go.Maps Go.Proofs
open Rep (rd)
open Own (own)
theorem strs_ownAllW {w : World} : ∀ (xs : List ByteArray), (∀ x, x ∈ xs → x.size ≤ maxLen) → ownAll w (xs.map fun _ => []) (xs.map fun x => [Value.string x]) xs
  | [], _ => trivial
  | x :: xs, h => ⟨⟨rfl, rfl, h x (List.mem_cons_self ..)⟩, strs_ownAllW xs fun y hy => h y (List.mem_cons_of_mem _ hy)⟩
theorem flat_strsW : ∀ (xs : List ByteArray), (xs.map fun x => [Value.string x]).flatten = xs.map Value.string
  | [] => rfl
  | x :: xs => by rw [List.map_cons, List.flatten_cons, flat_strsW xs]; rfl
theorem flat_nilsW : ∀ (xs : List ByteArray), (xs.map fun _ => ([] : List Nat)).flatten = []
  | [] => rfl
  | x :: xs => by rw [List.map_cons, List.flatten_cons, flat_nilsW xs]; rfl
/-- a row of texts that the call owns -/
theorem fresh_row [Tid ByteArray] {w : World} {B n : Nat} {v : Value} {xs : List ByteArray} (hn : n = xs.length) (h : w.ownsRow B (Tid.tid ByteArray) 1 v n (xs.map Value.string)) (hz : ∀ x, x ∈ xs → x.size ≤ maxLen) :
    Fresh B w.heap.size w [v] xs := by
  subst hn
  rcases h.2 with ⟨rfl, hn⟩ | ⟨g, cap, cur, rfl, hBg, hg, hnc, hcm, hcs, ht⟩
  · rw [List.eq_nil_of_length_eq_zero hn]
    exact Fresh.nil (β := ByteArray) _ _ _ Nat.one_pos
  · refine ⟨[g], ⟨_, xs.map fun x => [Value.string x], xs.map fun _ => [], rfl, ?_, by rw [flat_nilsW]; rfl, strs_ownAllW xs hz, Nat.one_pos⟩, by simp, fun b hb => ?_⟩
    · rw [flat_strsW]
      exact ⟨h.1, .inr ⟨g, cap, cur, rfl, Nat.zero_le _, hg, hnc, hcm, hcs, ht⟩⟩
    · rw [List.mem_singleton] at hb
      subst hb
      exact ⟨hBg, (Array.getElem?_eq_some_iff.1 hg).1⟩
theorem size_map {P : Program} {k : TypeId} {R : Value → Option (DataW Unit × List MemPlace)} {w : World} {b n : Nat} {D : DataW Unit} (h : w.ownsMap P k R b n D) : Maps.size D ≤ n := by
  obtain ⟨es, clock, _, _, hs, rfl⟩ := h
  show (List.foldr DataW.insert [] _).length ≤ n
  rw [length_sorted, List.length_map, Array.length_toList]
  exact hs
theorem keysOf_str {P : Program} {k : TypeId} (hk : P.underlying k = some .string) {R : Value → Option (DataW Unit × List MemPlace)} {w : World} {b n : Nat} {D : DataW Unit} (h : w.ownsMap P k R b n D) : ∀ es, D = .map es → ∀ p ∈ es, ∃ x, p.1 = .string x := by
  obtain ⟨es', rfl, hall⟩ := h.keysOf
  intro es he p hp
  cases he
  obtain ⟨v, hv⟩ := hall p hp
  obtain ⟨x, _, hx, _⟩ := Maps.keyOf_str hk hv
  exact ⟨x, hx⟩
end Go.Vc
namespace Go.Proofs.YthhmaclhggmneaaGreatDoor
open Go.RowKit Go.Vc Go.Maps
open Go.Vc.Rep (rd)
open Go.Vc.Own (own)
theorem keyS : Keyed Tryz.prog 9 := string_keyed Tryz.underlying9
theorem zeroI (w : World) : (zeroValue 3).run Tryz.prog w = .ok (.int .i64 0) w := by kernel_rfl
theorem keys_any (b : Nat) (w : World) :
    Calls Tryz.prog 20 #[.map (some b)] w fun e w' => e = .returned (.func (.func 38) #[] #[.pointer (some ⟨w.heap.size, 0, none⟩)]) ∧ w' = w.alloc (.cells #[.map (some b)] 50) :=
  (callsIn_wide (n := 5)).1 (Tryz.maps_Keys_20 (some b) w)
set_option maxHeartbeats 1000000 in
theorem sortedKeys_any (b nn : Nat) (D : DataW Unit) (ns : List ByteArray) (w : World) (hown : w.ownsMap Tryz.prog 9 (plainElem Tryz.prog 3) b nn D) (hc : CntD D ns) (hn : nn ≤ 1000) (hz : ∀ x ∈ ns, x.size ≤ maxLen) :
    Calls Tryz.prog 19 #[.func (.func 38) #[] #[.pointer (some ⟨w.heap.size, 0, none⟩)]] (w.alloc (.cells #[.map (some b)] 50)) fun e w' => ∃ v, e = .returned v ∧
      Fresh (w.heap.size + 1) w'.heap.size w' [v] ((whoF [] ns).map (·.who)) ∧ Below (w.heap.size + 1) (w.alloc (.cells #[.map (some b)] 50)) w' := by
  have hs := size_map hown
  refine ((callsIn_wide (n := 5)).1 (Tryz.slices_Sorted_keys_19_20 b nn D _ w hown (by unfold maxLen; omega) (by omega))).mono ?_
  rintro e w' ⟨v, ss, rfl, hS, hrow, _, hb⟩
  obtain ⟨h1, h2⟩ := sorted_keys (hown.tidy keyS) (keysOf_str Tryz.underlying9 hown) hc hS
  have hsz : (w.alloc (.cells #[.map (some b)] 50)).heap.size = w.heap.size + 1 := by simp
  rw [hsz] at hrow hb
  refine ⟨v, rfl, fresh_row (n := ss.length) (by rw [List.length_map]; exact h2) ?_ ?_, hb⟩
  · have e1 : (ss.mergeSort (fun x y => decide (x ≤ y))).map encStr = ((whoF [] ns).map (·.who)).map Value.string := by
      rw [h1, List.map_map, List.map_map]
      refine List.map_congr_left fun x _ => ?_
      show encStr x.who.data.toList = Value.string x.who
      simp [encStr]
    rw [e1] at hrow
    exact hrow
  · intro x hx
    exact hz x (((whoF_inv ns).2.1 x).1 hx)
end Go.Proofs.YthhmaclhggmneaaGreatDoor
