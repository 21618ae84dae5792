/-
  Walks: what is drawn of a list, a line, a text.
-/
import Derived.Test.YtlokkbllplhlbaaDraw1
namespace Go.Proofs.Ytlokkbllplhlbaa
open Go.RowKit Go.Vc
open Go.Vc.Rep (rd)
open Go.Vc.Own (own)

/-- a literal of strings -/
theorem lit_strs {w : World} {g : Nat} {e : TypeId} (ss : List ByteArray) (h : w.heap[g]? = some (.cells (ss.map Value.string).toArray e (0, 0))) (hz : ∀ s ∈ ss, s.size ≤ maxLen) (hl : ss.length ≤ maxLen) :
    IsSlice (fun b => b = g) w (some ⟨g, 0, none⟩) ss.length ss := by
  refine ⟨Nat.le_refl _, hl, fun i hi => ⟨g, 0, [.string ss[i]], rfl, rfl, ?_, ⟨rfl, hz _ (List.getElem_mem hi)⟩, by decide⟩⟩
  intro j u hu
  have hj : j = 0 := by
    have := (List.getElem?_eq_some_iff.1 hu).1
    simpa using this
  subst hj
  simp at hu
  subst hu
  rw [cell_of_row w g _ _ e (0, 0) h]
  simp [Rep.sz, hi]
/-- a literal of ints -/
theorem lit_ints {w : World} {g : Nat} {e : TypeId} (ss : List Int) (h : w.heap[g]? = some (.cells (ss.map (Value.int .i64)).toArray e (0, 0))) (hz : ∀ s ∈ ss, I64 s) (hl : ss.length ≤ maxLen) :
    IsSlice (fun b => b = g) w (some ⟨g, 0, none⟩) ss.length ss := by
  refine ⟨Nat.le_refl _, hl, fun i hi => ⟨g, 0, [.int .i64 ss[i]], rfl, rfl, ?_, ⟨rfl, hz _ (List.getElem_mem hi)⟩, by decide⟩⟩
  intro j u hu
  have hj : j = 0 := by
    have := (List.getElem?_eq_some_iff.1 hu).1
    simpa using this
  subst hj
  simp at hu
  subst hu
  rw [cell_of_row w g _ _ e (0, 0) h]
  simp [Rep.sz, hi]

set_option maxHeartbeats 1000000 in
theorem of_any {S : Nat → Prop} (rb N : Nat) (v : Value) (xs : List ByteArray) (w : World) (h : RdOk w rb N) (hN : N ≤ 1000000) (hv : rd S w [v] xs) (hS : ∀ b, S b → b ≠ rb) (h0 : 0 < xs.length) (hx : xs.length ≤ 1048576) :
    Calls Try.prog 82 #[.pointer (some ⟨rb, 0, none⟩), v] w fun e w' => ∃ s, e = .returned (.string s) ∧ s ∈ xs ∧ s.size ≤ maxLen ∧ Drew rb w w' ∧ RdOk w' rb (N + 1) := by
  obtain ⟨a, cap, rfl, hs⟩ := rd_slice_elim hv
  go_enter Try.func82, Try.ntmps82
  go_wp2_with fail
  refine (pick_any rb N _ _ h hN (by omega)).mono ?_
  rintro e w1 ⟨k, rfl, hk, hd, hr⟩
  have hlt : k < xs.length := by omega
  obtain ⟨g, off, rfl, hc, hsz⟩ := (hd.slice hs hS).str hlt
  go_wp2
  go_ret
  exact ⟨_, rfl, List.getElem_mem hlt, hsz, hd, hr⟩

set_option maxHeartbeats 1000000 in
theorem one_any {S : Nat → Prop} (rb N : Nat) (v : Value) (xs : List Int) (w : World) (h : RdOk w rb N) (hN : N ≤ 1000000) (hv : rd S w [v] xs) (hS : ∀ b, S b → b ≠ rb) (h0 : 0 < xs.length) (hx : xs.length ≤ 1048576) :
    Calls Try.prog 84 #[.pointer (some ⟨rb, 0, none⟩), v] w fun e w' => ∃ s, e = .returned (.int .i64 s) ∧ s ∈ xs ∧ Drew rb w w' ∧ RdOk w' rb (N + 1) := by
  obtain ⟨a, cap, rfl, hs⟩ := rd_slice_elim hv
  go_enter Try.func84, Try.ntmps84
  go_wp2_with fail
  refine (pick_any rb N _ _ h hN (by omega)).mono ?_
  rintro e w1 ⟨k, rfl, hk, hd, hr⟩
  have hlt : k < xs.length := by omega
  obtain ⟨g, off, rfl, hc, hsz⟩ := (hd.slice hs hS).int hlt
  go_wp2
  go_ret
  exact ⟨_, rfl, List.getElem_mem hlt, hd, hr⟩

set_option maxHeartbeats 1000000 in
theorem l30Line_any (rb N : Nat) (w : World) (h : RdOk w rb N) (hN : N ≤ 1000000) :
    Calls Try.prog 89 #[.pointer (some ⟨rb, 0, none⟩)] w fun e w' => ∃ s, e = .returned (.string s) ∧ s.size ≤ maxLen ∧ Drew rb w w' ∧ RdOk w' rb (N + 1) := by
  have hlt := h.lt
  go_enter Try.func89, Try.ntmps89
  go_wp2_with fail
  refine (of_any (S := fun b => b = w.heap.size) rb N _ [⟨#[97]⟩, ⟨#[98]⟩, ⟨#[99]⟩, ⟨#[100]⟩, ⟨#[]⟩, ⟨#[120, 32, 121]⟩, ⟨#[115, 101, 101, 32, 97]⟩, ⟨#[115, 101, 101, 32, 100, 47, 101]⟩, ⟨#[101, 110, 100]⟩] _ (h.alloc _) hN
    (lit_strs _ (heap_alloc_new _ _) (by decide) (by decide)).rd (by intro b hb; omega) (by decide) (by decide)).mono ?_
  rintro e w1 ⟨s, rfl, _, hs, hd, hr⟩
  go_wp2
  go_ret
  exact ⟨s, rfl, hs, (Drew.of ((Below.refl _ _).alloc (Nat.le_refl _) _)).tr hd, hr⟩

set_option maxHeartbeats 1000000 in
theorem l30Text_any (rb N : Nat) (w : World) (h : RdOk w rb N) (hN : N ≤ 999000) :
    Calls Try.prog 81 #[.pointer (some ⟨rb, 0, none⟩)] w fun e w' => ∃ (v : Value) (xs : List ByteArray), e = .returned v ∧ xs.length ≤ 8 ∧ Fresh w.heap.size w'.heap.size w' [v] xs ∧ Drew rb w w' ∧ RdOk w' rb (N + 20) := by
  have hlt := h.lt
  go_enter Try.func81, Try.ntmps81
  go_wp2_with fail
  refine (one_any (S := fun b => b = w.heap.size + 1) rb N _ [0, 1, 3, 5, 8] _ ((h.alloc _).alloc _) (by omega)
    (lit_ints _ (heap_new_at (by simp)) (by intro s hs; simp at hs; unfold I64; omega) (by decide)).rd (by intro b hb; omega) (by decide) (by decide)).mono ?_
  rintro e w1 ⟨s, rfl, hs, hd, hr⟩
  obtain ⟨k, rfl, hk⟩ : ∃ k : Nat, s = (k : Int) ∧ k ≤ 8 := ⟨s.toNat, by simp at hs; omega, by simp at hs; omega⟩
  have hd0 : Drew rb w w1 := (Drew.of (((Below.refl _ _).alloc (Nat.le_refl _) _).alloc (by simp) _)).tr hd
  have hF0 : Fresh w.heap.size w1.heap.size w1 [.slice (some ⟨w.heap.size, 0, none⟩) 0 0] ([] : List ByteArray) :=
    (hd.fresh ((Fresh.empty (by decide) _ _ (Nat.le_refl _)).alloc _) (.inl hlt)).now
  clear hs hd
  go_wp2
  go_loopw [3, 4] (fun out n wr => (∃ (xs : List ByteArray) (k : Nat), n = .int .i64 k ∧ xs.length + k ≤ 8 ∧ Fresh w.heap.size wr.heap.size wr [out] xs ∧ RdOk wr rb (N + 1 + xs.length)) ∧ Drew rb w wr) (fun _ n _ => (intOf n).toNat)
  case atStart => exact ⟨⟨[], k, rfl, by simpa using hk, hF0, hr⟩, hd0⟩
  case round =>
    obtain ⟨⟨xs, k, rfl, hk, hF, hr⟩, hd⟩ := hrel
    have hsz := hd.size
    by_cases hlt2 : 0 < k
    · go_wp2_with fail
      refine (l30Line_any rb _ _ hr (by omega)).mono ?_
      rintro e w2 ⟨s, rfl, hs, hd2, hr2⟩
      have hF2 := (hd2.fresh hF (.inl hlt)).now
      have hd3 := hd.tr hd2
      have hsz3 := hd3.size
      have hsrc : IsSlice (fun b => b = w2.heap.size) (w2.alloc (.cells #[.string s] (Tid.tid ByteArray))) (some ⟨w2.heap.size, 0, none⟩) 1 [s] := lit_strs [s] (heap_alloc_new _ _) (by simpa using hs) (by unfold maxLen; simp)
      go_wp2_with (at_builtin; go_must (refine wpList_app_leaf slz_string.slt rfl (.tmp 13) (.tmp 16) rfl rfl (hF2.alloc _) (le_alloc hsz3 _) rfl rfl hsrc (by simp <;> omega) (by unfold maxLen; simp <;> omega) ?_); intro a4 c4 w4 hG4)
      go_roundw
      case rel => exact ⟨⟨xs ++ [s], k - 1, by go_num, by simp; omega, hG4.fresh, ((hr2.alloc _).below hlt hG4.below).mono (by simp; omega)⟩, (hd3.belowB ((Below.refl _ _).alloc (Nat.le_refl _) _) hsz3).belowB hG4.below (Nat.le_refl _)⟩
      case measure => simp [intOf]; omega
    · go_wp2
      go_ret
      exact ⟨_, xs, rfl, by omega, hF, hd, hr.mono (by omega)⟩
end Go.Proofs.Ytlokkbllplhlbaa
