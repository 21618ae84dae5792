/-
  Walks: what the law of a move draws.
-/
import Derived.Test.YtfpneepnnoldeaaDoorDrawTL
set_option linter.unusedVariables false
namespace Go.Proofs.YtfpneepnnoldeaaDoor
open Go.RowKit Go.Vc
open Go.Vc.Rep (rd)
open Go.Vc.Own (own)
/-- a tree and two paths drawn -/
def TreePaths (w : World) (e : Ending) (w' : World) : Prop :=
  ∃ (v : Value) (t : List File) (s d : ByteArray), e = .returned (.tuple #[v, .string s, .string d]) ∧ SmallF t ∧ s.size ≤ 100 ∧ d.size ≤ 100 ∧ rd (fun b => w.heap.size ≤ b) w' [v] t ∧ Below w.heap.size w w'
set_option maxHeartbeats 4000000 in
set_option maxRecDepth 100000 in
theorem drawTreeMove_any {S : Nat → Prop} (v : Value) (bs : List UInt8) (w : World) (hv : rd S w [v] bs) (hl : bs.length ≤ 1048576) :
    Calls Tryd.prog 36 #[v] w (TreePaths w) := by
  go_enter Tryd.func36, Tryd.ntmps36
  go_wp2_with fail
  refine (l30Open_any v bs w hv hl).mono ?_
  rintro e w1 ⟨rfl, hr, hb, hsz'⟩
  have hsz : w.heap.size < w1.heap.size := by omega
  clear hsz'
  go_wp2_with fail
  refine (l30AnyTree_any _ _ _ hr (by omega)).mono ?_
  rintro e w2 ⟨u, t, rfl, hS, ht, hd, hr⟩
  obtain ⟨a2, c2, hu2, _⟩ := rd_slice_elim ht
  subst hu2
  have hs2 := hd.size
  go_wp2_with fail
  refine (l30AnyPath_any _ _ _ hr (by omega)).mono ?_
  rintro e w3 ⟨s0, rfl, hs0, hd3, hr3⟩
  have ht := hd3.rdS ht (fun b hb => by omega)
  have hd4 := hd.tr hd3
  have hs3 := hd3.size
  go_wp2_with fail
  refine (of_any (S := fun b => b = w3.heap.size) _ _ _ [⟨#[100]⟩, ⟨#[103]⟩, ⟨#[103, 47, 104]⟩, s0] _ (hr3.alloc _) (by omega)
    (lit_strs ([⟨#[100]⟩, ⟨#[103]⟩, ⟨#[103, 47, 104]⟩, s0] : List ByteArray) (heap_alloc_new _ _) (fun x hx => ?_) (by unfold maxLen; simp)).rd (by intro b hb; omega) (by simp) (by simp)).mono ?_
  · have : x.size ≤ 100 := by
      simp only [List.mem_cons, List.not_mem_nil, or_false] at hx
      rcases hx with rfl | rfl | rfl | rfl
      · decide
      · decide
      · decide
      · exact hs0
    unfold maxLen; omega
  rintro e w4 ⟨s, rfl, hm, _, hd5, hr4⟩
  have hs : s.size ≤ 100 := by
    simp only [List.mem_cons, List.not_mem_nil, or_false] at hm
    rcases hm with rfl | rfl | rfl | rfl
    · decide
    · decide
    · decide
    · exact hs0
  have hd5 := (Drew.of ((Below.refl w3.heap.size w3).alloc (Nat.le_refl _) _)).tr hd5
  have ht := hd5.rdS ht (fun b hb => by omega)
  have hd6 := hd4.tr hd5
  have hs4 := hd5.size
  clear hm hr3 hd5 hd4 hd3 hd
  by_cases hpos : 0 < t.length
  · have hpos' : decide (0 < t.length) = true := decide_eq_true hpos
    go_wp2_with fail
    refine (pick_any _ _ _ _ hr4 (by omega) (by omega)).mono ?_
    rintro e w5 ⟨q, rfl, _, hd7, hr⟩
    have ht := hd7.rdS ht (fun b hb => by omega)
    have hd6 := hd6.tr hd7
    have hs5 := hd7.size
    clear hd7 hr4
    by_cases hq0 : q = 0
    · subst hq0
      go_wp2_with fail
      refine (pick_any _ _ _ _ hr (by omega) (by have := hS.1; omega)).mono ?_
      rintro e w6 ⟨j, rfl, hj, hd7, hr⟩
      have ht := hd7.rdS ht (fun b hb => by omega)
      have hd6 := hd6.tr hd7
      have hs6 := hd7.size
      have hjl : j < t.length := by omega
      obtain ⟨g, off, at_, ct, hag, hc1, _⟩ := (rd_slice_of ht).2.file hjl
      subst hag
      obtain ⟨p, hpe⟩ : ∃ p, p = t[j].path := ⟨_, rfl⟩
      have hp : p.size ≤ 100 := by rw [hpe]; exact (hS.2 _ (List.getElem_mem hjl)).1
      rw [← hpe] at hc1
      clear hj hd7 hpe
      go_wp2_with fail
      refine (l30AnyPath_any _ _ _ hr (by omega)).mono ?_
      rintro e w7 ⟨d0, rfl, hd0, hd7, hr7⟩
      have ht := hd7.rdS ht (fun b hb => by omega)
      have hd8 := hd6.tr hd7
      have hs7 := hd7.size
      go_wp2_with fail
      refine (of_any (S := fun b => b = w7.heap.size) _ _ _ [⟨#[113]⟩, ⟨#[100]⟩, ⟨#[103, 47, 104]⟩, ⟨#[97, 47, 113]⟩, d0] _ (hr7.alloc _) (by omega)
        (lit_strs ([⟨#[113]⟩, ⟨#[100]⟩, ⟨#[103, 47, 104]⟩, ⟨#[97, 47, 113]⟩, d0] : List ByteArray) (heap_alloc_new _ _) (fun x hx => ?_) (by unfold maxLen; simp)).rd (by intro b hb; omega) (by simp) (by simp)).mono ?_
      · have : x.size ≤ 100 := by
          simp only [List.mem_cons, List.not_mem_nil, or_false] at hx
          rcases hx with rfl | rfl | rfl | rfl | rfl
          · decide
          · decide
          · decide
          · decide
          · exact hd0
        unfold maxLen; omega
      rintro e w9 ⟨dst, rfl, hm, _, hd9, hr9⟩
      have hds : dst.size ≤ 100 := by
        simp only [List.mem_cons, List.not_mem_nil, or_false] at hm
        rcases hm with rfl | rfl | rfl | rfl | rfl
        · decide
        · decide
        · decide
        · decide
        · exact hd0
      have hd9 := (Drew.of ((Below.refl w7.heap.size w7).alloc (Nat.le_refl _) _)).tr hd9
      have ht := hd9.rdS ht (fun b hb => by omega)
      have hd10 := hd8.tr hd9
      clear hm hr7
      go_wp2
      refine bodyPost_ret (results_tmp3 rfl _ _ _) rfl ?_
      exact ⟨.slice (some ⟨g, off, none⟩) t.length c2, t, p, dst, rfl, hS, hp, hds, Rep.mono (fun b hb => by omega) ht, hb.trans (hd10.low (Nat.le_refl _) (by omega))⟩
    · have hq0' := nat_eq_f hq0
      obtain ⟨p, hpe⟩ : ∃ p, p = s := ⟨_, rfl⟩
      subst hpe
      have hp : p.size ≤ 100 := hs
      go_wp2_with fail
      refine (l30AnyPath_any _ _ _ hr (by omega)).mono ?_
      rintro e w7 ⟨d0, rfl, hd0, hd7, hr7⟩
      have ht := hd7.rdS ht (fun b hb => by omega)
      have hd8 := hd6.tr hd7
      have hs7 := hd7.size
      go_wp2_with fail
      refine (of_any (S := fun b => b = w7.heap.size) _ _ _ [⟨#[113]⟩, ⟨#[100]⟩, ⟨#[103, 47, 104]⟩, ⟨#[97, 47, 113]⟩, d0] _ (hr7.alloc _) (by omega)
        (lit_strs ([⟨#[113]⟩, ⟨#[100]⟩, ⟨#[103, 47, 104]⟩, ⟨#[97, 47, 113]⟩, d0] : List ByteArray) (heap_alloc_new _ _) (fun x hx => ?_) (by unfold maxLen; simp)).rd (by intro b hb; omega) (by simp) (by simp)).mono ?_
      · have : x.size ≤ 100 := by
          simp only [List.mem_cons, List.not_mem_nil, or_false] at hx
          rcases hx with rfl | rfl | rfl | rfl | rfl
          · decide
          · decide
          · decide
          · decide
          · exact hd0
        unfold maxLen; omega
      rintro e w9 ⟨dst, rfl, hm, _, hd9, hr9⟩
      have hds : dst.size ≤ 100 := by
        simp only [List.mem_cons, List.not_mem_nil, or_false] at hm
        rcases hm with rfl | rfl | rfl | rfl | rfl
        · decide
        · decide
        · decide
        · decide
        · exact hd0
      have hd9 := (Drew.of ((Below.refl w7.heap.size w7).alloc (Nat.le_refl _) _)).tr hd9
      have ht := hd9.rdS ht (fun b hb => by omega)
      have hd10 := hd8.tr hd9
      clear hm hr7
      go_wp2
      refine bodyPost_ret (results_tmp3 rfl _ _ _) rfl ?_
      exact ⟨.slice a2 t.length c2, t, p, dst, rfl, hS, hp, hds, Rep.mono (fun b hb => by omega) ht, hb.trans (hd10.low (Nat.le_refl _) (by omega))⟩
  · have hpos' : decide (0 < t.length) = false := decide_eq_false hpos
    obtain ⟨p, hpe⟩ : ∃ p, p = s := ⟨_, rfl⟩
    subst hpe
    have hp : p.size ≤ 100 := hs
    have hr := hr4
    clear hr4
    go_wp2_with fail
    refine (l30AnyPath_any _ _ _ hr (by omega)).mono ?_
    rintro e w7 ⟨d0, rfl, hd0, hd7, hr7⟩
    have ht := hd7.rdS ht (fun b hb => by omega)
    have hd8 := hd6.tr hd7
    have hs7 := hd7.size
    go_wp2_with fail
    refine (of_any (S := fun b => b = w7.heap.size) _ _ _ [⟨#[113]⟩, ⟨#[100]⟩, ⟨#[103, 47, 104]⟩, ⟨#[97, 47, 113]⟩, d0] _ (hr7.alloc _) (by omega)
      (lit_strs ([⟨#[113]⟩, ⟨#[100]⟩, ⟨#[103, 47, 104]⟩, ⟨#[97, 47, 113]⟩, d0] : List ByteArray) (heap_alloc_new _ _) (fun x hx => ?_) (by unfold maxLen; simp)).rd (by intro b hb; omega) (by simp) (by simp)).mono ?_
    · have : x.size ≤ 100 := by
        simp only [List.mem_cons, List.not_mem_nil, or_false] at hx
        rcases hx with rfl | rfl | rfl | rfl | rfl
        · decide
        · decide
        · decide
        · decide
        · exact hd0
      unfold maxLen; omega
    rintro e w9 ⟨dst, rfl, hm, _, hd9, hr9⟩
    have hds : dst.size ≤ 100 := by
      simp only [List.mem_cons, List.not_mem_nil, or_false] at hm
      rcases hm with rfl | rfl | rfl | rfl | rfl
      · decide
      · decide
      · decide
      · decide
      · exact hd0
    have hd9 := (Drew.of ((Below.refl w7.heap.size w7).alloc (Nat.le_refl _) _)).tr hd9
    have ht := hd9.rdS ht (fun b hb => by omega)
    have hd10 := hd8.tr hd9
    clear hm hr7
    go_wp2
    refine bodyPost_ret (results_tmp3 rfl _ _ _) rfl ?_
    exact ⟨.slice a2 t.length c2, t, p, dst, rfl, hS, hp, hds, Rep.mono (fun b hb => by omega) ht, hb.trans (hd10.low (Nat.le_refl _) (by omega))⟩
end Go.Proofs.YtfpneepnnoldeaaDoor
