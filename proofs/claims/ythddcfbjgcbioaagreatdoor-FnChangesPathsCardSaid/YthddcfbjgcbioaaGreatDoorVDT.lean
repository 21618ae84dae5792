/-
  Walks: paths and trees drawn. / Walks: what the laws of trees draw. / Walks: what the law of a move draws. / Walk: what the law of a rule's move draws.
-/
import Derived.Test.YthddcfbjgcbioaaGreatDoorVDR
import Derived.Test.YthddcfbjgcbioaaGreatDoorVCT
import Derived.Test.YthddcfbjgcbioaaGreatDoorVR
import Derived.Test.YthddcfbjgcbioaaGreatDoorVFS
set_option linter.unusedVariables false
namespace Go.Proofs.YthddcfbjgcbioaaGreatDoor
open Go.RowKit Go.Vc
open Go.Vc.Rep (rd)
open Go.Vc.Own (own)

set_option maxHeartbeats 1000000 in
theorem l30Path_any (rb N : Nat) (w : World) (h : RdOk w rb N) (hN : N ≤ 1000000) :
    Calls Tryz.prog 39 #[.pointer (some ⟨rb, 0, none⟩)] w fun e w' => ∃ s, e = .returned (.string s) ∧ s.size ≤ 100 ∧ Drew rb w w' ∧ RdOk w' rb (N + 1) := by
  have hlt := h.lt
  go_enter Tryz.func39, Tryz.ntmps39
  go_wp2_with fail
  refine (of_any (S := fun b => b = w.heap.size) rb N _ [⟨#[97]⟩, ⟨#[98]⟩, ⟨#[100, 47, 101]⟩, ⟨#[100, 47, 102]⟩, ⟨#[103, 47, 104, 47, 105]⟩, ⟨#[103, 47, 107]⟩, ⟨#[122]⟩] _ (h.alloc _) hN
    (lit_strs _ (heap_alloc_new _ _) (by decide) (by decide)).rd (by intro b hb; omega) (by decide) (by decide)).mono ?_
  rintro e w1 ⟨s, rfl, hm, _, hd, hr⟩
  have hs : s.size ≤ 100 := (show ∀ s ∈ ([⟨#[97]⟩, ⟨#[98]⟩, ⟨#[100, 47, 101]⟩, ⟨#[100, 47, 102]⟩, ⟨#[103, 47, 104, 47, 105]⟩, ⟨#[103, 47, 107]⟩, ⟨#[122]⟩] : List ByteArray), s.size ≤ 100 by decide) s hm
  clear hm
  go_wp2
  go_ret
  exact ⟨s, rfl, hs, (Drew.of ((Below.refl _ _).alloc (Nat.le_refl _) _)).tr hd, hr⟩
set_option maxHeartbeats 1000000 in
theorem l30AnyPath_any (rb N : Nat) (w : World) (h : RdOk w rb N) (hN : N ≤ 990000) :
    Calls Tryz.prog 35 #[.pointer (some ⟨rb, 0, none⟩)] w fun e w' => ∃ s, e = .returned (.string s) ∧ s.size ≤ 100 ∧ Drew rb w w' ∧ RdOk w' rb (N + 2) := by
  have hlt := h.lt
  go_enter Tryz.func35, Tryz.ntmps35
  go_wp2_with fail
  refine (pick_any rb _ _ _ h (by omega) (by omega)).mono ?_
  rintro e w1 ⟨k, rfl, hk, hd1, hr1⟩
  have hs1 := hd1.size
  by_cases h0 : k = 0
  · subst h0
    go_wp2_with fail
    refine (of_any (S := fun b => b = w1.heap.size) rb _ _ [⟨#[]⟩, ⟨#[100]⟩, ⟨#[103]⟩, ⟨#[65]⟩, ⟨#[97, 47]⟩, ⟨#[97, 47, 98, 47, 99, 47, 100]⟩, ⟨#[116, 111, 111, 108, 111, 110, 103]⟩, ⟨#[103, 47, 104]⟩, ⟨#[100, 47, 101, 47, 102]⟩] _ (hr1.alloc _) (by omega)
      (lit_strs _ (heap_alloc_new _ _) (by decide) (by decide)).rd (by intro b hb; omega) (by decide) (by decide)).mono ?_
    rintro e w2 ⟨s, rfl, hm, _, hd2, hr2⟩
    have hs : s.size ≤ 100 := (show ∀ s ∈ ([⟨#[]⟩, ⟨#[100]⟩, ⟨#[103]⟩, ⟨#[65]⟩, ⟨#[97, 47]⟩, ⟨#[97, 47, 98, 47, 99, 47, 100]⟩, ⟨#[116, 111, 111, 108, 111, 110, 103]⟩, ⟨#[103, 47, 104]⟩, ⟨#[100, 47, 101, 47, 102]⟩] : List ByteArray), s.size ≤ 100 by decide) s hm
    clear hm
    go_wp2
    go_ret
    exact ⟨s, rfl, hs, (hd1.belowB ((Below.refl _ _).alloc (Nat.le_refl _) _) hs1).tr hd2, hr2.mono (by omega)⟩
  · have h0' := nat_eq_f h0
    go_wp2_with fail
    refine (l30Path_any rb _ _ hr1 (by omega)).mono ?_
    rintro e w2 ⟨s, rfl, hs, hd2, hr2⟩
    go_wp2
    go_ret
    exact ⟨s, rfl, hs, hd1.tr hd2, hr2.mono (by omega)⟩
theorem treeSet_ok {t : List File} (h : treeB t = true) (f : File) : treeB (treeSet t f) = true := by
  unfold treeSet
  rw [if_pos h]
  split
  · rename_i h2; exact h2
  · exact h
theorem treeSet_mem {t : List File} {f g : File} (h : g ∈ treeSet t f) : g = f ∨ g ∈ t := by
  unfold treeSet at h
  split at h
  · split at h
    · exact setG_mem h
    · exact .inr h
  · cases h

set_option maxHeartbeats 4000000 in
set_option maxRecDepth 100000 in
theorem l30Tree_any (rb N : Nat) (w : World) (h : RdOk w rb N) (hN : N ≤ 900000) :
    Calls Tryz.prog 34 #[.pointer (some ⟨rb, 0, none⟩)] w fun e w' => ∃ (v : Value) (xs : List File), e = .returned v ∧ treeB xs = true ∧ (∀ f, f ∈ xs → f.path.size ≤ 100) ∧ Fresh w.heap.size w'.heap.size w' [v] xs ∧ Drew rb w w' ∧ RdOk w' rb (N + 110) := by
  have hlt := h.lt
  have hE := Fresh.empty (β := File) (by decide) w.heap.size w (Nat.le_refl _)
  have hd0 : Drew rb w (w.alloc (.cells #[] (Tid.tid File))) := Drew.of ((Below.refl _ _).alloc (Nat.le_refl _) _)
  go_enter Tryz.func34, Tryz.ntmps34
  go_wp2_with fail
  refine (pick_any rb _ _ _ (h.alloc _) (by omega) (by omega)).mono ?_
  rintro e w1 ⟨k, rfl, hk, hd1, hr1⟩
  have hk5 : k ≤ 5 := by omega
  have hE1 : rd (fun b => w.heap.size ≤ b) w1 [.slice (some ⟨w.heap.size, 0, none⟩) 0 0] ([] : List File) := (hd1.fresh hE (.inl hlt)).rd
  have hd1 := hd0.tr hd1
  clear hd0 hk hE
  go_wp2
  go_loopw [3, 4] (fun t n wr => (∃ (xs : List File) (k : Nat), n = .int .i64 k ∧ k ≤ 5 ∧ treeB xs = true ∧ (∀ f, f ∈ xs → f.path.size ≤ 100) ∧ rd (fun b => w.heap.size ≤ b) wr [t] xs ∧ RdOk wr rb (N + 1 + 21 * (5 - k))) ∧ Drew rb w wr) (fun _ n _ => (intOf n).toNat)
  case atStart => exact ⟨⟨[], k, rfl, hk5, treeB_nil, (fun f hf => by cases hf), hE1, hr1.mono (by omega)⟩, hd1⟩
  case round =>
    clear hE1 hr1 hd1
    obtain ⟨⟨xs, k, rfl, hk, hT, hP, hr, hrd⟩, hd⟩ := hrel
    obtain ⟨wo, rfl⟩ : ∃ wo : World, wo = wr := ⟨_, rfl⟩
    obtain ⟨a2, c2, rfl, _⟩ := rd_slice_elim hr
    have hsz := hd.size
    by_cases hlt2 : 0 < k
    · go_wp2_with fail
      refine (l30Path_any rb _ _ hrd (by omega)).mono ?_
      rintro e w2 ⟨p, rfl, hp, hd2, hr2⟩
      have hr := hd2.rdS hr (fun b hb => by omega)
      have hs2 := hd2.size
      go_wp2_with fail
      refine (l30Text_any rb _ _ hr2 (by omega)).mono ?_
      rintro e w3 ⟨u, tx, rfl, htx, hF, hd3, hr3⟩
      have hr := hd3.rdS hr (fun b hb => by omega)
      have hs3 := hd3.size
      obtain ⟨a3, c3, rfl, _⟩ := hF.shape
      go_wp2_with fail
      refine (specTreeSet _ xs p _ tx _ hr (by unfold maxLen; omega) hF.rd (by omega)).mono ?_
      rintro e w4 ⟨v4, rfl, hS, hb4⟩
      have hd4 := ((hd.tr hd2).tr hd3).below hb4
      have hr4 := hr3.below (by omega) hb4
      have hT4 := treeSet_ok hT ⟨p, tx⟩
      have hP4 : ∀ f, f ∈ treeSet xs ⟨p, tx⟩ → f.path.size ≤ 100 := fun f hf => by
        rcases treeSet_mem hf with rfl | hf
        · exact hp
        · exact hP f hf
      go_wp2
      go_roundw
      case rel => exact ⟨⟨treeSet xs ⟨p, tx⟩, k - 1, by go_num, by omega, hT4, hP4, Rep.mono (fun b hb => by omega) hS, hr4.mono (by omega)⟩, hd4⟩
      case measure => simp [intOf] <;> omega
    · obtain ⟨h8, h10⟩ := tree_files hT
      go_wp2_with fail
      refine (l4Copy_any _ xs _ hr (by omega) h10).mono ?_
      rintro e w2 ⟨v2, rfl, hC, hb2⟩
      go_wp2
      go_ret
      exact ⟨v2, xs, rfl, hT, hP, hC.mono hsz (Nat.le_refl _), hd.below hb2, (hrd.below (by omega) hb2).mono (by omega)⟩

/-- files, not too many nor too long -/
def SmallF (xs : List File) : Prop := xs.length ≤ 9 ∧ ∀ f, f ∈ xs → f.path.size ≤ 100 ∧ f.text.length ≤ 18
theorem SmallF.short {xs : List File} (h : SmallF xs) : ∀ f, f ∈ xs → ShortS f.path := fun f hf => short_of (by have := (h.2 f hf).1; omega)
theorem SmallF.of {xs : List File} (h : treeB xs = true) (hp : ∀ f, f ∈ xs → f.path.size ≤ 100) : SmallF xs := by
  obtain ⟨h8, h10⟩ := tree_files h
  exact ⟨by omega, fun f hf => ⟨hp f hf, by have := h10 f hf; omega⟩⟩
theorem SmallF.set {xs : List File} (h : SmallF xs) (k : Nat) {f : File} (h1 : f.path.size ≤ 100) (h2 : f.text.length ≤ 18) : SmallF (xs.set k f) :=
  ⟨by rw [List.length_set]; exact h.1, fun g hg => by
    rcases List.mem_or_eq_of_mem_set hg with hg | rfl
    · exact h.2 g hg
    · exact ⟨h1, h2⟩⟩

set_option maxHeartbeats 4000000 in
set_option maxRecDepth 100000 in
theorem l30AnyTree_any (rb N : Nat) (w : World) (h : RdOk w rb N) (hN : N ≤ 800000) :
    Calls Tryz.prog 14 #[.pointer (some ⟨rb, 0, none⟩)] w fun e w' => ∃ (v : Value) (xs : List File), e = .returned v ∧ SmallF xs ∧ rd (fun b => w.heap.size ≤ b) w' [v] xs ∧ Drew rb w w' ∧ RdOk w' rb (N + 200) := by
  have hlt := h.lt
  go_enter Tryz.func14, Tryz.ntmps14
  go_wp2_with fail
  refine (l30Tree_any rb _ _ h (by omega)).mono ?_
  rintro e w1 ⟨v, xs, rfl, hT, hP, hF, hd1, hr1⟩
  have h8 := (tree_files hT).1
  have hSm := SmallF.of hT hP
  clear hT hP
  obtain ⟨a, c, rfl, _⟩ := hF.shape
  have hs1 := hd1.size
  by_cases h0 : 0 < xs.length
  · go_wp2_with fail
    refine (pick_any rb _ _ _ hr1 (by omega) (by omega)).mono ?_
    rintro e w2 ⟨k, rfl, hk, hd2, hr2⟩
    have hk' : k < xs.length := by omega
    go_wp2_with fail
    refine (pick_any rb _ _ _ hr2 (by omega) (by omega)).mono ?_
    rintro e w3 ⟨q, rfl, _, hd3, hr3⟩
    have hF3 := (hd3.fresh (hd2.fresh hF (.inl hlt)).now (.inl hlt)).now
    have hd := (hd1.tr hd2).tr hd3
    have hs3 := hd.size
    clear hF hr1 hr2 hd1 hd2 hd3 hk hs1
    obtain ⟨g2, rfl, hg2, hg3⟩ := hF3.addr h0
    have hkS := hSm.2 _ (List.getElem_mem hk')
    by_cases hq0 : q = 0
    · subst hq0
      go_wp2_with fail
      refine (l30AnyPath_any rb _ _ hr3 (by omega)).mono ?_
      rintro e w4 ⟨s, rfl, hs, hd4, hr4⟩
      have hF4 := (hd4.fresh hF3 (.inl hlt)).now
      have hd5 := hd.tr hd4
      obtain ⟨⟨u', hu⟩, hfz, _, hF7⟩ := hF4.setL lens_file_path hd5.size hk' (Below.refl _ _) (show Fresh w4.heap.size w4.heap.size w4 [.string s] s from Fresh.leaf ⟨rfl, rfl, by unfold maxLen; omega⟩)
      have hu' : w4.cell? ⟨g2, k * 2, none⟩ = some u' := hu
      have hfz' : w4.frozen? ⟨g2, k * 2, none⟩ = false := hfz
      clear hu hfz
      go_wp2
      go_ret
      exact ⟨_, _, rfl, hSm.set k (f := ⟨s, xs[k].text⟩) hs hkS.2, hF7.rd, hd5.belowB ((Below.refl _ _).setCell hg2 _) (Nat.le_refl _), (hr4.below (B := w.heap.size) hlt ((Below.refl _ _).setCell hg2 _)).mono (by omega)⟩
    · have hq0' := nat_eq_f hq0
      by_cases hq1 : q = 1
      · subst hq1
        go_wp2_with fail
        refine (l30AnyText_any rb _ _ hr3 (by omega)).mono ?_
        rintro e w4 ⟨u, tx, rfl, htx, hG, hd4, hr4⟩
        obtain ⟨a3, c3, rfl, _⟩ := hG.shape
        have hF4 := hd4.fresh hF3 (.inl hlt)
        have hd5 := hd.tr hd4
        obtain ⟨g, off, a1, c1, he, hc1, hc2, hz1, _⟩ := ((rd_slice_of hF4.rd2).2).file hk'
        obtain ⟨rfl, rfl⟩ : g2 = g ∧ 0 = off := by simpa using he
        rw [Nat.zero_add] at hc1 hc2
        have hF7 := hF4.setText hk' hc1 hz1 hG hs3
        obtain ⟨_, hfz, _⟩ := hF4.there hk' (j := 1) (by decide)
        have hfz' : w4.frozen? ⟨g2, k * 2 + 1, none⟩ = false := hfz
        clear hfz hc1 he
        go_wp2
        go_ret
        exact ⟨_, _, rfl, hSm.set k (f := ⟨xs[k].path, tx⟩) hkS.1 htx, hF7.rd, hd5.belowB ((Below.refl _ _).setCell hg2 _) (Nat.le_refl _), (hr4.below (B := w.heap.size) hlt ((Below.refl _ _).setCell hg2 _)).mono (by omega)⟩
      · have hq1' := nat_eq_f hq1
        by_cases hq2 : q = 2
        · subst hq2
          obtain ⟨g, off, a1, c1, he, hc1, hc2, hz1, hft⟩ := ((rd_slice_of hF3.rd2).2).file hk'
          obtain ⟨rfl, rfl⟩ : g2 = g ∧ 0 = off := by simpa using he
          rw [Nat.zero_add] at hc1 hc2
          obtain ⟨H, rs, hrl, hFX, hA2, hH⟩ := hF3.toRaw
          have hraw := hA2.at k (by omega) hk'
          have hraw3 : rd H w3 [.string xs[k].path, .slice a1 xs[k].text.length c1] xs[k] := by
            obtain ⟨g9, off9, us9, e1, _, e3, e4⟩ := (rd_slice_of hFX.fresh.rd).2.elem (i := k) (by omega)
            obtain ⟨rfl, rfl⟩ : g2 = g9 ∧ 0 = off9 := by simpa using e1
            obtain ⟨a8, c8, e5, e6, e7⟩ := rd_file hraw
            have e4 : us9 = rs[k].vs := e4
            rw [e5] at e4
            subst e4
            have c0 := e3 1 _ rfl
            have c1' : w3.cell? ⟨g2, k * 2 + 1, none⟩ = some (.slice a8 xs[k].text.length c8) := by rw [← c0]; congr 2; simp [Rep.sz]
            rw [hc2] at c1'
            simp at c1'
            obtain ⟨rfl, rfl⟩ := c1'
            exact rd_file_mk e6 e7
          clear he hft hraw
          have hrs : rs.length ≤ 8 := by omega
          have hH2 : ∀ (o : Obj) b, H b → b < (w3.alloc o).heap.size := fun o b hb => by have := (hH b hb).2.2; simp; omega
          go_wp2_with (at_builtin; go_must (refine wpList_app_leafX slz_file.slt.raw rfl (.tmp 34) (.tmp 39) rfl rfl (hFX.alloc _) (hH2 _) (by simp; omega) rfl rfl (lit_raw (heap_alloc_new _ _) rfl (one_cells2 _ _ _ _) (by decide)) (by simp; omega) (by unfold maxLen; simp; omega) ?_); intro a7 c7 w7 hG7)
          have hb7 : Below w.heap.size w3 w7 := ((Below.refl w.heap.size w3).alloc (by omega) _).trans hG7.below
          have hA7 : All2 (fun (r : Raw File) x => Rep.rd (fun b => w.heap.size ≤ b) w7 (Raw.vs r) x) rs xs := hA2.mono fun r x h => Rep.frame (fun b hb hl => ⟨grewX_old hG7 hl (.inr hb), (hH b hb).1⟩) h
          have hN7 : Rep.rd (fun b => w.heap.size ≤ b) w7 [.string xs[k].path, .slice a1 xs[k].text.length c1] xs[k] := Rep.mono (fun b hb => hb.1) (Rep.frame (S := H) (S' := fun b => w.heap.size ≤ b ∧ True) (fun b hb hl => ⟨grewX_old hG7 hl (.inr hb), (hH b hb).1, trivial⟩) hraw3)
          have hAll := All2.snoc (a := (⟨[.string xs[k].path, .slice a1 xs[k].text.length c1], rfl, one_cells2 _ _ _ _⟩ : Raw File)) (b := xs[k]) hA7 hN7
          have hfin : Rep.rd (fun b => w.heap.size ≤ b) w7 [.slice a7 (rs.length + 1) c7] (xs ++ [xs[k]]) := Rep.mono (fun b hb => by rcases hb with hb | hb; exact hb; exact hb) (hG7.fresh.unraw hAll)
          rw [hrl] at hfin
          have hsm : SmallF (xs ++ [xs[k]]) := ⟨by simp; omega, fun f hf => by
            rcases List.mem_append.1 hf with hf | hf
            · exact hSm.2 f hf
            · rw [List.mem_singleton.1 hf]; exact hkS⟩
          go_ret
          exact ⟨_, _, rfl, hsm, hfin, hd.belowB hb7 (Nat.le_refl _), (hr3.below (B := w.heap.size) hlt hb7).mono (by omega)⟩
        · have hq2' := nat_eq_f hq2
          go_wp2
          go_ret
          exact ⟨_, xs, rfl, hSm, hF3.rd, hd, hr3.mono (by omega)⟩
  · go_wp2
    go_ret
    exact ⟨_, xs, rfl, hSm, hF.rd, hd1, hr1.mono (by omega)⟩
end Go.Proofs.YthddcfbjgcbioaaGreatDoor
namespace Go.Proofs.YthddcfbjgcbioaaGreatDoor
open Go.RowKit Go.Vc
open Go.Vc.Rep (rd)
open Go.Vc.Own (own)
/-- a tree and a path drawn -/
def TreePath (w : World) (e : Ending) (w' : World) : Prop :=
  ∃ (v : Value) (t : List File) (s : ByteArray), e = .returned (.tuple #[v, .string s]) ∧ SmallF t ∧ s.size ≤ 100 ∧ rd (fun b => w.heap.size ≤ b) w' [v] t ∧ Below w.heap.size w w'
end Go.Proofs.YthddcfbjgcbioaaGreatDoor
namespace Go.Proofs.YthddcfbjgcbioaaGreatDoor
open Go.RowKit Go.Vc
open Go.Vc.Rep (rd)
open Go.Vc.Own (own)
/-- a tree and two paths drawn -/
def TreePaths (w : World) (e : Ending) (w' : World) : Prop :=
  ∃ (v : Value) (t : List File) (s d : ByteArray), e = .returned (.tuple #[v, .string s, .string d]) ∧ SmallF t ∧ s.size ≤ 100 ∧ d.size ≤ 100 ∧ rd (fun b => w.heap.size ≤ b) w' [v] t ∧ Below w.heap.size w w'
end Go.Proofs.YthddcfbjgcbioaaGreatDoor
namespace Go.Proofs.YthddcfbjgcbioaaGreatDoor
open Go.RowKit Go.Vc
open Go.Vc.Rep (rd)
open Go.Vc.Own (own)
end Go.Proofs.YthddcfbjgcbioaaGreatDoor
