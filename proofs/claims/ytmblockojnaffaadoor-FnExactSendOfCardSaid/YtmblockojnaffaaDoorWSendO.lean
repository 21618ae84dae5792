/-
  Walks: what is sent, as the program has it.
-/
import Derived.Test.YtmblockojnaffaaDoorWCTree
import Derived.Test.YtmblockojnaffaaDoorWPlace
import Derived.Test.YtmblockojnaffaaDoorWTouch
import Derived.Test.YtmblockojnaffaaDoorWSend
import Derived.Test.YtmblockojnaffaaDoorPlCnt
set_option linter.unusedVariables false
namespace Go.Vc
open Go.RowKit
theorem drew_size (w : World) : w.drew.heap.size = w.heap.size := rfl
theorem alloc_size2 (w : World) (o : Obj) : (w.alloc o).heap.size = w.heap.size + 1 := by simp
/-- a row of three cells, all written -/
theorem stored3 {w : World} {E : Nat} {e : TypeId} {u0 u1 u2 : Value} (h : w.heap[E]? = some (.cells #[u0, u1, u2] e (0, 0))) (A B C : Value) :
    (((w.setCell ⟨E, 0, none⟩ A).setCell ⟨E, 1, none⟩ B).setCell ⟨E, 2, none⟩ C).heap[E]? = some (.cells #[A, B, C] e (0, 0)) := by
  have h1 := heap_setCell_same w E 0 _ _ A h
  have h2 := heap_setCell_same _ E 1 _ _ B h1
  have h3 := heap_setCell_same _ E 2 _ _ C h2
  rw [h3]
  rfl
end Go.Vc
namespace Go.Proofs.YtmblockojnaffaaDoor
open Go.RowKit Go.Vc
open Go.Vc.Rep (rd)
open Go.Vc.Own (own)
theorem repo_texts2 {r : Repo} (h : repoB r = true) : ∀ i : Int, 0 ≤ i → i < (r.commits.length : Int) → (treeAtC r.commits i).length ≤ 1000 ∧ ∀ f, f ∈ treeAtC r.commits i → f.text.length ≤ 10 := fun i h0 h1 => by
  have ht : treeB (treeAtC r.commits i) = true := by
    have hl : i.toNat < r.commits.length := by omega
    unfold treeAtC
    rw [getD_com hl]
    exact repo_tree h hl
  refine ⟨by have := tree_len ht; omega, fun f hf => ?_⟩
  obtain ⟨k, hk, rfl⟩ := List.getElem_of_mem hf
  exact textB_len (tree_file ht hk).2

set_option maxHeartbeats 16000000 in
set_option maxRecDepth 100000 in
theorem implSendOf {S T U : Nat → Prop} (r : Repo) (v0 v1 u : Value) (xs : List Int) (at_ : Int) (w : World) (h0 : rd S w [v0] r.commits) (h1 : rd T w [v1] r.heads) (hu : rd U w [u] xs) (hS : shortR r) (hM : ML w) :
    Calls Tryd.prog 45 #[.agg #[v0, v1], u, .int .i64 at_] w fun e w' => ∃ v', e = .returned (.tuple #[v', .bool (sendB r xs at_)]) ∧ Fresh w.heap.size w'.heap.size w' [v'] (sendL r xs at_) ∧ Below w.heap.size w w' := by
  have h0 := Rep.lt h0
  have h1 := Rep.lt h1
  have hu := Rep.lt hu
  obtain ⟨a, cap, rfl, hs⟩ := rd_slice_elim h0
  have hB0 : Below w.heap.size w (w.alloc (.cells #[.slice a r.commits.length cap, v1] 32)) := ((Below.refl _ _).alloc (by simp <;> omega) _)
  have q0 : (w.alloc (.cells #[.slice a r.commits.length cap, v1] 32)).cell? ⟨w.heap.size, 0, none⟩ = some (.slice a r.commits.length cap) := by rw [cell_of_row _ _ 0 _ _ (0, 0) (heap_alloc_new _ _)]; rfl
  have q1 : (w.alloc (.cells #[.slice a r.commits.length cap, v1] 32)).cell? ⟨w.heap.size, 1, none⟩ = some v1 := by rw [cell_of_row _ _ 1 _ _ (0, 0) (heap_alloc_new _ _)]; rfl
  have HO : Hid (sendO r xs at_ = if suspB r xs at_ = true then sendG r.commits (leftT r.commits at_ xs) xs [] (leftT r.commits at_ xs) else none) := rfl
  have HL : Hid (sendL r xs at_ = (sendO r xs at_).getD []) := rfl
  have HB_ : Hid (sendB r xs at_ = (sendO r xs at_).isSome) := rfl
  cases hq : suspB r xs at_ with
  | false =>
    rw [hq] at HO
    go_enter Tryd.func45, Tryd.ntmps45
    go_wp2_with fail
    refine (areSuspect_is _ _ _ r xs at_ _ (Rep.keep h0 hB0) (Rep.keep h1 hB0) (Rep.keep hu hB0) hS (hM.keep hB0) hq).mono ?_
    rintro e w1 ⟨rfl, hb1⟩
    go_wp2
    go_ret2
    exact ⟨.slice none 0 0, by rw [HB_.out, HO.out]; rfl, by rw [HL.out, HO.out]; exact Fresh.nil _ _ _ (by decide), hB0.trans (hb1.mono hB0.size)⟩
  | true =>
    rw [hq] at HO
    obtain ⟨hp1, hp2, hp3, hp4, hp5⟩ := susp_parts hq
    have hPar := repo_par hp1
    have hfew := repo_le hp1
    have HTX := Lib.hid (repo_texts2 hp1)
    have HFEW := Lib.hid (repo_few hp1)
    go_enter Tryd.func45, Tryd.ntmps45
    go_wp2_with fail
    refine (areSuspect_is _ _ _ r xs at_ _ (Rep.keep h0 hB0) (Rep.keep h1 hB0) (Rep.keep hu hB0) hS (hM.keep hB0) hq).mono ?_
    rintro e w1 ⟨rfl, hb1⟩
    have q0a := keepc q0 hb1
    have q1a := keepc q1 hb1
    have HBa := hB0.trans (hb1.mono hB0.size)
    clear q0 q1 hB0 hb1
    go_wp2_with fail
    refine (since_any _ _ _ r.commits at_ xs _ (Rep.keep h0 HBa) (Rep.keep hu HBa) hPar hfew ⟨hp4, hp5⟩ hp2).mono ?_
    rintro e w2 ⟨vl, rfl, hL, hb2⟩
    rw [since_left] at hL
    have q0b := keepc q0a hb2
    have q1b := keepc q1a hb2
    have HBb := HBa.trans (hb2.mono HBa.size)
    have hll := left_len r.commits at_ xs
    have HMEM := Lib.hid (show ∀ x, x ∈ leftT r.commits at_ xs → 0 ≤ x ∧ x < (r.commits.length : Int) from fun x hx => allOf_mem (List.mem_filter.1 hx).1)
    obtain ⟨ls, hls⟩ : ∃ ls, ls = leftT r.commits at_ xs := ⟨_, rfl⟩
    rw [← hls] at hL hll HMEM HO
    obtain ⟨al, cl, hvl, hLs⟩ := hL.shape
    subst hvl
    have hLs := hLs.lt
    have HO : Hid (sendO r xs at_ = sendG r.commits ls xs [] ls) := HO
    obtain ⟨cs, hcs⟩ : ∃ cs, cs = r.commits := ⟨_, rfl⟩
    have HTX : Hid (∀ i : Int, 0 ≤ i → i < (cs.length : Int) → (treeAtC cs i).length ≤ 1000 ∧ ∀ f, f ∈ treeAtC cs i → f.text.length ≤ 10) := by subst hcs; exact HTX
    have HFEW : Hid (parFew cs) := by subst hcs; exact HFEW
    rw [← hcs] at hs q0b hll HMEM HO hfew
    try rw [← hcs]
    clear hls hL q0a q1a HBa hb2 hcs hq hp1 hp2 hp4 hp5 hPar h0 h1 hM
    go_wp2
    go_loopw [9, 28] (fun out i wr => (∃ (k : Nat) (ol : List Commit), k ≤ ls.length ∧ i = .int .i64 k ∧ ol.length ≤ k ∧ Fresh w2.heap.size wr.heap.size wr [out] ol ∧ Hid (sendO r xs at_ = sendG cs ls xs ol (ls.drop k))) ∧ Below w2.heap.size w2 wr) (fun _ i _ => ls.length - (intOf i).toNat)
    case atStart => exact ⟨⟨0, [], by omega, rfl, by simp, Fresh.nil _ _ _ (by decide), HO.out⟩, Below.refl _ _⟩
    case round =>
      obtain ⟨⟨k, ol, hk, rfl, hol, hF, HA⟩, hbr⟩ := hrel
      obtain ⟨a3, c3, hv3, _⟩ := hF.shape
      subst hv3
      obtain ⟨wo, rfl⟩ : ∃ wo : World, wo = wr := ⟨_, rfl⟩
      have hb := HBb.trans (hbr.mono HBb.size)
      have hsr := hbr.size
      have q0r := keepc q0b hbr
      have q1r := keepc q1b hbr
      by_cases hlt : k < ls.length
      · obtain ⟨gl, offl, hagl, hcl, _⟩ := (hLs.keep hbr).int hlt
        subst hagl
        obtain ⟨hx0, hx1⟩ := HMEM.out _ (List.getElem_mem hlt)
        obtain ⟨j, hj⟩ : ∃ j : Nat, ls[k] = (j : Int) := ⟨ls[k].toNat, by omega⟩
        have hjl : j < cs.length := by omega
        rw [hj] at hcl
        obtain ⟨g, off, ap, np, at2, nt, hag, hc0, hc1, hc2, hpar, hz1, htr⟩ := hs.commit hjl
        subst hag
        have HTJ := Lib.hid (HTX.out (j : Int) (by omega) (by omega))
        have HTT : Hid (treeAtC cs (j : Int) = cs[j].tree) := by show _ = _; unfold treeAtC; rw [Int.toNat_natCast, getD_com hjl]
        have hpf := HFEW.out j hjl
        obtain ⟨c, hc⟩ : ∃ c, c = cs[j] := ⟨_, rfl⟩
        rw [← hc] at hc0 hc1 hc2 hpar hz1 htr hpf HTT
        have HSG := Lib.hid (show ∀ ps, sendPs ls xs [] c.parents = some ps → sendO r xs at_ = sendG cs ls xs (ol ++ [⟨ps, c.who, c.tree⟩]) (ls.drop (k + 1)) from fun ps hps => by subst hc; exact sendG_next HA.out hlt hj hjl hps)
        have HSN := Lib.hid (show sendPs ls xs [] c.parents = none → sendO r xs at_ = none from fun hps => by subst hc; exact sendG_none HA.out hlt hj hjl hps)
        have HC0 := Lib.hid hc0
        have hc1r := keepc hc1 hb
        have hbl0 : Below wo.heap.size wo (wo.drew.alloc (.cells #[.slice none 0 0, .string ⟨#[]⟩, .slice none 0 0] 74)) := (Below.refl _ _).drew.alloc (by simp) _
        clear hc hx0 hx1 hj hc0 hc1 hc2 htr
        have htl := (HTJ.out).1
        have htxx := (HTJ.out).2
        go_wp2_with fail
        go_region_held3 (fun w' => w'.cell? ⟨w.heap.size, 0, none⟩ = some (.slice (some ⟨g, off, none⟩) cs.length cap) ∧ w'.cell? ⟨w.heap.size, 1, none⟩ = some v1 ∧ w'.cell? ⟨g, off + j * 3 + 1, none⟩ = some (.string c.who))
          (first | go_keep | exact K9 | exact K5 | exact ⟨q0r, q1r, hc1r⟩ | exact ⟨keepc q0r hbl0, keepc q1r hbl0, keepc hc1r hbl0⟩ | exact ⟨keepc K5.1 ((Below.refl _ _).alloc (Nat.le_refl _) _), keepc K5.2.1 ((Below.refl _ _).alloc (Nat.le_refl _) _), keepc K5.2.2 ((Below.refl _ _).alloc (Nat.le_refl _) _)⟩ | exact ⟨keepc K9.1 ((Below.refl _ _).alloc (Nat.le_refl _) _), keepc K9.2.1 ((Below.refl _ _).alloc (Nat.le_refl _) _), keepc K9.2.2 ((Below.refl _ _).alloc (Nat.le_refl _) _)⟩ | (exact And.intro (keepc q0r (((hbV.setCell (p := ⟨wo.heap.size, 0, none⟩) hcE _).setCell (p := ⟨wo.heap.size, 1, none⟩) hcE _).setCell (p := ⟨wo.heap.size, 2, none⟩) hcE _)) (And.intro (keepc q1r (((hbV.setCell (p := ⟨wo.heap.size, 0, none⟩) hcE _).setCell (p := ⟨wo.heap.size, 1, none⟩) hcE _).setCell (p := ⟨wo.heap.size, 2, none⟩) hcE _)) (keepc hc1r (((hbV.setCell (p := ⟨wo.heap.size, 0, none⟩) hcE _).setCell (p := ⟨wo.heap.size, 1, none⟩) hcE _).setCell (p := ⟨wo.heap.size, 2, none⟩) hcE _)))) | (exact And.intro (keepc q0r (((hbV.setCell (p := ⟨w5.heap.size, 0, none⟩) hcE _).setCell (p := ⟨w5.heap.size, 1, none⟩) hcE _).setCell (p := ⟨w5.heap.size, 2, none⟩) hcE _)) (And.intro (keepc q1r (((hbV.setCell (p := ⟨w5.heap.size, 0, none⟩) hcE _).setCell (p := ⟨w5.heap.size, 1, none⟩) hcE _).setCell (p := ⟨w5.heap.size, 2, none⟩) hcE _)) (keepc hc1r (((hbV.setCell (p := ⟨w5.heap.size, 0, none⟩) hcE _).setCell (p := ⟨w5.heap.size, 1, none⟩) hcE _).setCell (p := ⟨w5.heap.size, 2, none⟩) hcE _)))))
          (first
            | (go_at_call 88; refine (tree_any _ _ cs (j : Int) _ (Rep.drew (hs.keep hb).rd) (by omega) (by omega)).mono ?_; rintro e w5 ⟨v5, rfl, h5, hb5⟩; have hbU : Below wo.heap.size wo w5 := (Below.refl _ _).drew.trans (hb5.mono (by simp)); have K5 := And.intro (keepc q0r hbU) (And.intro (keepc q1r hbU) (keepc hc1r hbU)))
            | (go_at_call 88; refine (tree_any _ _ cs (j : Int) _ (Rep.alloc (Rep.drew (hs.keep hb).rd) (.cells #[.slice none 0 0, .string ⟨#[]⟩, .slice none 0 0] 74)) (by omega) (by omega)).mono ?_; rintro e w5 ⟨v5, rfl, h5, hb5⟩; have hbU : Below wo.heap.size wo w5 := ((Below.refl _ _).drew.alloc (by simp) (.cells #[.slice none 0 0, .string ⟨#[]⟩, .slice none 0 0] 74)).trans (hb5.mono (by simp)); have K5 := And.intro (keepc q0r hbU) (And.intro (keepc q1r hbU) (keepc hc1r hbU)); have hbx5 := (hb5.block wo.heap.size (by simp)).trans (heap_alloc_new wo.drew (.cells #[.slice none 0 0, .string ⟨#[]⟩, .slice none 0 0] 74)))
            | (go_at_call 87; have hA := hbx5; refine (copyTree_any _ _ _ h5 htl htxx).mono ?_; rintro e w6 ⟨v6, rfl, h6, hb6⟩; obtain ⟨a6, c6, hv6, _⟩ := h6.shape; subst hv6; have hbV := hbU.trans (hb6.mono hbU.size); have K9 := And.intro (keepc q0r hbV) (And.intro (keepc q1r hbV) (keepc hc1r hbV)); have hbx9 := (hb6.block wo.heap.size (by have := hb5.size; simp at this; omega)).trans hbx5; have x0 := (cell_of_row w6 wo.heap.size 0 _ _ (0, 0) hbx9); have x1 := (cell_of_row w6 wo.heap.size 1 _ _ (0, 0) hbx9); have x2 := (cell_of_row w6 wo.heap.size 2 _ _ (0, 0) hbx9); have z0 := frozen_of_row w6 wo.heap.size 0 _ _ hbx9; have z1 := frozen_of_row w6 wo.heap.size 1 _ _ hbx9; have z2 := frozen_of_row w6 wo.heap.size 2 _ _ hbx9; simp at x0 x1 x2; have hcE := Nat.le_refl wo.heap.size)
            | (go_at_call 87; refine (copyTree_any _ _ _ h5 htl htxx).mono ?_; rintro e w6 ⟨v6, rfl, h6, hb6⟩; obtain ⟨a6, c6, hv6, _⟩ := h6.shape; subst hv6; have hbV := hbU.trans (hb6.mono hbU.size); have K9 := And.intro (keepc q0r hbV) (And.intro (keepc q1r hbV) (keepc hc1r hbV)); have hC := True.intro)
            | (go_at_call 87; refine (copyTree_any _ _ _ (Rep.alloc h5 (.cells #[.slice none 0 0, .string ⟨#[]⟩, .slice none 0 0] 74)) htl htxx).mono ?_; rintro e w6 ⟨v6, rfl, h6, hb6⟩; obtain ⟨a6, c6, hv6, _⟩ := h6.shape; subst hv6; have hbV := (hbU.alloc hbU.size (.cells #[.slice none 0 0, .string ⟨#[]⟩, .slice none 0 0] 74)).trans (hb6.mono (by have := hbU.size; simp; omega)); have K9 := And.intro (keepc q0r hbV) (And.intro (keepc q1r hbV) (keepc hc1r hbV)); have hbx9 := (hb6.block w5.heap.size (by simp)).trans (heap_alloc_new w5 (.cells #[.slice none 0 0, .string ⟨#[]⟩, .slice none 0 0] 74)); have x0 := (cell_of_row w6 w5.heap.size 0 _ _ (0, 0) hbx9); have x1 := (cell_of_row w6 w5.heap.size 1 _ _ (0, 0) hbx9); have x2 := (cell_of_row w6 w5.heap.size 2 _ _ (0, 0) hbx9); have z0 := frozen_of_row w6 w5.heap.size 0 _ _ hbx9; have z1 := frozen_of_row w6 w5.heap.size 1 _ _ hbx9; have z2 := frozen_of_row w6 w5.heap.size 2 _ _ hbx9; simp at x0 x1 x2; have hcE := hbU.size; have hB := True.intro))
        any_goals (
          have hm := hA
          have h6s := hb6.size
          have h5s := hb5.size
          have hus := hbU.size
          have hvs := hbV.size
          simp only [drew_size, alloc_size2] at h5s h6s
          obtain ⟨wz, hwz⟩ : ∃ wz, wz = ((w6.setCell ⟨wo.heap.size, 0, none⟩ (.slice none 0 0)).setCell ⟨wo.heap.size, 1, none⟩ (.string c.who)).setCell ⟨wo.heap.size, 2, none⟩ (.slice a6 (treeAtC cs (j : Int)).length c6) := ⟨_, rfl⟩
          have hbox : wz.heap[wo.heap.size]? = some (.cells #[.slice none 0 0, .string c.who, .slice a6 (treeAtC cs (j : Int)).length c6] 74 (0, 0)) := (by rw [hwz]; exact stored3 hbx9 _ _ _)
          have hszz : w6.heap.size ≤ wz.heap.size ∧ wo.heap.size < wz.heap.size := (by rw [hwz]; simp <;> omega)
          have hTr : Fresh (w5.heap.size) w6.heap.size wz [.slice a6 (treeAtC cs (j : Int)).length c6] (treeAtC cs (j : Int)) := (by rw [hwz]; exact ((h6.setCell (.inl (by show wo.heap.size < w5.heap.size; omega))).setCell (.inl (by show wo.heap.size < w5.heap.size; omega))).setCell (.inl (by show wo.heap.size < w5.heap.size; omega)))
          have hbz : Below wo.heap.size wo wz := (by rw [hwz]; exact ((hbV.setCell (p := ⟨wo.heap.size, 0, none⟩) hcE _).setCell (p := ⟨wo.heap.size, 1, none⟩) hcE _).setCell (p := ⟨wo.heap.size, 2, none⟩) hcE _)
          obtain ⟨cb, hcb⟩ : ∃ cb, cb = wo.heap.size := ⟨_, rfl⟩
          obtain ⟨lo, hlo⟩ : ∃ lo, lo = w5.heap.size := ⟨_, rfl⟩
          obtain ⟨hi, hhi⟩ : ∃ hi, hi = w6.heap.size := ⟨_, rfl⟩
          have hord : cb < lo ∨ hi ≤ cb := (by omega)
          have hz1a : wo.heap.size ≤ cb := (by omega)
          have hz2a : cb < wz.heap.size := (by omega)
          have hz3a : wo.heap.size ≤ lo := (by omega)
          have hz4a : hi ≤ wz.heap.size := by omega
          rw [← hcb] at hbox
          rw [← hlo, ← hhi] at hTr
          rw [← hwz, ← hcb])
        any_goals (
          have hm := hB
          have h6s := hb6.size
          have h5s := hb5.size
          have hus := hbU.size
          have hvs := hbV.size
          simp only [drew_size, alloc_size2] at h5s h6s
          obtain ⟨wz, hwz⟩ : ∃ wz, wz = ((w6.setCell ⟨w5.heap.size, 0, none⟩ (.slice none 0 0)).setCell ⟨w5.heap.size, 1, none⟩ (.string c.who)).setCell ⟨w5.heap.size, 2, none⟩ (.slice a6 (treeAtC cs (j : Int)).length c6) := ⟨_, rfl⟩
          have hbox : wz.heap[w5.heap.size]? = some (.cells #[.slice none 0 0, .string c.who, .slice a6 (treeAtC cs (j : Int)).length c6] 74 (0, 0)) := (by rw [hwz]; exact stored3 hbx9 _ _ _)
          have hszz : w6.heap.size ≤ wz.heap.size ∧ w5.heap.size < wz.heap.size := (by rw [hwz]; simp <;> omega)
          have hTr : Fresh (w5.heap.size + 1) w6.heap.size wz [.slice a6 (treeAtC cs (j : Int)).length c6] (treeAtC cs (j : Int)) := (by rw [hwz]; exact (((h6.mono (B' := w5.heap.size + 1) (by simp) (Nat.le_refl _)).setCell (.inl (Nat.lt_succ_self _))).setCell (.inl (Nat.lt_succ_self _))).setCell (.inl (Nat.lt_succ_self _)))
          have hbz : Below wo.heap.size wo wz := (by rw [hwz]; exact ((hbV.setCell (p := ⟨w5.heap.size, 0, none⟩) hcE _).setCell (p := ⟨w5.heap.size, 1, none⟩) hcE _).setCell (p := ⟨w5.heap.size, 2, none⟩) hcE _)
          obtain ⟨cb, hcb⟩ : ∃ cb, cb = w5.heap.size := ⟨_, rfl⟩
          obtain ⟨lo, hlo⟩ : ∃ lo, lo = w5.heap.size + 1 := ⟨_, rfl⟩
          obtain ⟨hi, hhi⟩ : ∃ hi, hi = w6.heap.size := ⟨_, rfl⟩
          have hord : cb < lo ∨ hi ≤ cb := (by omega)
          have hz1a : wo.heap.size ≤ cb := (by omega)
          have hz2a : cb < wz.heap.size := (by omega)
          have hz3a : wo.heap.size ≤ lo := (by omega)
          have hz4a : hi ≤ wz.heap.size := by omega
          rw [← hcb] at hbox
          rw [← hlo, ← hhi] at hTr
          rw [← hwz, ← hcb])
        any_goals (
          have hm := hC
          have h6s := hb6.size
          have h5s := hb5.size
          have hus := hbU.size
          have hvs := hbV.size
          simp only [drew_size] at h5s h6s
          obtain ⟨wz, hwz⟩ : ∃ wz, wz = w6.alloc (.cells #[.slice none 0 0, .string c.who, .slice a6 (treeAtC cs (j : Int)).length c6] 74) := ⟨_, rfl⟩
          have hbox : wz.heap[w6.heap.size]? = some (.cells #[.slice none 0 0, .string c.who, .slice a6 (treeAtC cs (j : Int)).length c6] 74 (0, 0)) := (by rw [hwz]; exact heap_alloc_new _ _)
          have hszz : w6.heap.size ≤ wz.heap.size ∧ w6.heap.size < wz.heap.size := (by rw [hwz]; simp <;> omega)
          have hTr : Fresh (w5.heap.size) w6.heap.size wz [.slice a6 (treeAtC cs (j : Int)).length c6] (treeAtC cs (j : Int)) := (by rw [hwz]; exact h6.alloc _)
          have hbz : Below wo.heap.size wo wz := (by rw [hwz]; exact hbV.alloc hvs _)
          obtain ⟨cb, hcb⟩ : ∃ cb, cb = w6.heap.size := ⟨_, rfl⟩
          obtain ⟨lo, hlo⟩ : ∃ lo, lo = w5.heap.size := ⟨_, rfl⟩
          obtain ⟨hi, hhi⟩ : ∃ hi, hi = w6.heap.size := ⟨_, rfl⟩
          have hord : cb < lo ∨ hi ≤ cb := (by omega)
          have hz1a : wo.heap.size ≤ cb := (by omega)
          have hz2a : cb < wz.heap.size := (by omega)
          have hz3a : wo.heap.size ≤ lo := (by omega)
          have hz4a : hi ≤ wz.heap.size := by omega
          rw [← hcb] at hbox
          rw [← hlo, ← hhi] at hTr
          rw [← hwz, ← hcb])
        all_goals
          clear K9 K5
          have hb0z := hb.trans (hbz.mono hb.size)
          have hdz := keepc HC0.out hb0z
          have hq0z := keepc q0r hbz
          obtain ⟨ps, hps⟩ : ∃ ps, ps = c.parents := ⟨_, rfl⟩
          have hpar2 : IsSlice (fun b => b < w.heap.size) w ap np ps := by rw [hps]; exact hpar
          rw [← hps] at hdz hpf
          have HSG2 : Hid (∀ ps', sendPs ls xs [] ps = some ps' → sendO r xs at_ = sendG cs ls xs (ol ++ [⟨ps', c.who, c.tree⟩]) (ls.drop (k + 1))) := by rw [hps]; exact HSG
          have HSN2 : Hid (sendPs ls xs [] ps = none → sendO r xs at_ = none) := by rw [hps]; exact HSN
          obtain ⟨tr, htr⟩ : ∃ tr, tr = treeAtC cs (j : Int) := ⟨_, rfl⟩
          have HTR2 : Hid (tr = c.tree) := by rw [htr]; exact HTT
          rw [← htr] at hTr hbox
          try rw [← htr]
          have hlp := hpar2.le
          have hcell0 := cell_of_row wz cb 0 _ _ (0, 0) hbox
          simp at hcell0
          clear hps htr hwz hcb hlo hhi hszz hpar HSG HSN HTT hbU hbV
          go_wp2
          go_loopw [50] (fun i wq => (∃ (m : Nat) (acc : List Int) (pv : Value), m ≤ ps.length ∧ i = .int .i64 m ∧ acc.length ≤ m ∧ wq.heap[cb]? = some (.cells #[pv, .string c.who, .slice a6 tr.length c6] 74 (0, 0)) ∧ Fresh wz.heap.size wq.heap.size wq [pv] acc ∧ Fresh lo hi wq [.slice a6 tr.length c6] tr ∧ wz.heap.size ≤ wq.heap.size ∧ Hid (sendPs ls xs [] ps = sendPs ls xs acc (ps.drop m))) ∧ Below wo.heap.size wo wq) (fun i _ => ps.length - (intOf i).toNat)
          case atStart => exact ⟨⟨0, [], .slice none 0 0, by omega, rfl, by simp, hbox, Fresh.nil _ _ _ (by decide), hTr, Nat.le_refl _, rfl⟩, hbz⟩
          case round =>
            clear hbox hTr hbz hcell0 hdz hq0z hb0z
            obtain ⟨⟨m, acc, pv, hm, rfl, hac, hbox, hP, hTr, hszq, HI⟩, hbq⟩ := hrel
            obtain ⟨ap8, cp8, hpv, _⟩ := hP.shape
            subst hpv
            have hbs := hb.trans (hbq.mono hb.size)
            have hb2q := hbr.trans (hbq.mono hsr)
            have hsq := hbq.size
            have y0 := cell_of_row wr cb 0 _ _ (0, 0) hbox
            have y1 := cell_of_row wr cb 1 _ _ (0, 0) hbox
            have y2 := cell_of_row wr cb 2 _ _ (0, 0) hbox
            simp at y0 y1 y2
            by_cases hlm : m < ps.length
            · obtain ⟨g5, off5, hag5, hd5, hi5⟩ := (hpar2.keep hbs).int hlm
              subst hag5
              obtain ⟨p, hp⟩ : ∃ p, p = ps[m] := ⟨_, rfl⟩
              have HIN := Lib.hid (fun h1 => sendPs_in (list := ls) (has := xs) HI.out hlm h1)
              have HOWN := Lib.hid (fun h1 h2 => sendPs_own (list := ls) (has := xs) HI.out hlm h1 h2)
              have HNON := Lib.hid (fun h1 h2 => sendPs_none (list := ls) (has := xs) HI.out hlm h1 h2)
              rw [← hp] at hd5 hi5 HIN HOWN HNON
              have hsl := place_le ls p
              have hol := place_le xs p
              obtain ⟨s, hs1⟩ : ∃ s, place ls p = s := ⟨_, rfl⟩
              obtain ⟨o, ho1⟩ : ∃ o, place xs p = o := ⟨_, rfl⟩
              rw [hs1] at hsl HIN HOWN HNON
              rw [ho1] at hol HOWN HNON
              have HS1 := Lib.hid hs1
              have HO1 := Lib.hid ho1
              have hi64s : I64 s := by unfold I64; omega
              have hi64o : I64 (-1 - o) := by unfold I64; omega
              have hwrap : IntKind.i64.wrap (-1 - o) = -1 - o := IntWalk.i64_in _ (by omega)
              clear hp hs1 ho1
              have HCL := Lib.hid (show ∀ (x : Int) (w5 : World) (a5 : Option Addr) (c5 : Nat), I64 x → Grew wz.heap.size wr.heap.size (wr.alloc (.cells #[.int .i64 x] (Tid.tid Int))) w5 (.slice a5 (acc.length + 1) c5) (acc ++ [x]) →
                  w5.heap[cb]? = some (.cells #[.slice ap8 acc.length cp8, .string c.who, .slice a6 tr.length c6] 74 (0, 0)) ∧
                  (w5.setCell ⟨cb, 0, none⟩ (.slice a5 (acc.length + 1) c5)).heap[cb]? = some (.cells #[.slice a5 (acc.length + 1) c5, .string c.who, .slice a6 tr.length c6] 74 (0, 0)) ∧
                  Fresh wz.heap.size (w5.setCell ⟨cb, 0, none⟩ (.slice a5 (acc.length + 1) c5)).heap.size (w5.setCell ⟨cb, 0, none⟩ (.slice a5 (acc.length + 1) c5)) [.slice a5 (acc.length + 1) c5] (acc ++ [x]) ∧
                  Fresh lo hi (w5.setCell ⟨cb, 0, none⟩ (.slice a5 (acc.length + 1) c5)) [.slice a6 tr.length c6] tr ∧
                  wz.heap.size ≤ (w5.setCell ⟨cb, 0, none⟩ (.slice a5 (acc.length + 1) c5)).heap.size ∧
                  Below wo.heap.size wo (w5.setCell ⟨cb, 0, none⟩ (.slice a5 (acc.length + 1) c5)) from fun x w5 a5 c5 hx hG => by
                have hbl : (wr.alloc (.cells #[.int .i64 x] (Tid.tid Int))).heap[cb]? = _ := (Below.heap_alloc wr _ cb (by omega)).trans hbox
                have hbx5 := (hG.rest cb (by simp; omega) (.inl hz2a)).trans hbl
                have h5 := heap_setCell_same w5 cb 0 _ _ (.slice a5 (acc.length + 1) c5) hbx5
                have hg5 := hG.below.size
                simp only [alloc_size2] at hg5
                have hT5 : Fresh lo hi w5 [.slice a6 tr.length c6] tr := (hTr.alloc _).keep fun b h1 h2 h3 => hG.rest b h3 (.inl (by omega))
                refine ⟨hbx5, h5, ?_, hT5.setCell (by show cb < lo ∨ hi ≤ cb; exact hord), by simp; omega, ((hbq.alloc hsq _).trans (hG.below.mono (by omega))).setCell hz1a _⟩
                have := hG.fresh.setCell (a := ⟨cb, 0, none⟩) (u := .slice a5 (acc.length + 1) c5) (.inl hz2a)
                simpa using this)
              go_wp2_with fail
              refine (index_is _ ls p _ (hLs.keep hb2q).rd (by omega) HS1.out).mono ?_
              rintro e w5 ⟨rfl, hw5⟩
              rw [hw5]
              clear hw5 w5
              go_wp2_with fail
              refine (index_is _ xs p _ (Rep.keep hu hbs) (by omega) HO1.out).mono ?_
              rintro e w5 ⟨rfl, hw5⟩
              rw [hw5]
              clear hw5 w5
              by_cases hs0 : 0 ≤ s
              · have hds : decide (0 ≤ s) = true := decide_eq_true hs0
                have HNX := Lib.hid (HIN.out (by omega))
                clear hs0
                go_wp2_with (at_builtin; go_must (refine wpList_app_leaf slz_int.slt rfl (.tmp 64) (.tmp 66) rfl rfl (hP.alloc _) (by simp; omega) rfl rfl (lit_ints [s] (heap_alloc_new _ _) (by simpa using hi64s) (by unfold maxLen; simp)) (by simp; omega) (by unfold maxLen; simp; omega) ?_); intro a5 c5 w5 hG5; obtain ⟨hx0, hx1, hx2, hx3, hx4, hx5⟩ := HCL.out s w5 a5 c5 hi64s hG5; have u0 := cell_of_row w5 cb 0 _ _ (0, 0) hx0; have u1 := frozen_of_row w5 cb 0 _ _ hx0; simp at u0)
                go_roundw
                case rel => exact ⟨⟨m + 1, acc ++ [s], _, by omega, by go_num, by simp; omega, hx1, hx2, hx3, hx4, HNX.out⟩, hx5⟩
                case measure => simp [intOf] <;> omega
              · have hds : decide (0 ≤ s) = false := decide_eq_false hs0
                by_cases ho0 : 0 ≤ o
                · have hdo : decide (0 ≤ o) = true := decide_eq_true ho0
                  have HNX := Lib.hid (HOWN.out (by omega) (by omega))
                  clear hs0 ho0
                  go_wp2_with (at_builtin; go_must (refine wpList_app_leaf slz_int.slt rfl (.tmp 73) (.tmp 76) rfl rfl (hP.alloc _) (by simp; omega) rfl rfl (lit_ints [-1 - o] (heap_alloc_new _ _) (by simpa using hi64o) (by unfold maxLen; simp)) (by simp; omega) (by unfold maxLen; simp; omega) ?_); intro a5 c5 w5 hG5; obtain ⟨hx0, hx1, hx2, hx3, hx4, hx5⟩ := HCL.out (-1 - o) w5 a5 c5 hi64o hG5; have u0 := cell_of_row w5 cb 0 _ _ (0, 0) hx0; have u1 := frozen_of_row w5 cb 0 _ _ hx0; simp at u0)
                  go_roundw
                  case rel => exact ⟨⟨m + 1, acc ++ [-1 - o], _, by omega, by go_num, by simp; omega, hx1, hx2, hx3, hx4, HNX.out⟩, hx5⟩
                  case measure => simp [intOf] <;> omega
                · have hdo : decide (0 ≤ o) = false := decide_eq_false ho0
                  have HNX := Lib.hid (HSN2.out (HNON.out (by omega) (by omega)))
                  clear hs0 ho0
                  go_wp2
                  go_ret2
                  exact ⟨.slice none 0 0, by rw [HB_.out, HNX.out]; rfl, by rw [HL.out, HNX.out]; exact Fresh.nil _ _ _ (by decide), hbs⟩
            · have HE := Lib.hid (HSG2.out acc (sendPs_end HI.out hlm))
              have hFo := hF.below (Nat.le_refl _) hbq
              have hwho : c.who.size ≤ maxLen := hz1
              have hcm : Fresh wo.heap.size wr.heap.size wr [.slice ap8 acc.length cp8, .string c.who, .slice a6 tr.length c6] (⟨acc, c.who, tr⟩ : Commit) := Fresh.commitD (p := (⟨acc, c.who, tr⟩ : Commit)) hP hwho hTr (by omega) hz3a (Nat.le_refl _) (by omega) (.inr hz4a)
              go_wp2_with (at_builtin; go_must (refine wpList_app_one slz_commit.slt rfl (.tmp 80) (.tmp 82) rfl rfl (hFo.alloc _) (by simp; omega) rfl (heap_alloc_new _ _) (hcm.alloc _) hsr (by omega) (by unfold maxLen; omega) ?_); intro a7 c7 w7 hG7)
              go_roundw
              case rel => exact ⟨⟨k + 1, ol ++ [(⟨acc, c.who, tr⟩ : Commit)], by omega, by go_num, by simp; omega, by have := hG7.fresh; simpa using this, by show _ = _; rw [HTR2.out]; exact HE.out⟩, (hb2q.alloc (by omega) _).trans hG7.below⟩
              case measure => simp [intOf] <;> omega
      · have HN := Lib.hid (sendG_end HA.out hlt)
        go_wp2
        go_ret2
        exact ⟨_, by rw [HB_.out, HN.out]; rfl, by rw [HL.out, HN.out]; exact hF.mono HBb.size (Nat.le_refl _), hb⟩
end Go.Proofs.YtmblockojnaffaaDoor
