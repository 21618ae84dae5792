/-
  Walks: the repository with what branches come from alone, as the reference has it.
-/
import Derived.Test.YthhmaclhggmneaaDoorWCCom
import Derived.Test.YthhmaclhggmneaaDoorWSendOS
import Derived.Test.YthhmaclhggmneaaDoorVKL
set_option linter.unusedVariables false
namespace Go.Vc
open Go.RowKit
theorem stored2 {w : World} {E : Nat} {e : TypeId} {u0 u1 : Value} (h : w.heap[E]? = some (.cells #[u0, u1] e (0, 0))) (A B : Value) :
    ((w.setCell ⟨E, 0, none⟩ A).setCell ⟨E, 1, none⟩ B).heap[E]? = some (.cells #[A, B] e (0, 0)) := by
  have h1 := heap_setCell_same w E 0 _ _ A h
  have h2 := heap_setCell_same _ E 1 _ _ B h1
  rw [h2]
  rfl
theorem keep3_alloc {w : World} {a b c : Addr} {x y z : Value} (h : w.cell? a = some x ∧ w.cell? b = some y ∧ w.cell? c = some z) (o : Obj) : (w.alloc o).cell? a = some x ∧ (w.alloc o).cell? b = some y ∧ (w.alloc o).cell? c = some z :=
  ⟨(World.cell?_of_block (Below.heap_alloc w o a.block (World.block_lt_of_cell? w a h.1))).trans h.1, (World.cell?_of_block (Below.heap_alloc w o b.block (World.block_lt_of_cell? w b h.2.1))).trans h.2.1, (World.cell?_of_block (Below.heap_alloc w o c.block (World.block_lt_of_cell? w c h.2.2))).trans h.2.2⟩
theorem keep3_drew {w : World} {a b c : Addr} {x y z : Value} (h : w.cell? a = some x ∧ w.cell? b = some y ∧ w.cell? c = some z) : w.drew.cell? a = some x ∧ w.drew.cell? b = some y ∧ w.drew.cell? c = some z := h
theorem keep3_set {w : World} {a b c p : Addr} {x y z u : Value} (h : w.cell? a = some x ∧ w.cell? b = some y ∧ w.cell? c = some z) (h1 : a.block ≠ p.block) (h2 : b.block ≠ p.block) (h3 : c.block ≠ p.block) : (w.setCell p u).cell? a = some x ∧ (w.setCell p u).cell? b = some y ∧ (w.setCell p u).cell? c = some z :=
  ⟨(World.cell?_of_block (Below.heap_setCell w p u a.block h1)).trans h.1, (World.cell?_of_block (Below.heap_setCell w p u b.block h2)).trans h.2.1, (World.cell?_of_block (Below.heap_setCell w p u c.block h3)).trans h.2.2⟩
theorem repo_texts3 {r : Repo} (h : repoB r = true) (j : Nat) (hj : j < r.commits.length) : r.commits[j].tree.length ≤ 1000 ∧ (∀ f, f ∈ r.commits[j].tree → f.text.length ≤ 10) ∧ r.commits[j].parents.length ≤ 2 := by
  have ht := repo_tree h hj
  refine ⟨by have := tree_len ht; omega, fun f hf => ?_, repo_few h j hj⟩
  obtain ⟨k, hk, rfl⟩ := List.getElem_of_mem hf
  exact textB_len (tree_file ht hk).2
end Go.Vc
namespace Go.Proofs.YthhmaclhggmneaaDoor
open Go.RowKit Go.Vc
open Go.Vc.Rep (rd)
open Go.Vc.Own (own)
set_option maxHeartbeats 16000000 in
set_option maxRecDepth 100000 in
theorem specKeepOnly {S T : Nat → Prop} (r : Repo) (v0 v1 : Value) (w : World) (h0 : rd S w [v0] r.commits) (h1 : rd T w [v1] r.heads) (hS : shortR r) (hM : ML w) :
    Calls Tryd.prog 7 #[.agg #[v0, v1]] w fun e w' => ∃ a0 c0 a1 c1, ∃ m, e = .returned (.agg #[.slice a0 (keepOnly r).commits.length c0, .slice a1 (keepOnly r).heads.length c1]) ∧ Fresh w.heap.size m w' [.slice a0 (keepOnly r).commits.length c0] (keepOnly r).commits ∧ Fresh m w'.heap.size w' [.slice a1 (keepOnly r).heads.length c1] (keepOnly r).heads ∧ w.heap.size ≤ m ∧ m ≤ w'.heap.size ∧ Below w.heap.size w w' := by
  have h0 := Rep.lt h0
  have h1 := Rep.lt h1
  obtain ⟨a, cap, rfl, hs⟩ := rd_slice_elim h0
  obtain ⟨a1, c1, rfl, hh⟩ := rd_slice_elim h1
  have hle := hs.le
  have hle1 := hh.le
  obtain ⟨wb, hwb⟩ : ∃ wb, wb = ((w.alloc (.cells #[.slice a r.commits.length cap, .slice a1 r.heads.length c1] 30)).alloc (.cells #[.slice none 0 0, .slice none 0 0] 30)).alloc (.cells #[.slice none 0 0, .slice none 0 0] 30) := ⟨_, rfl⟩
  have hB0 : Below w.heap.size w wb := by rw [hwb]; exact ((((Below.refl _ _).alloc (by simp <;> omega) _).alloc (by simp <;> omega) _).alloc (by simp <;> omega) _)
  have hx0 : wb.heap[w.heap.size]? = some (.cells #[.slice a r.commits.length cap, .slice a1 r.heads.length c1] 30 (0, 0)) := by rw [hwb]; exact (Below.heap_alloc _ _ _ (by simp; omega)).trans ((Below.heap_alloc _ _ _ (by simp)).trans (heap_alloc_new _ _))
  have hx1 : wb.heap[w.heap.size + 1]? = some (.cells #[.slice none 0 0, .slice none 0 0] 30 (0, 0)) := by rw [hwb]; exact (Below.heap_alloc _ _ _ (by simp)).trans (heap_new_at (by simp))
  have hx2 : wb.heap[w.heap.size + 2]? = some (.cells #[.slice none 0 0, .slice none 0 0] 30 (0, 0)) := by rw [hwb]; exact heap_new_at (by simp)
  have hsb : w.heap.size + 3 ≤ wb.heap.size := by rw [hwb]; simp
  have HW := Lib.hid hwb
  have HK : Hid (keepOnly r = if repoB r = true then ⟨onlyCs r, onlyHs r⟩ else ⟨[], []⟩) := rfl
  clear hwb
  cases hr : repoB r with
  | false =>
    rw [hr] at HK
    have HK0 : Hid ((keepOnly r).commits = [] ∧ (keepOnly r).heads = []) := by show _ ∧ _; rw [HK.out]; exact ⟨rfl, rfl⟩
    go_enter Tryd.func7, Tryd.ntmps7
    go_wp2_with fail
    rw [← HW.out]
    refine (l7Ok_is _ _ r _ (Rep.keep h0 hB0) (Rep.keep h1 hB0) hr).mono ?_
    rintro e w1 ⟨rfl, hb1⟩
    have hy1 := (hb1.block (w.heap.size + 1) (by omega)).trans hx1
    have hy2 := (hb1.block (w.heap.size + 2) (by omega)).trans hx2
    have y0 := cell_of_row w1 (w.heap.size + 2) 0 _ _ (0, 0) hy2
    have y1 := cell_of_row w1 (w.heap.size + 2) 1 _ _ (0, 0) hy2
    have x0 := cell_of_row w1 (w.heap.size + 1) 0 _ _ (0, 0) hy1
    have x1 := cell_of_row w1 (w.heap.size + 1) 1 _ _ (0, 0) hy1
    have z0 := frozen_of_row w1 (w.heap.size + 1) 0 _ _ hy1
    have z1 := frozen_of_row w1 (w.heap.size + 1) 1 _ _ hy1
    simp at y0 y1 x0 x1
    have hst := stored2 hy1 (.slice none 0 0) (.slice none 0 0)
    have u0 := cell_of_row _ (w.heap.size + 1) 0 _ _ (0, 0) hst
    have u1 := cell_of_row _ (w.heap.size + 1) 1 _ _ (0, 0) hst
    simp at u0 u1
    have hs1 := hb1.size
    have HB := hB0.trans (hb1.mono hB0.size)
    go_wp2
    refine bodyPost_ret (v := .agg #[.slice none 0 0, .slice none 0 0]) (by simp [results, Tryd.results7, go_sem, u0, u1]) rfl ⟨none, 0, none, 0, w1.heap.size, by rw [HK0.out.1, HK0.out.2]; rfl, ?_, ?_, by omega, by simp, ?_⟩
    · rw [HK0.out.1]; exact Fresh.nil _ _ _ (by decide)
    · rw [HK0.out.2]; exact Fresh.nil _ _ _ (by decide)
    · exact (HB.setCell (p := ⟨w.heap.size + 1, 0, none⟩) (Nat.le_succ _) _).setCell (p := ⟨w.heap.size + 1, 1, none⟩) (Nat.le_succ _) _
  | true =>
    rw [hr] at HK
    have HK0 : Hid ((keepOnly r).commits = onlyCs r ∧ (keepOnly r).heads = onlyHs r) := by show _ ∧ _; rw [HK.out]; exact ⟨rfl, rfl⟩
    have hfew := repo_le hr
    have HT3 := Lib.hid (repo_texts3 hr)
    have hll := liveT_len r
    have HMEM := Lib.hid (show ∀ x, x ∈ liveT r → 0 ≤ x ∧ x < (r.commits.length : Int) from fun x hx => liveT_mem hx)
    go_enter Tryd.func7, Tryd.ntmps7
    go_wp2_with fail
    rw [← HW.out]
    refine (l7Ok_is _ _ r _ (Rep.keep h0 hB0) (Rep.keep h1 hB0) hr).mono ?_
    rintro e w1 ⟨rfl, hb1⟩
    have hxa0 := (hb1.block w.heap.size (by omega)).trans hx0
    have hxa1 := (hb1.block (w.heap.size + 1) (by omega)).trans hx1
    have hxa2 := (hb1.block (w.heap.size + 2) (by omega)).trans hx2
    have q0 := cell_of_row w1 w.heap.size 0 _ _ (0, 0) hxa0
    have q1 := cell_of_row w1 w.heap.size 1 _ _ (0, 0) hxa0
    simp at q0 q1
    have HBa := hB0.trans (hb1.mono hB0.size)
    have hs1 := hb1.size
    go_wp2_with fail
    refine (l14Live_any _ _ r _ (Rep.keep h0 HBa) (Rep.keep h1 HBa) hr).mono ?_
    rintro e w2 ⟨v2, rfl, hL, hb2⟩
    have hh5 : r.heads.length ≤ 5 := by
      have h1 := (repo_parts hr).2.2
      unfold headsB at h1
      rw [Bool.and_eq_true, decide_eq_true_eq] at h1
      exact h1.1
    have hxb0 := (hb2.block w.heap.size (by omega)).trans hxa0
    have hxb1 := (hb2.block (w.heap.size + 1) (by omega)).trans hxa1
    have hxb2 := (hb2.block (w.heap.size + 2) (by omega)).trans hxa2
    have HBb := HBa.trans (hb2.mono HBa.size)
    have hs2 := hb2.size
    have HC : Hid (onlyCs r = (liveT r).map fun i => onlyC (liveT r) (r.commits.getD i.toNat noCommit)) := rfl
    have HH : Hid (onlyHs r = r.heads.map (onlyH (liveT r))) := rfl
    obtain ⟨ls, hls⟩ : ∃ ls, ls = liveT r := ⟨_, rfl⟩
    rw [← hls] at hL hll HMEM HC HH
    obtain ⟨al, cl, hvl, _⟩ := hL.shape
    subst hvl
    have hLs := (rd_slice_of hL.rd2).2
    obtain ⟨cs, hcs⟩ : ∃ cs, cs = r.commits := ⟨_, rfl⟩
    have HT3 : Hid (∀ (j : Nat) (hj : j < cs.length), cs[j].tree.length ≤ 1000 ∧ (∀ f, f ∈ cs[j].tree → f.text.length ≤ 10) ∧ cs[j].parents.length ≤ 2) := by subst hcs; exact HT3
    rw [← hcs] at hs hll HMEM HC hfew hxb0
    try rw [← hcs]
    obtain ⟨ob, hob⟩ : ∃ ob, ob = w.heap.size + 2 := ⟨_, rfl⟩
    obtain ⟨C1, hC1⟩ : ∃ C1, C1 = w1.heap.size := ⟨_, rfl⟩
    have hLs : IsSlice (fun b => C1 ≤ b ∧ b < w2.heap.size) w2 al cl ls := by rw [hC1]; exact hLs
    have hobn : w.heap.size + 1 < ob ∧ ob < C1 ∧ C1 ≤ w2.heap.size := by omega
    rw [← hob] at hxb2
    try rw [← hob]
    have HOBN := Lib.hid hobn
    clear hls hL hcs hb1 hb2 hr hS hM h0 h1 HBa hx0 hx1 hx2 hxa0 hxa1 hxa2 hB0 HW q0 q1 hs1 hs2 hsb hob hC1 hle
    have hzz := hobn.1
    go_wp2
    go_loopw [5] (fun i wr => (∃ (k : Nat) (ol : List Commit) (cv : Value), k ≤ ls.length ∧ i = .int .i64 k ∧ ol.length ≤ k ∧ wr.heap[ob]? = some (.cells #[cv, .slice none 0 0] 30 (0, 0)) ∧ Fresh w2.heap.size wr.heap.size wr [cv] ol ∧ wr.heap[w.heap.size]? = some (.cells #[.slice a cs.length cap, .slice a1 r.heads.length c1] 30 (0, 0)) ∧ wr.heap[w.heap.size + 1]? = some (.cells #[.slice none 0 0, .slice none 0 0] 30 (0, 0)) ∧ IsSlice (fun b => C1 ≤ b ∧ b < w2.heap.size) wr al cl ls ∧ w2.heap.size ≤ wr.heap.size ∧ Hid (onlyCs r = ol ++ (ls.drop k).map fun i => onlyC ls (cs.getD i.toNat noCommit))) ∧ Below w.heap.size w wr) (fun i _ => ls.length - (intOf i).toNat)
    case atStart => exact ⟨⟨0, [], .slice none 0 0, by omega, rfl, by simp, hxb2, Fresh.nil _ _ _ (by decide), hxb0, hxb1, hLs, Nat.le_refl _, by show _ = _; rw [HC.out]; rfl⟩, HBb⟩
    case round =>
      clear hxb0 hxb1 hxb2 hLs HBb
      obtain ⟨⟨k, ol, cv, hk, rfl, hol, hrow, hF, hr0, hr1, hLs, hs3, HA⟩, hb⟩ := hrel
      obtain ⟨a3, c3, hv3, _⟩ := hF.shape
      subst hv3
      obtain ⟨wo, rfl⟩ : ∃ wo : World, wo = wr := ⟨_, rfl⟩
      have hsr := hb.size
      have q0r := cell_of_row wo w.heap.size 0 _ _ (0, 0) hr0
      have q1r := cell_of_row wo w.heap.size 1 _ _ (0, 0) hr0
      have o0r := cell_of_row wo ob 0 _ _ (0, 0) hrow
      have o1r := cell_of_row wo ob 1 _ _ (0, 0) hrow
      simp at q0r q1r o0r o1r
      by_cases hlt : k < ls.length
      · have HN := Lib.hid (map_next (f := fun i : Int => onlyC ls (cs.getD i.toNat noCommit)) HA.out hlt)
        obtain ⟨gl, offl, hagl, hcl, _⟩ := hLs.int hlt
        subst hagl
        obtain ⟨hx0, hx1⟩ := HMEM.out _ (List.getElem_mem hlt)
        obtain ⟨j, hj⟩ : ∃ j : Nat, ls[k] = (j : Int) := ⟨ls[k].toNat, by omega⟩
        have hjl : j < cs.length := by omega
        rw [hj] at hcl
        have HN : Hid (onlyCs r = (ol ++ [onlyC ls cs[j]]) ++ (ls.drop (k + 1)).map fun i => onlyC ls (cs.getD i.toNat noCommit)) := by
          show _ = _
          have h := HN.out
          rw [hj] at h
          simp only [Int.toNat_natCast, getD_com hjl] at h
          exact h
        obtain ⟨g, off, ap, np, at2, nt, hag, hc0, hc1, hc2, hpar, hz1, htr⟩ := hs.commit hjl
        subst hag
        obtain ⟨htl, htx, hpf⟩ := HT3.out j hjl
        obtain ⟨c, hc⟩ : ∃ c, c = cs[j] := ⟨_, rfl⟩
        rw [← hc] at hc0 hc1 hc2 hpar hz1 htr hpf htl htx HN
        have hc0r := keepc hc0 hb
        have hc1r := keepc hc1 hb
        have hc2r := keepc hc2 hb
        have hparr := (hpar.keep hb).rd
        have htrr := (htr.keep hb).rd
        have hbl0 : Below wo.heap.size wo (wo.drew.alloc (.cells #[.slice none 0 0, .string ⟨#[]⟩, .slice none 0 0] 53)) := (Below.refl _ _).drew.alloc (by simp) _
        clear hc hx0 hx1 hj hc0 hc1 hc2 htr hpar
        go_wp2_with fail
        go_region_held3 (fun w' => w'.cell? ⟨w.heap.size, 0, none⟩ = some (.slice (some ⟨g, off, none⟩) cs.length cap) ∧ w'.cell? ⟨gl, offl + k, none⟩ = some (.int .i64 (j : Int)) ∧ w'.cell? ⟨g, off + j * 3, none⟩ = some (.slice ap c.parents.length np) ∧ w'.cell? ⟨g, off + j * 3 + 1, none⟩ = some (.string c.who) ∧ w'.cell? ⟨g, off + j * 3 + 2, none⟩ = some (.slice at2 c.tree.length nt))
          (first | go_keep | exact K9 | exact ⟨q0r, hcl, hc0r, hc1r, hc2r⟩ | exact ⟨keepc q0r hbl0, keepc hcl hbl0, keepc hc0r hbl0, keepc hc1r hbl0, keepc hc2r hbl0⟩ | exact ⟨keepc q0r (hbV.alloc hbV.size _), keepc hcl (hbV.alloc hbV.size _), keepc hc0r (hbV.alloc hbV.size _), keepc hc1r (hbV.alloc hbV.size _), keepc hc2r (hbV.alloc hbV.size _)⟩ | (have hbS := (((hbV.setCell (p := ⟨wo.heap.size, 0, none⟩) (Nat.le_refl _) (.slice a0 c.parents.length c0)).setCell (p := ⟨wo.heap.size, 1, none⟩) (Nat.le_refl _) (.string c.who)).setCell (p := ⟨wo.heap.size, 2, none⟩) (Nat.le_refl _) (.slice a2 c.tree.length c2)); exact ⟨keepc q0r hbS, keepc hcl hbS, keepc hc0r hbS, keepc hc1r hbS, keepc hc2r hbS⟩))
          (first
            | (go_at_call 26; refine (copyCommit_any c _ _ _ (Rep.drew hparr) (Rep.drew htrr) hz1 (by omega) htl htx).mono ?_; rintro e w6 ⟨a0, c0, a2, c2, mid, rfl, h60, h62, hm1, hm2, hb6⟩; have hbV : Below wo.heap.size wo w6 := (Below.refl _ _).drew.trans (hb6.mono (by simp)); have K9 := And.intro (keepc q0r hbV) (And.intro (keepc hcl hbV) (And.intro (keepc hc0r hbV) (And.intro (keepc hc1r hbV) (keepc hc2r hbV)))); have hB := True.intro; obtain ⟨lo, hlo⟩ : ∃ lo, lo = wo.heap.size := ⟨_, rfl⟩; obtain ⟨hi, hhi⟩ : ∃ hi, hi = w6.heap.size := ⟨_, rfl⟩; have h60 : Fresh lo mid w6 [.slice a0 c.parents.length c0] c.parents := (by rw [hlo]; exact h60); have h62 : Fresh mid hi w6 [.slice a2 c.tree.length c2] c.tree := (by rw [hhi]; exact h62); have hmm : wo.heap.size ≤ lo ∧ lo ≤ mid ∧ mid ≤ hi ∧ hi ≤ w6.heap.size := (by simp only [drew_size] at hm1; omega))
            | (go_at_call 26; refine (copyCommit_any c _ _ _ (Rep.alloc (Rep.drew hparr) (.cells #[.slice none 0 0, .string ⟨#[]⟩, .slice none 0 0] 53)) (Rep.alloc (Rep.drew htrr) (.cells #[.slice none 0 0, .string ⟨#[]⟩, .slice none 0 0] 53)) hz1 (by omega) htl htx).mono ?_; rintro e w6 ⟨a0, c0, a2, c2, mid, rfl, h60, h62, hm1, hm2, hb6⟩; have hbV : Below wo.heap.size wo w6 := ((Below.refl _ _).drew.alloc (by simp) (.cells #[.slice none 0 0, .string ⟨#[]⟩, .slice none 0 0] 53)).trans (hb6.mono (by simp)); have K9 := And.intro (keepc q0r hbV) (And.intro (keepc hcl hbV) (And.intro (keepc hc0r hbV) (And.intro (keepc hc1r hbV) (keepc hc2r hbV)))); have hA := True.intro; have hbx9 := (hb6.block wo.heap.size (by simp)).trans (heap_alloc_new wo.drew (.cells #[.slice none 0 0, .string ⟨#[]⟩, .slice none 0 0] 53)); have x0 := (cell_of_row w6 wo.heap.size 0 _ _ (0, 0) hbx9); have x1 := (cell_of_row w6 wo.heap.size 1 _ _ (0, 0) hbx9); have x2 := (cell_of_row w6 wo.heap.size 2 _ _ (0, 0) hbx9); have z0 := frozen_of_row w6 wo.heap.size 0 _ _ hbx9; have z1 := frozen_of_row w6 wo.heap.size 1 _ _ hbx9; have z2 := frozen_of_row w6 wo.heap.size 2 _ _ hbx9; simp at x0 x1 x2; obtain ⟨lo, hlo⟩ : ∃ lo, lo = wo.heap.size + 1 := ⟨_, rfl⟩; obtain ⟨hi, hhi⟩ : ∃ hi, hi = w6.heap.size := ⟨_, rfl⟩; have h60 : Fresh lo mid w6 [.slice a0 c.parents.length c0] c.parents := (by rw [hlo]; exact h60.mono (by simp) (Nat.le_refl _)); have h62 : Fresh mid hi w6 [.slice a2 c.tree.length c2] c.tree := (by rw [hhi]; exact h62); have hmm : wo.heap.size < lo ∧ lo ≤ mid ∧ mid ≤ hi ∧ hi ≤ w6.heap.size := (by simp only [alloc_size2, drew_size] at hm1; omega)))
        any_goals (
          have hm := hA
          obtain ⟨wz, hwz⟩ : ∃ wz, wz = ((w6.setCell ⟨wo.heap.size, 0, none⟩ (.slice a0 c.parents.length c0)).setCell ⟨wo.heap.size, 1, none⟩ (.string c.who)).setCell ⟨wo.heap.size, 2, none⟩ (.slice a2 c.tree.length c2) := ⟨_, rfl⟩
          obtain ⟨cb, hcb⟩ : ∃ cb, cb = wo.heap.size := ⟨_, rfl⟩
          have hbox : wz.heap[cb]? = some (.cells #[.slice a0 c.parents.length c0, .string c.who, .slice a2 c.tree.length c2] 53 (0, 0)) := (by rw [hwz, hcb]; exact stored3 hbx9 _ _ _)
          have hszz : w6.heap.size ≤ wz.heap.size ∧ cb < wz.heap.size := (by rw [hwz]; simp <;> omega)
          have hPz : Fresh lo mid wz [.slice a0 c.parents.length c0] c.parents := (by rw [hwz]; exact ((h60.setCell (.inl (by show wo.heap.size < _; omega))).setCell (.inl (by show wo.heap.size < _; omega))).setCell (.inl (by show wo.heap.size < _; omega)))
          have hTz : Fresh mid hi wz [.slice a2 c.tree.length c2] c.tree := (by rw [hwz]; exact ((h62.setCell (.inl (by show wo.heap.size < _; omega))).setCell (.inl (by show wo.heap.size < _; omega))).setCell (.inl (by show wo.heap.size < _; omega)))
          have hbz : Below wo.heap.size wo wz := (by rw [hwz]; exact ((hbV.setCell (p := ⟨wo.heap.size, 0, none⟩) (Nat.le_refl _) _).setCell (p := ⟨wo.heap.size, 1, none⟩) (Nat.le_refl _) _).setCell (p := ⟨wo.heap.size, 2, none⟩) (Nat.le_refl _) _)
          have hcb1 : wo.heap.size ≤ cb ∧ (cb < lo ∨ hi ≤ cb) := (by omega)
          rw [← hwz, ← hcb])
        any_goals (
          have hm := hB
          obtain ⟨wz, hwz⟩ : ∃ wz, wz = w6.alloc (.cells #[.slice a0 c.parents.length c0, .string c.who, .slice a2 c.tree.length c2] 53) := ⟨_, rfl⟩
          obtain ⟨cb, hcb⟩ : ∃ cb, cb = w6.heap.size := ⟨_, rfl⟩
          have hbox : wz.heap[cb]? = some (.cells #[.slice a0 c.parents.length c0, .string c.who, .slice a2 c.tree.length c2] 53 (0, 0)) := (by rw [hwz, hcb]; exact heap_alloc_new _ _)
          have hszz : w6.heap.size ≤ wz.heap.size ∧ cb < wz.heap.size := (by rw [hwz]; simp <;> omega)
          have hPz : Fresh lo mid wz [.slice a0 c.parents.length c0] c.parents := (by rw [hwz]; exact h60.alloc _)
          have hTz : Fresh mid hi wz [.slice a2 c.tree.length c2] c.tree := (by rw [hwz]; exact h62.alloc _)
          have hbz : Below wo.heap.size wo wz := (by rw [hwz]; exact hbV.alloc hbV.size _)
          have hcb1 : wo.heap.size ≤ cb ∧ (cb < lo ∨ hi ≤ cb) := (by have := hbV.size; omega)
          rw [← hwz, ← hcb])
        all_goals
          clear K9
          have hszz2 := hszz.2
          have hmidz : hi ≤ wz.heap.size := by omega
          have hordP : cb < lo ∨ mid ≤ cb := by omega
          have hordT : cb < mid ∨ hi ≤ cb := by omega
          have hlom : wo.heap.size ≤ lo := by omega
          have hmids : lo ≤ mid ∧ mid ≤ hi := by omega
          obtain ⟨ps, hps⟩ : ∃ ps, ps = c.parents := ⟨_, rfl⟩
          have HPS := Lib.hid hps
          rw [← hps] at hPz hbox hpf
          try rw [← hps]
          have hcell0 := cell_of_row wz cb 0 _ _ (0, 0) hbox
          simp at hcell0
          clear hps hwz hcb hlo hhi hszz hbV h60 h62 hmm hm1 hm2 hb6 hc0r hc1r hc2r hparr htrr hcl
          go_wp2
          go_loopw [7] (fun i wq => (∃ (m : Nat) (ys : List Int), m ≤ ps.length ∧ i = .int .i64 m ∧ ys.length = ps.length ∧ ys.drop m = ps.drop m ∧ ys.take m = (ps.take m).map (place ls) ∧ wq.heap[cb]? = some (.cells #[.slice a0 ps.length c0, .string c.who, .slice a2 c.tree.length c2] 53 (0, 0)) ∧ Fresh lo mid wq [.slice a0 ps.length c0] ys ∧ Fresh mid hi wq [.slice a2 c.tree.length c2] c.tree ∧ wz.heap.size ≤ wq.heap.size) ∧ Below wo.heap.size wo wq) (fun i _ => ps.length - (intOf i).toNat)
          case atStart => exact ⟨⟨0, ps, by omega, rfl, rfl, rfl, by simp, hbox, hPz, hTz, Nat.le_refl _⟩, hbz⟩
          case round =>
            clear hbox hPz hTz hbz hcell0
            obtain ⟨⟨m, ys, hm, rfl, hyl, hyd, hyt, hbox, hP, hTr, hszq⟩, hbq⟩ := hrel
            have hbs := hb.trans (hbq.mono hb.size)
            have hLq : IsSlice (fun b => C1 ≤ b ∧ b < w2.heap.size) wr (some ⟨gl, offl, none⟩) cl ls := hLs.frame fun b hb' hl => ⟨hbq.block b (by omega), hb'⟩
            have hsq := hbq.size
            have y0 := cell_of_row wr cb 0 _ _ (0, 0) hbox
            have y1 := cell_of_row wr cb 1 _ _ (0, 0) hbox
            have y2 := cell_of_row wr cb 2 _ _ (0, 0) hbox
            simp at y0 y1 y2
            by_cases hlm : m < ps.length
            · obtain ⟨gp, hgp, hg0, hg1⟩ := hP.addr (by omega)
              subst hgp
              obtain ⟨g5, off5, hag5, hd5, hi5⟩ := (rd_slice_of hP.rd2).2.int (i := m) (by omega)
              obtain ⟨rfl, rfl⟩ : gp = g5 ∧ 0 = off5 := by simpa using hag5
              rw [Nat.zero_add] at hd5
              have hym : ys[m]'(by omega) = ps[m] := drop_at hyd (by omega) hlm
              obtain ⟨p, hp⟩ : ∃ p, p = ps[m] := ⟨_, rfl⟩
              rw [hym, ← hp] at hd5 hi5
              have hsl := place_le ls p
              obtain ⟨s, hs1⟩ : ∃ s, place ls p = s := ⟨_, rfl⟩
              rw [hs1] at hsl
              have HS1 := Lib.hid hs1
              have hi64s : I64 s := by unfold I64; omega
              have HYS := Lib.hid (show (ys.set m s).length = ps.length ∧ (ys.set m s).drop (m + 1) = ps.drop (m + 1) ∧ (ys.set m s).take (m + 1) = (ps.take (m + 1)).map (place ls) from ⟨by simpa using hyl, by rw [set_drop1, drop_more hyd], by rw [set_take1 (by omega) s, hyt, List.take_succ_eq_append_getElem hlm, List.map_append, ← hp, List.map_cons, hs1]; rfl⟩)
              clear hp hs1 hyd hym hag5 hyt
              obtain ⟨_, hfz0, _, _⟩ := hP.there1 rfl (i := m) (by omega)
              have hP1 := (hP.drew.set1 rfl (i := m) (by omega) (u := .int .i64 s) (y := s) (Fresh.leaf (m := mid) (own_i64s s hi64s _)) hmids.1).one.mono hg0 hg1
              have hne : gp ≠ cb := by omega
              have hbx1 : (wr.drew.setCell ⟨gp, m, none⟩ (.int .i64 s)).heap[cb]? = _ := (Below.heap_setCell wr.drew _ _ cb (fun e => hne e.symm)).trans hbox
              have hT1 := hTr.drew.setCell (a := ⟨gp, m, none⟩) (u := .int .i64 s) (.inl hg1)
              have hB1 := hbq.drew.setCell (p := ⟨gp, m, none⟩) (by show wo.heap.size ≤ gp; omega) (.int .i64 s)
              have hs1q : (wr.drew.setCell ⟨gp, m, none⟩ (.int .i64 s)).heap.size = wr.heap.size := by simp
              have hmy : m < ps.length := hlm
              go_wp2_with fail
              go_region_law (first | (go_simp; go_at_call 27; with_reducible refine (l14Place_is _ ls p _ (Rep.drew hLq.rd) (by omega) HS1.out).mono ?_; rintro e w5 ⟨rfl, rfl⟩))
              all_goals
                go_wp2
                go_roundw
                case rel => exact ⟨⟨m + 1, ys.set m s, by omega, by go_num, HYS.out.1, HYS.out.2.1, HYS.out.2.2, hbx1, hP1, hT1, by first | omega | (simp; exact hszq) | (simp; omega)⟩, hB1⟩
                case measure => simp [intOf] <;> omega
            · have hmp : m = ps.length := by omega
              have HE : Hid ((⟨ys, c.who, c.tree⟩ : Commit) = onlyC ls c) := by
                show _ = _
                have h1 : ys.take m = ys := List.take_of_length_le (by omega)
                have h2 : ps.take m = ps := List.take_of_length_le (by omega)
                rw [h1, h2] at hyt
                unfold onlyC
                rw [hyt, HPS.out]
              have hFo := hF.below (Nat.le_refl _) hbq
              have hcm : Fresh lo hi wr [.slice a0 ps.length c0, .string c.who, .slice a2 c.tree.length c2] (⟨ys, c.who, c.tree⟩ : Commit) := Fresh.commit (p := (⟨ys, c.who, c.tree⟩ : Commit)) hP hz1 hTr hmids.1 hmids.2
              have hrow2 := (hbq.block ob (by omega)).trans hrow
              have hr02 := (hbq.block w.heap.size (by omega)).trans hr0
              have hr12 := (hbq.block (w.heap.size + 1) (by omega)).trans hr1
              have t0 := cell_of_row wr ob 0 _ _ (0, 0) hrow2
              have t1 := cell_of_row wr ob 1 _ _ (0, 0) hrow2
              simp at t0 t1
              clear hmp hyt
              go_wp2_with (at_builtin; go_must (refine wpList_app_one slz_commit.slt rfl (.tmp 50) (.tmp 52) rfl rfl (hFo.alloc _) (by simp; omega) rfl (heap_alloc_new _ _) ((hcm.alloc _).mono hlom (Nat.le_refl _)) (by omega) (by omega) (by unfold maxLen; omega) ?_); intro a7 c7 w7 hG7; have hw7 := hG7.below.size; simp only [alloc_size2] at hw7; have hrow7 := (hG7.rest ob (by simp; omega) (.inl (by omega))).trans ((Below.heap_alloc wr _ ob (by omega)).trans hrow2); have u0 := cell_of_row w7 ob 0 _ _ (0, 0) hrow7; have u1 := frozen_of_row w7 ob 0 _ _ hrow7; simp at u0)
              have hrowS := heap_setCell_same w7 ob 0 _ _ (.slice a7 (ol.length + 1) c7) hrow7
              have hr07 := (Below.heap_setCell w7 ⟨ob, 0, none⟩ (.slice a7 (ol.length + 1) c7) w.heap.size (by show w.heap.size ≠ ob; omega)).trans ((hG7.rest w.heap.size (by simp; omega) (.inl (by omega))).trans ((Below.heap_alloc wr _ w.heap.size (by omega)).trans hr02))
              have hr17 := (Below.heap_setCell w7 ⟨ob, 0, none⟩ (.slice a7 (ol.length + 1) c7) (w.heap.size + 1) (by show w.heap.size + 1 ≠ ob; omega)).trans ((hG7.rest (w.heap.size + 1) (by simp; omega) (.inl (by omega))).trans ((Below.heap_alloc wr _ (w.heap.size + 1) (by omega)).trans hr12))
              have hL7 : IsSlice (fun b => C1 ≤ b ∧ b < w2.heap.size) w7 (some ⟨gl, offl, none⟩) cl ls := (hLq.alloc _).frame fun b hb' hl => ⟨hG7.rest b hl (.inl (by omega)), hb'⟩
              have hL8 := hL7.setCell (p := ⟨ob, 0, none⟩) (u := .slice a7 (ol.length + 1) c7) (by show ¬ (C1 ≤ ob ∧ _); omega)
              have hF8 := (hG7.fresh.setCell (a := ⟨ob, 0, none⟩) (u := .slice a7 (ol.length + 1) c7) (.inl (by show ob < _; omega)))
              have hB8 := ((hbs.alloc (by omega) _).trans (hG7.below.mono (by omega))).setCell (p := ⟨ob, 0, none⟩) (by show w.heap.size ≤ ob; omega) (.slice a7 (ol.length + 1) c7)
              go_roundw
              case rel => exact ⟨⟨k + 1, ol ++ [onlyC ls c], _, by omega, by go_num, by simp; omega, hrowS, by rw [← HE.out]; simpa using hF8, hr07, hr17, hL8, by simp; omega, HN.out⟩, hB8⟩
              case measure => simp [intOf] <;> omega
      · have HN := Lib.hid (map_end HA.out hlt)
        have hLr := hLs.rd
        obtain ⟨m1, hm1⟩ : ∃ m1, m1 = wo.heap.size := ⟨_, rfl⟩
        have hFm : Fresh w2.heap.size m1 wo [.slice a3 ol.length c3] ol := by rw [hm1]; exact hF
        have hm1b : w2.heap.size ≤ m1 := by omega
        have HHO : Hid (onlyHs r = [] ++ (r.heads.drop 0).map (onlyH ls)) := by show _ = _; rw [HH.out]; rfl
        have hC12 : ob < C1 ∧ C1 ≤ w2.heap.size := hobn.2
        clear hF q0r q1r o0r o1r
        go_wp2
        go_loopw [8] (fun i wq => (∃ (k : Nat) (oh : List Head) (hv : Value), k ≤ r.heads.length ∧ i = .int .i64 k ∧ oh.length ≤ k ∧ wq.heap[ob]? = some (.cells #[.slice a3 ol.length c3, hv] 30 (0, 0)) ∧ Fresh w2.heap.size m1 wq [.slice a3 ol.length c3] ol ∧ Fresh m1 wq.heap.size wq [hv] oh ∧ wq.heap[w.heap.size]? = some (.cells #[.slice a cs.length cap, .slice a1 r.heads.length c1] 30 (0, 0)) ∧ wq.heap[w.heap.size + 1]? = some (.cells #[.slice none 0 0, .slice none 0 0] 30 (0, 0)) ∧ IsSlice (fun b => C1 ≤ b ∧ b < w2.heap.size) wq al cl ls ∧ m1 ≤ wq.heap.size ∧ Hid (onlyHs r = oh ++ (r.heads.drop k).map (onlyH ls))) ∧ Below w.heap.size w wq) (fun i _ => r.heads.length - (intOf i).toNat)
        case atStart => exact ⟨⟨0, [], .slice none 0 0, by omega, rfl, by simp, hrow, hFm, Fresh.nil _ _ _ (by decide), hr0, hr1, hLs, by omega, HHO.out⟩, hb⟩
        case round =>
          clear hrow hFm hr0 hr1 hLs hb hsr hLr
          obtain ⟨⟨k, oh, hv, hk, rfl, hoh, hrow, hFm, hG, hr0, hr1, hLs, hmz, HI⟩, hb⟩ := hrel
          obtain ⟨a4, c4, hv4, _⟩ := hG.shape
          subst hv4
          have hsr := hb.size
          have q0r := cell_of_row wr w.heap.size 0 _ _ (0, 0) hr0
          have q1r := cell_of_row wr w.heap.size 1 _ _ (0, 0) hr0
          have o0r := cell_of_row wr ob 0 _ _ (0, 0) hrow
          have o1r := cell_of_row wr ob 1 _ _ (0, 0) hrow
          have z0r := frozen_of_row wr ob 1 _ _ hrow
          have e0r := cell_of_row wr (w.heap.size + 1) 0 _ _ (0, 0) hr1
          have e1r := cell_of_row wr (w.heap.size + 1) 1 _ _ (0, 0) hr1
          have f0r := frozen_of_row wr (w.heap.size + 1) 0 _ _ hr1
          have f1r := frozen_of_row wr (w.heap.size + 1) 1 _ _ hr1
          simp at q0r q1r o0r o1r e0r e1r
          by_cases hlt : k < r.heads.length
          · have HN2 := Lib.hid (map_next (f := onlyH ls) HI.out hlt)
            obtain ⟨gh, offh, hagh, hd1, hd2, hz1, hz2⟩ := (hh.keep hb).branch hlt
            subst hagh
            obtain ⟨h, hh0⟩ : ∃ h, h = r.heads[k] := ⟨_, rfl⟩
            rw [← hh0] at hd1 hd2 hz1 hz2 HN2
            obtain ⟨s, hs1⟩ : ∃ s, place ls h.at_ = s := ⟨_, rfl⟩
            have hsl := place_le ls h.at_
            rw [hs1] at hsl
            have HS1 := Lib.hid hs1
            have hi64s : I64 s := by unfold I64; omega
            have HN2 : Hid (onlyHs r = (oh ++ [(⟨h.name, s⟩ : Head)]) ++ (r.heads.drop (k + 1)).map (onlyH ls)) := by
              show _ = _
              have h1 := HN2.out
              unfold onlyH at h1 ⊢
              rw [hs1] at h1
              exact h1
            have o1a : (wr.alloc (.cells #[.string h.name, .int .i64 s] 57)).cell? ⟨ob, 1, none⟩ = _ := (World.cell?_of_block (Below.heap_alloc wr _ ob (by omega))).trans o1r
            clear hs1 hh0 e0r e1r f0r f1r q0r o0r
            have K0 := And.intro q1r (And.intro hd1 hd2)
            have hghw : gh < wr.heap.size := World.block_lt_of_cell? wr _ hd1
            have hgho : gh ≠ ob := by obtain ⟨g9, o9, u9, e9, h9, _⟩ := (hh.keep hb).elem hlt; obtain ⟨rfl, rfl⟩ : gh = g9 ∧ offh = o9 := (by simpa using e9); have h9 : gh < w.heap.size := h9; omega
            have hghm : gh < m1 := by obtain ⟨g9, o9, u9, e9, h9, _⟩ := (hh.keep hb).elem hlt; obtain ⟨rfl, rfl⟩ : gh = g9 ∧ offh = o9 := (by simpa using e9); have h9 : gh < w.heap.size := h9; omega
            go_wp2_with fail
            refine wp_region_U (fun w' => w'.cell? ⟨w.heap.size, 1, none⟩ = some (.slice (some ⟨gh, offh, none⟩) r.heads.length c1) ∧ w'.cell? ⟨gh, offh + k * 2, none⟩ = some (.string h.name) ∧ w'.cell? ⟨gh, offh + k * 2 + 1, none⟩ = some (.int .i64 h.at_)) (fun w' => w'.cell? ⟨ob, 1, none⟩ = some (.slice a4 oh.length c4)) 18 (by kernel_rfl) K0 o1r (fun hSw hTw => ?_)
            refine wpAnyU_takeS (i := 0) (v := ?_) rfl (by kernel_rfl) (by kernel_rfl) (by kernel_rfl) (fun _ _ _ h => h) (by decide) (Or.inl ⟨by kernel_rfl, ?_⟩) hSw (fun _ => hTw) ?_
            rotate_left
            · intro w hSw; (try dsimp only at hSw); go_simp; with_reducible rfl
            try simp only [Act.put, List.getElem_toArray, List.getElem_cons_zero, List.setIfInBounds_toArray, List.set_cons_zero, List.set_cons_succ]
            refine wpAnyU_takeT (i := 1) (v := ?_) rfl (by kernel_rfl) (by kernel_rfl) (by kernel_rfl) (fun _ _ _ h => h) (by decide) rfl (by kernel_rfl) (by kernel_rfl) (Or.inl ⟨by kernel_rfl, ?_⟩) hSw hTw ?_
            rotate_left
            · intro w hSw; (try dsimp only at hSw); go_simp; with_reducible rfl
            try simp only [Act.put, List.getElem_toArray, List.getElem_cons_zero, List.getElem_cons_succ, List.setIfInBounds_toArray, List.set_cons_zero, List.set_cons_succ]
            refine wpAnyU_takeS (i := 2) (v := ?_) rfl (by kernel_rfl) (by kernel_rfl) (by kernel_rfl) (fun _ _ _ h => h) (by decide) (Or.inl ⟨by kernel_rfl, ?_⟩) hSw (fun _ => hTw) ?_
            rotate_left
            · intro w hSw; (try dsimp only at hSw); go_simp; with_reducible rfl
            try simp only [Act.put, List.getElem_toArray, List.getElem_cons_zero, List.getElem_cons_succ, List.setIfInBounds_toArray, List.set_cons_zero, List.set_cons_succ]
            refine wpAnyU_takeS (i := 3) (v := ?_) rfl (by kernel_rfl) (by kernel_rfl) (by kernel_rfl) (fun _ _ _ h => h) (by decide) (Or.inl ⟨by kernel_rfl, ?_⟩) hSw (fun _ => hTw) ?_
            rotate_left
            · intro w hSw; (try dsimp only at hSw); go_simp; with_reducible rfl
            try simp only [Act.put, List.getElem_toArray, List.getElem_cons_zero, List.getElem_cons_succ, List.setIfInBounds_toArray, List.set_cons_zero, List.set_cons_succ]
            refine wpAnyU_takeS (i := 4) (v := ?_) rfl (by kernel_rfl) (by kernel_rfl) (by kernel_rfl) (fun _ _ _ h => h) (by decide) (Or.inl ⟨by kernel_rfl, ?_⟩) hSw (fun _ => hTw) ?_
            rotate_left
            · intro w hSw; (try dsimp only at hSw); go_simp; with_reducible rfl
            try simp only [Act.put, List.getElem_toArray, List.getElem_cons_zero, List.getElem_cons_succ, List.setIfInBounds_toArray, List.set_cons_zero, List.set_cons_succ]
            refine wpAnyU_takeS (i := 5) (v := ?_) rfl (by kernel_rfl) (by kernel_rfl) (by kernel_rfl) (fun _ _ _ h => h) (by decide) (Or.inl ⟨by kernel_rfl, ?_⟩) hSw (fun _ => hTw) ?_
            rotate_left
            · intro w hSw; (try dsimp only at hSw); go_simp; with_reducible rfl
            try simp only [Act.put, List.getElem_toArray, List.getElem_cons_zero, List.getElem_cons_succ, List.setIfInBounds_toArray, List.set_cons_zero, List.set_cons_succ]
            refine wpAnyU_takeS (i := 6) (v := ?_) rfl (by kernel_rfl) (by kernel_rfl) (by kernel_rfl) (fun _ _ _ h => h) (by decide) (Or.inl ⟨by kernel_rfl, ?_⟩) hSw (fun _ => hTw) ?_
            rotate_left
            · intro w hSw; (try dsimp only at hSw); go_simp; with_reducible rfl
            try simp only [Act.put, List.getElem_toArray, List.getElem_cons_zero, List.getElem_cons_succ, List.setIfInBounds_toArray, List.set_cons_zero, List.set_cons_succ]
            refine wpAnyU_takeS (i := 7) (v := ?_) rfl (by kernel_rfl) (by kernel_rfl) (by kernel_rfl) (fun _ _ _ h => h) (by decide) (Or.inl ⟨by kernel_rfl, ?_⟩) hSw (fun _ => hTw) ?_
            rotate_left
            · intro w hSw; (try dsimp only at hSw); go_simp; with_reducible rfl
            try simp only [Act.put, List.getElem_toArray, List.getElem_cons_zero, List.getElem_cons_succ, List.setIfInBounds_toArray, List.set_cons_zero, List.set_cons_succ]
            refine wpAnyU_takeS (i := 8) (v := ?_) rfl (by kernel_rfl) (by kernel_rfl) (by kernel_rfl) (fun _ _ _ h => h) (by decide) (Or.inl ⟨by kernel_rfl, ?_⟩) hSw (fun _ => hTw) ?_
            rotate_left
            · intro w hSw; (try dsimp only at hSw); go_simp; with_reducible rfl
            try simp only [Act.put, List.getElem_toArray, List.getElem_cons_zero, List.getElem_cons_succ, List.setIfInBounds_toArray, List.set_cons_zero, List.set_cons_succ]
            refine wpAnyU_takeS (i := 9) (v := ?_) rfl (by kernel_rfl) (by kernel_rfl) (by kernel_rfl) (fun _ _ _ h => h) (by decide) (Or.inl ⟨by kernel_rfl, ?_⟩) hSw (fun _ => hTw) ?_
            rotate_left
            · intro w hSw; (try dsimp only at hSw); go_simp; with_reducible rfl
            try simp only [Act.put, List.getElem_toArray, List.getElem_cons_zero, List.getElem_cons_succ, List.setIfInBounds_toArray, List.set_cons_zero, List.set_cons_succ]
            refine wpAnyU_takeS (i := 10) (v := ?_) rfl (by kernel_rfl) (by kernel_rfl) (by kernel_rfl) (fun _ _ _ h => h) (by decide) (Or.inl ⟨by kernel_rfl, ?_⟩) hSw (fun _ => hTw) ?_
            rotate_left
            · intro w hSw; (try dsimp only at hSw); go_simp; with_reducible rfl
            try simp only [Act.put, List.getElem_toArray, List.getElem_cons_zero, List.getElem_cons_succ, List.setIfInBounds_toArray, List.set_cons_zero, List.set_cons_succ]
            refine wpAnyU_takeS (i := 11) (v := ?_) rfl (by kernel_rfl) (by kernel_rfl) (by kernel_rfl) (fun _ _ _ h => h) (by decide) (Or.inl ⟨by kernel_rfl, ?_⟩) hSw (fun _ => hTw) ?_
            rotate_left
            · intro w hSw; (try dsimp only at hSw); go_simp; with_reducible rfl
            try simp only [Act.put, List.getElem_toArray, List.getElem_cons_zero, List.getElem_cons_succ, List.setIfInBounds_toArray, List.set_cons_zero, List.set_cons_succ]
            refine wpAnyU_takeS (i := 12) (v := ?_) rfl (by kernel_rfl) (by kernel_rfl) (by kernel_rfl) (fun _ _ _ h => h) (by decide) (Or.inl ⟨by kernel_rfl, ?_⟩) hSw (fun _ => hTw) ?_
            rotate_left
            · intro w hSw; (try dsimp only at hSw); go_simp; with_reducible rfl
            try simp only [Act.put, List.getElem_toArray, List.getElem_cons_zero, List.getElem_cons_succ, List.setIfInBounds_toArray, List.set_cons_zero, List.set_cons_succ]
            refine wpAnyU_takeS (i := 13) (v := ?_) rfl (by kernel_rfl) (by kernel_rfl) (by kernel_rfl) (fun _ _ _ h => h) (by decide) (Or.inl ⟨by kernel_rfl, ?_⟩) hSw (fun _ => hTw) ?_
            rotate_left
            · intro w hSw; (try dsimp only at hSw); go_simp; with_reducible rfl
            try simp only [Act.put, List.getElem_toArray, List.getElem_cons_zero, List.getElem_cons_succ, List.setIfInBounds_toArray, List.set_cons_zero, List.set_cons_succ]
            refine wpAnyU_takeS (i := 14) (v := ?_) rfl (by kernel_rfl) (by kernel_rfl) (by kernel_rfl) (fun _ _ _ h => h) (by decide) (Or.inl ⟨by kernel_rfl, ?_⟩) hSw (fun _ => hTw) ?_
            rotate_left
            · intro w hSw; (try dsimp only at hSw); go_simp; with_reducible rfl
            try simp only [Act.put, List.getElem_toArray, List.getElem_cons_zero, List.getElem_cons_succ, List.setIfInBounds_toArray, List.set_cons_zero, List.set_cons_succ]
            refine wpAnyU_one (i := 15) (by kernel_rfl) rfl ?_
            intro K' hK'
            go_simp
            go_at_call 27
            refine (l14Place_is _ ls h.at_ _ (Rep.drew hLs.rd) (by omega) HS1.out).mono ?_
            rintro e w5 ⟨rfl, rfl⟩
            refine hK'.out _ _ (hSw) (fun _ => hTw) ?_
            clear hK' K'
            try simp only [Act.put, List.getElem_toArray, List.getElem_cons_zero, List.getElem_cons_succ, List.setIfInBounds_toArray, List.set_cons_zero, List.set_cons_succ]
            refine wpAnyU_takeS (i := 16) (v := ?_) rfl (by kernel_rfl) (by kernel_rfl) (by kernel_rfl) (fun _ _ _ h => h) (by decide) (Or.inl ⟨by kernel_rfl, ?_⟩) hSw (fun _ => hTw) ?_
            rotate_left
            · intro w hSw; (try dsimp only at hSw); go_simp; with_reducible rfl
            try simp only [Act.put, List.getElem_toArray, List.getElem_cons_zero, List.getElem_cons_succ, List.setIfInBounds_toArray, List.set_cons_zero, List.set_cons_succ]
            refine wpAnyU_one (i := 17) (by kernel_rfl) rfl ?_
            intro K' hK'
            go_simp
            refine hK'.out _ _ (keep3_alloc (w := wr.drew) hSw _) (fun _ => (World.cell?_of_block (Below.heap_alloc wr.drew _ ob (by show ob < wr.heap.size; omega))).trans hTw) ?_
            clear hK' K'
            try simp only [Act.put, List.getElem_toArray, List.getElem_cons_zero, List.getElem_cons_succ, List.setIfInBounds_toArray, List.set_cons_zero, List.set_cons_succ]
            refine wpAnyU_one (i := 18) (by kernel_rfl) rfl ?_
            intro K' hK'
            refine step_app_one (xs := oh) (B := m1) (m0 := wr.heap.size) (m1 := wr.heap.size) (v := .slice a4 oh.length c4) (g := wr.heap.size) (cs := [.string h.name, .int .i64 s]) (e := 57) (y := (⟨h.name, s⟩ : Head)) slz_branch.slt rfl (.tmp 63) (.tmp 79) rfl rfl ?_ ?_ rfl ?_ ?_ ?_ ?_ ?_ ?_
            · first | exact (hG.alloc _).drew | exact hG.drew.alloc _ | exact hG.alloc _
            · first | omega | (simp; omega)
            · first | exact heap_alloc_new wr _ | exact heap_alloc_new _ _
            · exact Fresh.leaf (own_branch (p := (⟨h.name, s⟩ : Head)) hz1 hi64s)
            · omega
            · omega
            · unfold maxLen; omega
            intro a9 c9 w9 hG9
            have hw9 := hG9.below.size
            simp only [alloc_size2, drew_size] at hw9
            have hrow9 := (hG9.rest ob (by simp; omega) (.inl (by omega))).trans ((Below.heap_alloc wr _ ob (by omega)).trans hrow)
            have u0 := cell_of_row w9 ob 1 _ _ (0, 0) hrow9
            have u1 := frozen_of_row w9 ob 1 _ _ hrow9
            simp at u0
            have r0 := (hG9.rest w.heap.size (by simp; omega) (.inl (by omega))).trans (Below.heap_alloc wr _ w.heap.size (by omega))
            have rg := (hG9.rest gh (by simp; omega) (.inl (by omega))).trans (Below.heap_alloc wr _ gh (by omega))
            have K9 := And.intro ((World.cell?_of_block r0).trans K0.1) (And.intro ((World.cell?_of_block rg).trans K0.2.1) ((World.cell?_of_block rg).trans K0.2.2))
            refine hK'.out _ _ (K9) (fun h => absurd h (by simp)) ?_
            clear hK' K'
            try simp only [Act.put, List.getElem_toArray, List.getElem_cons_zero, List.getElem_cons_succ, List.setIfInBounds_toArray, List.set_cons_zero, List.set_cons_succ]
            refine wpAnyU_takeS (i := 19) (v := ?_) rfl (by kernel_rfl) (by kernel_rfl) (by kernel_rfl) (fun _ _ _ h => h) (by decide) (Or.inl ⟨by kernel_rfl, ?_⟩) K9 (fun h => absurd h (by simp)) ?_
            rotate_left
            · intro w hSw; (try dsimp only at hSw); go_simp; with_reducible rfl
            try simp only [Act.put, List.getElem_toArray, List.getElem_cons_zero, List.getElem_cons_succ, List.setIfInBounds_toArray, List.set_cons_zero, List.set_cons_succ]
            refine wpAnyU_one (i := 20) (by kernel_rfl) rfl ?_
            intro K' hK'
            go_simp
            refine hK'.out _ _ (keep3_set K9 (by (try dsimp only); omega) (by (try dsimp only); omega) (by (try dsimp only); omega)) (fun h => absurd h (by simp)) ?_
            clear hK' K'
            try simp only [Act.put, List.getElem_toArray, List.getElem_cons_zero, List.getElem_cons_succ, List.setIfInBounds_toArray, List.set_cons_zero, List.set_cons_succ]
            refine wpAnyU_done (by kernel_rfl) ?_ _
            all_goals
              have hrowS := heap_setCell_same w9 ob 1 _ _ (.slice a9 (oh.length + 1) c9) hrow9
              have hb9 : Below w.heap.size w w9 := ((hb.alloc hsr _).drew).trans (hG9.below.mono (by omega))
              have hr09 := (Below.heap_setCell w9 ⟨ob, 1, none⟩ (.slice a9 (oh.length + 1) c9) w.heap.size (by show w.heap.size ≠ ob; omega)).trans ((hG9.rest w.heap.size (by simp; omega) (.inl (by omega))).trans ((Below.heap_alloc wr _ w.heap.size (by show w.heap.size < wr.heap.size; omega)).trans hr0))
              have hr19 := (Below.heap_setCell w9 ⟨ob, 1, none⟩ (.slice a9 (oh.length + 1) c9) (w.heap.size + 1) (by show w.heap.size + 1 ≠ ob; omega)).trans ((hG9.rest (w.heap.size + 1) (by simp; omega) (.inl (by omega))).trans ((Below.heap_alloc wr _ (w.heap.size + 1) (by show w.heap.size + 1 < wr.heap.size; omega)).trans hr1))
              have hL9 : IsSlice (fun b => C1 ≤ b ∧ b < w2.heap.size) w9 al cl ls := (hLs.alloc _).frame fun b hb' hl => ⟨hG9.rest b hl (.inl (by omega)), hb'⟩
              have hLS := hL9.setCell (p := ⟨ob, 1, none⟩) (u := .slice a9 (oh.length + 1) c9) (by show ¬ (C1 ≤ ob ∧ _); omega)
              have hF9 : Fresh w2.heap.size m1 w9 [.slice a3 ol.length c3] ol := (hFm.alloc _).keep fun b h1 h2 h3 => hG9.rest b h3 (.inl (by omega))
              have hFS := hF9.setCell (a := ⟨ob, 1, none⟩) (u := .slice a9 (oh.length + 1) c9) (.inl (by show ob < _; omega))
              have hGS := hG9.fresh.setCell (a := ⟨ob, 1, none⟩) (u := .slice a9 (oh.length + 1) c9) (.inl (by show ob < _; omega))
              have hbS := hb9.setCell (p := ⟨ob, 1, none⟩) (by show w.heap.size ≤ ob; omega) (.slice a9 (oh.length + 1) c9)
              go_wp2
              go_roundw
              case rel => exact ⟨⟨k + 1, oh ++ [(⟨h.name, s⟩ : Head)], _, by omega, by go_num, by simp; omega, hrowS, hFS, by simpa using hGS, hr09, hr19, hLS, by simp; omega, HN2.out⟩, hbS⟩
              case measure => simp [intOf] <;> omega
          · have HN2 := Lib.hid (map_end HI.out hlt)
            have hst := stored2 hr1 (.slice a3 ol.length c3) (.slice a4 oh.length c4)
            have u0 := cell_of_row _ (w.heap.size + 1) 0 _ _ (0, 0) hst
            have u1 := cell_of_row _ (w.heap.size + 1) 1 _ _ (0, 0) hst
            simp at u0 u1
            have hBF := (hb.setCell (p := ⟨w.heap.size + 1, 0, none⟩) (Nat.le_succ _) (.slice a3 ol.length c3)).setCell (p := ⟨w.heap.size + 1, 1, none⟩) (Nat.le_succ _) (.slice a4 oh.length c4)
            have hFF := (hFm.setCell (a := ⟨w.heap.size + 1, 0, none⟩) (u := .slice a3 ol.length c3) (.inl (by show w.heap.size + 1 < _; omega))).setCell (a := ⟨w.heap.size + 1, 1, none⟩) (u := .slice a4 oh.length c4) (.inl (by show w.heap.size + 1 < _; omega))
            have hGF := (hG.setCell (a := ⟨w.heap.size + 1, 0, none⟩) (u := .slice a3 ol.length c3) (.inl (by show w.heap.size + 1 < _; omega))).setCell (a := ⟨w.heap.size + 1, 1, none⟩) (u := .slice a4 oh.length c4) (.inl (by show w.heap.size + 1 < _; omega))
            have HKC : Hid ((keepOnly r).commits = ol ∧ (keepOnly r).heads = oh) := by show _ ∧ _; rw [HK0.out.1, HK0.out.2, HN.out, HN2.out]; exact ⟨rfl, rfl⟩
            go_wp2
            refine bodyPost_ret (v := .agg #[.slice a3 ol.length c3, .slice a4 oh.length c4]) (by simp [results, Tryd.results7, go_sem, u0, u1]) rfl ⟨a3, c3, a4, c4, m1, by rw [HKC.out.1, HKC.out.2], ?_, ?_, by omega, by simp; omega, hBF⟩
            · rw [HKC.out.1]; exact hFF.mono (by omega) (Nat.le_refl _)
            · rw [HKC.out.2]; exact hGF.mono (Nat.le_refl _) (by simp)
end Go.Proofs.YthhmaclhggmneaaDoor
