/-
  Walks: the repository with what branches come from alone, as the program has it.
-/
import Derived.Test.YthhmaclhggmneaaDoorWOnlyS
import Derived.Test.YthhmaclhggmneaaDoorWSendO
import Derived.Test.YthhmaclhggmneaaDoorVKL
set_option linter.unusedVariables false
namespace Go.Vc
open Go.RowKit
theorem cell_allocK {w : World} {p : Addr} {u : Value} (h : w.cell? p = some u) (o : Obj) : (w.alloc o).cell? p = some u :=
  (World.cell?_of_block (Below.heap_alloc w o p.block (World.block_lt_of_cell? w p h))).trans h
theorem set_nums {nums : List Int} {i : Nat} {x : Int} (h : nums[i]? = some x) : ∃ hi : i < nums.length, nums[i] = x := by
  obtain ⟨h1, h2⟩ := List.getElem?_eq_some_iff.1 h
  exact ⟨h1, h2⟩
theorem ko_next {tg : TypeId} {wo wr W1 w5 : World} {cb lo hi mz : Nat} {v0 v1 vT v5 : Value} {ys : List Int} {tr : List File}
    (hbox : wr.heap[cb]? = some (.cells #[v0, v1, vT] tg (0, 0))) (hTr : Fresh lo hi wr [vT] tr) (hbq : Below wo.heap.size wo wr)
    (h1 : wo.heap.size ≤ cb) (h2 : cb < mz) (h3 : hi ≤ mz) (h4 : mz ≤ wr.heap.size) (hord : cb < lo ∨ hi ≤ cb)
    (hW : Below wr.heap.size wr W1) (hG : GrewS (fun b => mz ≤ b ∧ b < wr.heap.size) W1 w5 v5 ys) (hmo : wo.heap.size ≤ mz) :
    ∃ w6, w6 = w5.setCell ⟨cb, 0, none⟩ v5 ∧ w6.heap[cb]? = some (.cells #[v5, v1, vT] tg (0, 0)) ∧ Fresh mz w6.heap.size w6 [v5] ys ∧ Fresh lo hi w6 [vT] tr ∧ Below wo.heap.size wo w6 ∧ mz ≤ w6.heap.size := by
  have hs1 := hW.size
  have hs5 := hG.size
  have h6b : ∀ b, b ≠ cb → (w5.setCell ⟨cb, 0, none⟩ v5).heap[b]? = w5.heap[b]? := fun b hb' => Below.heap_setCell w5 _ _ b hb'
  have hx0 : w5.heap[cb]? = some (.cells #[v0, v1, vT] tg (0, 0)) := (hG.rest cb (by omega) (by intro h; have h5 : mz ≤ cb ∧ cb < wr.heap.size := h; omega)).trans ((hW.block cb (by omega)).trans hbox)
  have hs6 : (w5.setCell ⟨cb, 0, none⟩ v5).heap.size = w5.heap.size := by simp
  refine ⟨_, rfl, heap_setCell_same w5 cb 0 _ _ v5 hx0, ?_, ?_, ?_, by omega⟩
  · have h5 := FS.fresh (B := mz) (m := w5.heap.size) hG.fs (fun b h hl => by
      have h6 : (mz ≤ b ∧ b < wr.heap.size) ∨ W1.heap.size ≤ b := h
      omega)
    rw [hs6]
    exact h5.keep fun b hb1 hb2 hb3 => h6b b (by omega)
  · exact hTr.keep fun b h5 h6 h7 => (h6b b (by omega)).trans ((hG.rest b (by omega) (by intro h; have h8 : mz ≤ b ∧ b < wr.heap.size := h; omega)).trans (hW.block b h7))
  · exact ((hbq.trans (hW.mono hbq.size)).trans (hG.below wo.heap.size (by have := hbq.size; omega) (fun b h _ => by have h5 : mz ≤ b ∧ b < wr.heap.size := h; omega))).setCell h1 _
end Go.Vc
namespace Go.Proofs.YthhmaclhggmneaaDoor
open Go.RowKit Go.Vc
open Go.Vc.Rep (rd)
open Go.Vc.Own (own)
/-- a row of numbers, all zero -/
theorem nums_zero (wb : World) (n : Nat) (hn : n ≤ 1000) :
    ∃ wd, wd = wb.alloc (.cells (madeCells #[Value.int .i64 0] (n * Rep.sz Int)) (Tid.tid Int)) ∧
      Fresh wb.heap.size wd.heap.size wd [.slice (some ⟨wb.heap.size, 0, none⟩) n n] (List.replicate n (0 : Int)) ∧ Below wb.heap.size wb wd ∧ wd.heap.size = wb.heap.size + 1 := by
  have hfr := (Fresh.made (w := wb) slz_int.hz slz_int.pos wb.heap.size n (by unfold maxLen; omega) (Nat.le_refl _)).now
  have hzr : List.replicate n (Zr.zr : Int) = List.replicate n (0 : Int) := rfl
  have hcz : (Value.int .i64 0).cells = #[Value.int .i64 0] := rfl
  rw [hzr, hcz] at hfr
  exact ⟨_, rfl, hfr, (Below.refl _ _).alloc (Nat.le_refl _) _, by simp⟩
set_option maxHeartbeats 16000000 in
set_option maxRecDepth 100000 in
theorem implKeepOnly {S T : Nat → Prop} (r : Repo) (v0 v1 : Value) (w : World) (h0 : rd S w [v0] r.commits) (h1 : rd T w [v1] r.heads) (hS : shortR r) (hM : ML w) :
    Calls Tryd.prog 9 #[.agg #[v0, v1]] w fun e w' => ∃ a0 c0 a1 c1, ∃ m, e = .returned (.agg #[.slice a0 (keepOnly r).commits.length c0, .slice a1 (keepOnly r).heads.length c1]) ∧ Fresh w.heap.size m w' [.slice a0 (keepOnly r).commits.length c0] (keepOnly r).commits ∧ Fresh m w'.heap.size w' [.slice a1 (keepOnly r).heads.length c1] (keepOnly r).heads ∧ w.heap.size ≤ m ∧ m ≤ w'.heap.size ∧ Below w.heap.size w w' := by
  have h0 := Rep.lt h0
  have h1 := Rep.lt h1
  obtain ⟨a, cap, rfl, hs⟩ := rd_slice_elim h0
  obtain ⟨a1, c1, rfl, hh⟩ := rd_slice_elim h1
  have hle := hs.le
  have hle1 := hh.le
  obtain ⟨wb, hwb⟩ : ∃ wb, wb = (w.alloc (.cells #[.slice a r.commits.length cap, .slice a1 r.heads.length c1] 30)).alloc (.cells #[.slice none 0 0, .slice none 0 0] 30) := ⟨_, rfl⟩
  have hB0 : Below w.heap.size w wb := by rw [hwb]; exact (((Below.refl _ _).alloc (by simp <;> omega) _).alloc (by simp <;> omega) _)
  have hx0 : wb.heap[w.heap.size]? = some (.cells #[.slice a r.commits.length cap, .slice a1 r.heads.length c1] 30 (0, 0)) := by rw [hwb]; exact (Below.heap_alloc _ _ _ (by simp)).trans (heap_alloc_new _ _)
  have hx1 : wb.heap[w.heap.size + 1]? = some (.cells #[.slice none 0 0, .slice none 0 0] 30 (0, 0)) := by rw [hwb]; exact heap_new_at (by simp)
  have hsb : wb.heap.size = w.heap.size + 2 := by rw [hwb]; simp
  have q0 := cell_of_row wb w.heap.size 0 _ _ (0, 0) hx0
  have q1 := cell_of_row wb w.heap.size 1 _ _ (0, 0) hx0
  simp at q0 q1
  have HW := Lib.hid hwb
  have HK : Hid (keepOnly r = if repoB r = true then ⟨onlyCs r, onlyHs r⟩ else ⟨[], []⟩) := rfl
  clear hwb
  cases hr : repoB r with
  | false =>
    rw [hr] at HK
    have HK0 : Hid ((keepOnly r).commits = [] ∧ (keepOnly r).heads = []) := by show _ ∧ _; rw [HK.out]; exact ⟨rfl, rfl⟩
    go_enter Tryd.func9, Tryd.ntmps9
    go_wp2_with fail
    rw [← HW.out]
    refine (repoOk_is _ _ r _ (Rep.keep h0 hB0) (Rep.keep h1 hB0) hS (hM.keep hB0) hr).mono ?_
    rintro e w1 ⟨rfl, hb1⟩
    have hy1 := (hb1.block (w.heap.size + 1) (by omega)).trans hx1
    have x0 := cell_of_row w1 (w.heap.size + 1) 0 _ _ (0, 0) hy1
    have x1 := cell_of_row w1 (w.heap.size + 1) 1 _ _ (0, 0) hy1
    have z0 := frozen_of_row w1 (w.heap.size + 1) 0 _ _ hy1
    have z1 := frozen_of_row w1 (w.heap.size + 1) 1 _ _ hy1
    simp at x0 x1
    have hst := stored2 hy1 (.slice none 0 0) (.slice none 0 0)
    have u0 := cell_of_row _ (w.heap.size + 1) 0 _ _ (0, 0) hst
    have u1 := cell_of_row _ (w.heap.size + 1) 1 _ _ (0, 0) hst
    simp at u0 u1
    have hs1 := hb1.size
    have HB := hB0.trans (hb1.mono hB0.size)
    have HBS := (HB.setCell (p := ⟨w.heap.size + 1, 0, none⟩) (Nat.le_succ _) (.slice none 0 0)).setCell (p := ⟨w.heap.size + 1, 1, none⟩) (Nat.le_succ _) (.slice none 0 0)
    go_wp2
    refine bodyPost_ret (v := .agg #[.slice none 0 0, .slice none 0 0]) (by simp [results, Tryd.results9, go_sem, u0, u1]) rfl ⟨none, 0, none, 0, w.heap.size, by rw [HK0.out.1, HK0.out.2]; rfl, ?_, ?_, Nat.le_refl _, by simp; omega, HBS⟩
    · rw [HK0.out.1]; exact Fresh.nil _ _ _ (by decide)
    · rw [HK0.out.2]; exact Fresh.nil _ _ _ (by decide)
  | true =>
    rw [hr] at HK
    have HK0 : Hid ((keepOnly r).commits = onlyCs r ∧ (keepOnly r).heads = onlyHs r) := by show _ ∧ _; rw [HK.out]; exact ⟨rfl, rfl⟩
    have hfew := repo_le hr
    have hh5 : r.heads.length ≤ 5 := by
      have h1 := (repo_parts hr).2.2
      unfold headsB at h1
      rw [Bool.and_eq_true, decide_eq_true_eq] at h1
      exact h1.1
    have hPar := repo_par hr
    have HRB := Lib.hid hr
    have HTX := Lib.hid (repo_texts2 hr)
    have HT3 : Hid (∀ (j : Nat) (hj : j < r.commits.length), r.commits[j].parents.length ≤ 2) := repo_few hr
    have hmk := slz_int.make r.commits.length (by omega) (by unfold maxLen; omega)
    go_enter Tryd.func9, Tryd.ntmps9
    go_wp2_with fail
    rw [← HW.out]
    refine (repoOk_is _ _ r _ (Rep.keep h0 hB0) (Rep.keep h1 hB0) hS (hM.keep hB0) hr).mono ?_
    rintro e w1 ⟨rfl, hb1⟩
    have HBa := hB0.trans (hb1.mono hB0.size)
    have hs1 := hb1.size
    have hxa0 := (hb1.block w.heap.size (by omega)).trans hx0
    have hxa1 := (hb1.block (w.heap.size + 1) (by omega)).trans hx1
    have q0 := keepc q0 hb1
    have q1 := keepc q1 hb1
    obtain ⟨nb, hnb⟩ : ∃ nb, nb = w1.heap.size := ⟨_, rfl⟩
    obtain ⟨wn, hwn, hfr, hBn, hsn⟩ := nums_zero w1 r.commits.length (by omega)
    obtain ⟨wd, hwd⟩ : ∃ wd, wd = wn.alloc (.cells #[.slice none 0 0, .slice none 0 0] 30) := ⟨_, rfl⟩
    have hbd : Below wn.heap.size wn wd := by rw [hwd]; exact (Below.refl _ _).alloc (Nat.le_refl _) _
    have hsd : wd.heap.size = w1.heap.size + 2 := by rw [hwd]; simp [hsn]
    have hxd2 : wd.heap[w1.heap.size + 1]? = some (.cells #[.slice none 0 0, .slice none 0 0] 30 (0, 0)) := by rw [hwd]; exact heap_new_at (by omega)
    have hBd : Below w1.heap.size w1 wd := hBn.trans (hbd.mono (by omega))
    have q0 := keepc q0 hBd
    have q1 := keepc q1 hBd
    have hxd0 := (hBd.block w.heap.size (by omega)).trans hxa0
    have hxd1 := (hBd.block (w.heap.size + 1) (by omega)).trans hxa1
    have hfr : Fresh w1.heap.size (w1.heap.size + 1) wd [.slice (some ⟨w1.heap.size, 0, none⟩) r.commits.length r.commits.length] (List.replicate r.commits.length (0 : Int)) := by
      rw [hsn] at hfr
      exact hfr.belowm (by omega) hbd
    have HBd := HBa.trans (hBd.mono HBa.size)
    rw [hwn] at hwd
    have q0u := q0
    have q1u := q1
    rw [hwd] at q0u q1u
    have HWD := Lib.hid hwd
    clear hwd hwn hbd hBn
    go_wp2_with fail
    rw [← HWD.out]
    clear q0u q1u
    refine (live_any _ _ r _ (Rep.keep h0 HBd) (Rep.keep h1 HBd) HRB.out).mono ?_
    rintro e w2 ⟨v2, rfl, hF2, hb2⟩
    have hs2 := hb2.size
    have HBe := HBd.trans (hb2.mono HBd.size)
    have hlb := liveB_len r
    go_wp2_with fail
    refine (listOf_any _ _ _ hF2.rd (by omega)).mono ?_
    rintro e w3 ⟨v3, rfl, hL, hb3⟩
    have hs3 := hb3.size
    have HBf := HBe.trans (hb3.mono HBe.size)
    have hb23 := hb2.trans (hb3.mono hs2)
    have hxf0 := (hb23.block w.heap.size (by omega)).trans hxd0
    have hxf1 := (hb23.block (w.heap.size + 1) (by omega)).trans hxd1
    have hxf2 := (hb23.block (w1.heap.size + 1) (by omega)).trans hxd2
    have hN0 := hfr.belowm (by omega) hb23
    have hL : Fresh w2.heap.size w3.heap.size w3 [v3] (liveT r) := hL
    have hll := liveT_len r
    have HMEM := Lib.hid (show ∀ x, x ∈ liveT r → 0 ≤ x ∧ x < (r.commits.length : Int) from fun x hx => by have := (live_iff r x).1 hx; exact ⟨this.1, this.2.1⟩)
    have HASC : Hid ((liveT r).Pairwise (· < ·)) := idxs_asc _ _
    have HPAR := Lib.hid (fun (x p : Int) => live_par (r := r) HRB.out (x := x) (p := p))
    have HHD := Lib.hid (fun (g : Head) => live_head (r := r) HRB.out (g := g))
    have HPLT := Lib.hid (fun (k : Nat) (hk : k < r.commits.length) => par_ge hPar hk)
    have HC : Hid (onlyCs r = (liveT r).map fun i => onlyC (liveT r) (r.commits.getD i.toNat noCommit)) := rfl
    have HH : Hid (onlyHs r = r.heads.map (onlyH (liveT r))) := rfl
    obtain ⟨ls, hls⟩ : ∃ ls, ls = liveT r := ⟨_, rfl⟩
    rw [← hls] at hL hll HMEM HASC HPAR HHD HC HH
    obtain ⟨al, cl, hvl, _⟩ := hL.shape
    subst hvl
    have hLs := (rd_slice_of hL.rd2).2
    have hlle := hLs.le
    obtain ⟨cs, hcs⟩ : ∃ cs, cs = r.commits := ⟨_, rfl⟩
    have HTX : Hid (∀ i : Int, 0 ≤ i → i < (cs.length : Int) → (treeAtC cs i).length ≤ 1000 ∧ ∀ f, f ∈ treeAtC cs i → f.text.length ≤ 10) := by subst hcs; exact HTX
    have HT3 : Hid (∀ (j : Nat) (hj : j < cs.length), cs[j].parents.length ≤ 2) := by subst hcs; exact HT3
    rw [← hcs] at hs hll HMEM HPAR HPLT HC hfew hxf0 hN0
    try rw [← hcs]
    obtain ⟨ob, hob⟩ : ∃ ob, ob = w1.heap.size + 1 := ⟨_, rfl⟩
    rw [← hob] at hxf2 hN0
    rw [← hnb] at hN0
    have hobn : w.heap.size + 1 < nb ∧ nb + 1 = ob ∧ ob < w2.heap.size ∧ w2.heap.size ≤ w3.heap.size := by omega
    obtain ⟨C1, hC1⟩ : ∃ C1, C1 = w2.heap.size := ⟨_, rfl⟩
    have hLs : IsSlice (fun b => C1 ≤ b ∧ b < w3.heap.size) w3 al cl ls := by rw [hC1]; exact hLs
    rw [← hC1] at hobn
    try rw [← hob, ← hnb]
    obtain ⟨nums, hnums⟩ : ∃ nums, nums = List.replicate cs.length (0 : Int) := ⟨_, rfl⟩
    have hnl : nums.length = cs.length := by rw [hnums]; simp
    rw [← hnums] at hN0
    have hN0 : Fresh nb ob w3 [.slice (some ⟨nb, 0, none⟩) cs.length cs.length] nums := hN0
    have hnk : numsOk ls nums 0 := fun j hj => by omega
    clear hls hL hcs hb1 hb2 hb3 hb23 hr hS hM h0 h1 HBa HBd HBe hx0 hx1 hxa0 hxa1 hxd0 hxd1 hxd2 hB0 HW HWD q0 q1 hs1 hs2 hs3 hsb hob hnb hC1 hle hF2 hlb hPar hfr hBd hsd hsn hnums hmk
    go_wp2
    go_loopw [24] (fun i wr => (∃ (k : Nat) (ol : List Commit) (cv : Value) (ns : List Int), k ≤ ls.length ∧ i = .int .i64 k ∧ ol.length = k ∧ ns.length = cs.length ∧ numsOk ls ns k ∧ wr.heap[ob]? = some (.cells #[cv, .slice none 0 0] 30 (0, 0)) ∧ Fresh w3.heap.size wr.heap.size wr [cv] ol ∧ Fresh nb ob wr [.slice (some ⟨nb, 0, none⟩) cs.length cs.length] ns ∧ wr.heap[w.heap.size]? = some (.cells #[.slice a cs.length cap, .slice a1 r.heads.length c1] 30 (0, 0)) ∧ wr.heap[w.heap.size + 1]? = some (.cells #[.slice none 0 0, .slice none 0 0] 30 (0, 0)) ∧ IsSlice (fun b => C1 ≤ b ∧ b < w3.heap.size) wr al cl ls ∧ w3.heap.size ≤ wr.heap.size ∧ Hid (onlyCs r = ol ++ (ls.drop k).map fun i => onlyC ls (cs.getD i.toNat noCommit))) ∧ Below w.heap.size w wr) (fun i _ => ls.length - (intOf i).toNat)
    case atStart => exact ⟨⟨0, [], .slice none 0 0, nums, by omega, rfl, rfl, hnl, hnk, hxf2, Fresh.nil _ _ _ (by decide), hN0, hxf0, hxf1, hLs, Nat.le_refl _, by show _ = _; rw [HC.out]; rfl⟩, HBf⟩
    case round =>
      clear hxf0 hxf1 hxf2 hLs HBf hN0 hnk hnl
      obtain ⟨⟨k, ol, cv, ns, hk, rfl, hol, hnl, hnk, hrow, hF, hNs, hr0, hr1, hLs, hs3, HA⟩, hb⟩ := hrel
      obtain ⟨a3, c3, hv3, _⟩ := hF.shape
      subst hv3
      obtain ⟨wp, hwp⟩ : ∃ wp : World, wp = wr := ⟨_, rfl⟩
      subst hwp
      have hsr := hb.size
      have HOL := Lib.hid hol
      have hol5 : ol.length ≤ ls.length := by omega
      clear hol
      have q0r := cell_of_row wp w.heap.size 0 _ _ (0, 0) hr0
      have q1r := cell_of_row wp w.heap.size 1 _ _ (0, 0) hr0
      have o0r := cell_of_row wp ob 0 _ _ (0, 0) hrow
      have o1r := cell_of_row wp ob 1 _ _ (0, 0) hrow
      simp at q0r q1r o0r o1r
      by_cases hlt : k < ls.length
      · have HN := Lib.hid (map_next (f := fun i : Int => onlyC ls (cs.getD i.toNat noCommit)) HA.out hlt)
        obtain ⟨gl, offl, hagl, hcl, _⟩ := hLs.int hlt
        subst hagl
        have hlm := List.getElem_mem hlt
        obtain ⟨hx0, hx1⟩ := HMEM.out _ hlm
        obtain ⟨j, hj⟩ : ∃ j : Nat, ls[k] = (j : Int) := ⟨ls[k].toNat, by omega⟩
        have hjl : j < cs.length := by omega
        have hlk : ls[k]? = some (j : Int) := by rw [List.getElem?_eq_getElem hlt, hj]
        rw [hj] at hcl hlm
        have HN : Hid (onlyCs r = (ol ++ [onlyC ls cs[j]]) ++ (ls.drop (k + 1)).map fun i => onlyC ls (cs.getD i.toNat noCommit)) := by
          show _ = _
          have h := HN.out
          rw [hj] at h
          simp only [Int.toNat_natCast, getD_com hjl] at h
          exact h
        have hnk1 := nums_next hnk HASC.out (fun x hx => (HMEM.out x hx).1) hlk (by rw [Int.toNat_natCast]; omega)
        rw [Int.toNat_natCast] at hnk1
        have hnk1 : numsOk ls (ns.set j (ol.length : Int)) (k + 1) := by rw [HOL.out]; exact hnk1
        have hPP : ∀ p, p ∈ cs[j].parents → (ns.set j (ol.length : Int))[p.toNat]? = some (place ls p) ∧ 0 ≤ p := fun p hp => by
          have h1 := HPAR.out (j : Int) p hlm (by rw [Int.toNat_natCast, getD_com hjl]; exact hp)
          have h2 := HPLT.out j hjl p (by rw [getD_com hjl]; exact hp)
          refine ⟨nums_at hnk1 HASC.out h1 (fun x hx => ?_) (by omega), h2.1⟩
          have := asc_at HASC.out (Nat.lt_succ_self k) hlk hx
          omega
        obtain ⟨g, off, ap, np, at2, nt, hag, hc0, hc1, hc2, hpar, hz1, htr⟩ := hs.commit hjl
        subst hag
        have HTJ := Lib.hid (HTX.out (j : Int) (by omega) (by omega))
        have HTT : Hid (treeAtC cs (j : Int) = cs[j].tree) := by show _ = _; unfold treeAtC; rw [Int.toNat_natCast, getD_com hjl]
        have hpf := HT3.out j hjl
        obtain ⟨c, hc⟩ : ∃ c, c = cs[j] := ⟨_, rfl⟩
        rw [← hc] at hc0 hc1 hc2 hpar hz1 htr hpf HTT HN hPP
        have HPP := Lib.hid hPP
        have HC0 := Lib.hid hc0
        obtain ⟨ns1, hns1⟩ : ∃ ns1, ns1 = ns.set j (ol.length : Int) := ⟨_, rfl⟩
        have HNL : Hid (ns1.length = cs.length) := by show _ = _; rw [hns1]; simpa using hnl
        rw [← hns1] at HPP hnk1
        obtain ⟨gnn, hgnn, hgn0, hgn1⟩ := hNs.addr (by omega)
        cases hgnn
        obtain ⟨⟨un, hun⟩, hfz0, _, _⟩ := hNs.there1 rfl (i := j) (by omega)
        have hi64k : I64 (ol.length : Int) := by unfold I64; omega
        obtain ⟨wo, hwo⟩ : ∃ wo, wo = wp.setCell ⟨nb, j, none⟩ (.int .i64 (ol.length : Int)) := ⟨_, rfl⟩
        have hsO : wo.heap.size = wp.heap.size := by rw [hwo]; simp
        have hN1 : Fresh nb ob wo [.slice (some ⟨nb, 0, none⟩) cs.length cs.length] ns1 := by
          rw [hwo, hns1]
          exact (hNs.set1 rfl (i := j) (by omega) (u := .int .i64 (ol.length : Int)) (y := (ol.length : Int)) (Fresh.leaf (m := ob) (own_i64s (ol.length : Int) hi64k _)) (by omega)).one.mono hgn0 hgn1
        have hsb1 : ∀ b, b ≠ nb → wo.heap[b]? = wp.heap[b]? := fun b hb' => by rw [hwo]; exact Below.heap_setCell wp _ _ b hb'
        have hbO : Below w.heap.size w wo := by rw [hwo]; exact hb.setCell (by show w.heap.size ≤ nb; omega) _
        have hrowO := (hsb1 ob (by omega)).trans hrow
        have hr0O := (hsb1 w.heap.size (by omega)).trans hr0
        have hr1O := (hsb1 (w.heap.size + 1) (by omega)).trans hr1
        have hFO : Fresh w3.heap.size wo.heap.size wo [.slice a3 ol.length c3] ol := by rw [hsO]; exact hF.keep fun b h1 h2 h3 => hsb1 b (by omega)
        have hLO : IsSlice (fun b => C1 ≤ b ∧ b < w3.heap.size) wo (some ⟨gl, offl, none⟩) cl ls := hLs.frame fun b hb' hl => ⟨hsb1 b (by omega), hb'⟩
        have hsO1 : wo.heap.size ≤ wp.heap.size := by omega
        have hsO2 : wp.heap.size ≤ wo.heap.size := by omega
        have HWO := Lib.hid hwo
        clear hsO hwo
        clear hc hx0 hx1 hj hc2 htr hPP hnk hLs hF hrow hr0 hr1
        go_wp2_with fail
        rw [← HWO.out]
        have q0r := cell_of_row wo w.heap.size 0 _ _ (0, 0) hr0O
        have q1r := cell_of_row wo w.heap.size 1 _ _ (0, 0) hr0O
        simp at q0r q1r
        have hb := hbO
        have hc1r := keepc hc1 hb
        have hbl0 : Below wo.heap.size wo (wo.drew.alloc (.cells #[.slice none 0 0, .string ⟨#[]⟩, .slice none 0 0] 53)) := (Below.refl _ _).drew.alloc (by simp) _
        have htl := (HTJ.out).1
        have htxx := (HTJ.out).2
        have K0 := And.intro q0r (And.intro q1r hc1r)
        have hlg : g < w.heap.size := World.block_lt_of_cell? w _ hc1
        have HRX := Lib.hid (And.intro hr0O (And.intro hr1O (And.intro hrowO (And.intro hlk (And.intro hlm hnk1)))))
        have HFX := Lib.hid (And.intro hFO (And.intro hLO hN1))
        clear hc0 hc1 o0r o1r hcl hun hfz0 hsb1 hbO hr0O hr1O hrowO hlk hlm hnk1 hFO hLO hN1 hh hle1 hh5 hgn0 hgn1 hi64k
        go_region_held3 (fun w' => w'.cell? ⟨w.heap.size, 0, none⟩ = some (.slice (some ⟨g, off, none⟩) cs.length cap) ∧ w'.cell? ⟨w.heap.size, 1, none⟩ = some (.slice a1 r.heads.length c1) ∧ w'.cell? ⟨g, off + j * 3 + 1, none⟩ = some (.string c.who))
          (first | ((repeat (first | with_reducible exact K9 | with_reducible exact K5 | with_reducible exact K0 | with_reducible refine keep3_drew ?_ | with_reducible refine keep3_alloc ?_ _ | with_reducible refine keep3_set ?_ (by first | ((try dsimp only); omega) | (have := hbU.size; (try dsimp only); omega)) (by first | ((try dsimp only); omega) | (have := hbU.size; (try dsimp only); omega)) (by first | ((try dsimp only); omega) | (have := hbU.size; (try dsimp only); omega)))); done) | go_keep)
          (first
            | (go_at_call 34; (with_reducible refine (tree_any _ _ cs (j : Int) _ (Rep.drew (hs.keep hb).rd) (by omega) (by omega)).mono ?_); rintro e w5 ⟨v5, rfl, h5, hb5⟩; have hbU : Below wo.heap.size wo w5 := (Below.refl _ _).drew.trans (hb5.mono (by simp)); have K5 := And.intro (keepc q0r hbU) (And.intro (keepc q1r hbU) (keepc hc1r hbU)))
            | (go_at_call 34; (with_reducible refine (tree_any _ _ cs (j : Int) _ (Rep.drew (Rep.alloc (hs.keep hb).rd (.cells #[.slice none 0 0, .string ⟨#[]⟩, .slice none 0 0] 53))) (by omega) (by omega)).mono ?_); rintro e w5 ⟨v5, rfl, h5, hb5⟩; have hbU : Below wo.heap.size wo w5 := (((Below.refl _ _).alloc (by simp) (.cells #[.slice none 0 0, .string ⟨#[]⟩, .slice none 0 0] 53)).drew).trans (hb5.mono (by simp)); have K5 := And.intro (keepc q0r hbU) (And.intro (keepc q1r hbU) (keepc hc1r hbU)); have hbx5 := (hb5.block wo.heap.size (by simp)).trans (heap_alloc_new wo (.cells #[.slice none 0 0, .string ⟨#[]⟩, .slice none 0 0] 53)))
            | (go_at_call 33; have hA := hbx5; (with_reducible refine (copyTree_any _ _ _ h5 htl htxx).mono ?_); rintro e w6 ⟨v6, rfl, h6, hb6⟩; obtain ⟨a6, c6, hv6, _⟩ := h6.shape; subst hv6; have hbV := hbU.trans (hb6.mono hbU.size); have K9 := And.intro (keepc q0r hbV) (And.intro (keepc q1r hbV) (keepc hc1r hbV)); have hbx9 := (hb6.block wo.heap.size (by have := hb5.size; simp at this; omega)).trans hbx5; have x0 := (cell_of_row w6 wo.heap.size 0 _ _ (0, 0) hbx9); have x1 := (cell_of_row w6 wo.heap.size 1 _ _ (0, 0) hbx9); have x2 := (cell_of_row w6 wo.heap.size 2 _ _ (0, 0) hbx9); have z0 := frozen_of_row w6 wo.heap.size 0 _ _ hbx9; have z1 := frozen_of_row w6 wo.heap.size 1 _ _ hbx9; have z2 := frozen_of_row w6 wo.heap.size 2 _ _ hbx9; simp at x0 x1 x2; have hcE := Nat.le_refl wo.heap.size)
            | (go_at_call 33; (with_reducible refine (copyTree_any _ _ _ h5 htl htxx).mono ?_); rintro e w6 ⟨v6, rfl, h6, hb6⟩; obtain ⟨a6, c6, hv6, _⟩ := h6.shape; subst hv6; have hbV := hbU.trans (hb6.mono hbU.size); have K9 := And.intro (keepc q0r hbV) (And.intro (keepc q1r hbV) (keepc hc1r hbV)); have hC := True.intro)
            | (go_at_call 33; (with_reducible refine (copyTree_any _ _ _ (Rep.alloc h5 (.cells #[.slice none 0 0, .string ⟨#[]⟩, .slice none 0 0] 53)) htl htxx).mono ?_); rintro e w6 ⟨v6, rfl, h6, hb6⟩; obtain ⟨a6, c6, hv6, _⟩ := h6.shape; subst hv6; have hbV := (hbU.alloc hbU.size (.cells #[.slice none 0 0, .string ⟨#[]⟩, .slice none 0 0] 53)).trans (hb6.mono (by have := hbU.size; simp; omega)); have K9 := And.intro (keepc q0r hbV) (And.intro (keepc q1r hbV) (keepc hc1r hbV)); have hbx9 := (hb6.block w5.heap.size (by simp)).trans (heap_alloc_new w5 (.cells #[.slice none 0 0, .string ⟨#[]⟩, .slice none 0 0] 53)); have x0 := (cell_of_row w6 w5.heap.size 0 _ _ (0, 0) hbx9); have x1 := (cell_of_row w6 w5.heap.size 1 _ _ (0, 0) hbx9); have x2 := (cell_of_row w6 w5.heap.size 2 _ _ (0, 0) hbx9); have z0 := frozen_of_row w6 w5.heap.size 0 _ _ hbx9; have z1 := frozen_of_row w6 w5.heap.size 1 _ _ hbx9; have z2 := frozen_of_row w6 w5.heap.size 2 _ _ hbx9; simp at x0 x1 x2; have hcE := hbU.size; have hB := True.intro))
        all_goals first
          | (
          have hm := hA
          have h6s := hb6.size
          have h5s := hb5.size
          have hus := hbU.size
          have hvs := hbV.size
          simp only [drew_size, alloc_size2] at h5s h6s
          obtain ⟨wz, hwz⟩ : ∃ wz, wz = ((w6.setCell ⟨wo.heap.size, 0, none⟩ (.slice none 0 0)).setCell ⟨wo.heap.size, 1, none⟩ (.string c.who)).setCell ⟨wo.heap.size, 2, none⟩ (.slice a6 (treeAtC cs (j : Int)).length c6) := ⟨_, rfl⟩
          have hbox : wz.heap[wo.heap.size]? = some (.cells #[.slice none 0 0, .string c.who, .slice a6 (treeAtC cs (j : Int)).length c6] 53 (0, 0)) := (by rw [hwz]; exact stored3 hbx9 _ _ _)
          have hszz : w6.heap.size ≤ wz.heap.size ∧ wo.heap.size < wz.heap.size := (by rw [hwz]; simp <;> omega)
          have hTr : Fresh (w5.heap.size) w6.heap.size wz [.slice a6 (treeAtC cs (j : Int)).length c6] (treeAtC cs (j : Int)) := (by rw [hwz]; exact ((h6.setCell (.inl (by show wo.heap.size < w5.heap.size; omega))).setCell (.inl (by show wo.heap.size < w5.heap.size; omega))).setCell (.inl (by show wo.heap.size < w5.heap.size; omega)))
          have hbz : Below wo.heap.size wo wz := (by rw [hwz]; exact ((hbV.setCell (p := ⟨wo.heap.size, 0, none⟩) hcE _).setCell (p := ⟨wo.heap.size, 1, none⟩) hcE _).setCell (p := ⟨wo.heap.size, 2, none⟩) hcE _)
          obtain ⟨cb, hcb⟩ : ∃ cb, cb = wo.heap.size := ⟨_, rfl⟩
          obtain ⟨lo, hlo⟩ : ∃ lo, lo = w5.heap.size := ⟨_, rfl⟩
          obtain ⟨hi, hhi⟩ : ∃ hi, hi = w6.heap.size := ⟨_, rfl⟩
          have hord : cb < lo ∨ hi ≤ cb := (by omega)
          have hz1a : wo.heap.size ≤ cb := (by omega)
          have hz2a : cb < wz.heap.size := (by omega)
          have hz3a : wo.heap.size ≤ lo := (by omega)
          have hz4a : hi ≤ wz.heap.size := by omega
          rw [← hcb] at hbox
          rw [← hlo, ← hhi] at hTr
          rw [← hwz, ← hcb])
          | (
          have hm := hB
          have h6s := hb6.size
          have h5s := hb5.size
          have hus := hbU.size
          have hvs := hbV.size
          simp only [drew_size, alloc_size2] at h5s h6s
          obtain ⟨wz, hwz⟩ : ∃ wz, wz = ((w6.setCell ⟨w5.heap.size, 0, none⟩ (.slice none 0 0)).setCell ⟨w5.heap.size, 1, none⟩ (.string c.who)).setCell ⟨w5.heap.size, 2, none⟩ (.slice a6 (treeAtC cs (j : Int)).length c6) := ⟨_, rfl⟩
          have hbox : wz.heap[w5.heap.size]? = some (.cells #[.slice none 0 0, .string c.who, .slice a6 (treeAtC cs (j : Int)).length c6] 53 (0, 0)) := (by rw [hwz]; exact stored3 hbx9 _ _ _)
          have hszz : w6.heap.size ≤ wz.heap.size ∧ w5.heap.size < wz.heap.size := (by rw [hwz]; simp <;> omega)
          have hTr : Fresh (w5.heap.size + 1) w6.heap.size wz [.slice a6 (treeAtC cs (j : Int)).length c6] (treeAtC cs (j : Int)) := (by rw [hwz]; exact (((h6.mono (B' := w5.heap.size + 1) (by simp) (Nat.le_refl _)).setCell (.inl (Nat.lt_succ_self _))).setCell (.inl (Nat.lt_succ_self _))).setCell (.inl (Nat.lt_succ_self _)))
          have hbz : Below wo.heap.size wo wz := (by rw [hwz]; exact ((hbV.setCell (p := ⟨w5.heap.size, 0, none⟩) hcE _).setCell (p := ⟨w5.heap.size, 1, none⟩) hcE _).setCell (p := ⟨w5.heap.size, 2, none⟩) hcE _)
          obtain ⟨cb, hcb⟩ : ∃ cb, cb = w5.heap.size := ⟨_, rfl⟩
          obtain ⟨lo, hlo⟩ : ∃ lo, lo = w5.heap.size + 1 := ⟨_, rfl⟩
          obtain ⟨hi, hhi⟩ : ∃ hi, hi = w6.heap.size := ⟨_, rfl⟩
          have hord : cb < lo ∨ hi ≤ cb := (by omega)
          have hz1a : wo.heap.size ≤ cb := (by omega)
          have hz2a : cb < wz.heap.size := (by omega)
          have hz3a : wo.heap.size ≤ lo := (by omega)
          have hz4a : hi ≤ wz.heap.size := by omega
          rw [← hcb] at hbox
          rw [← hlo, ← hhi] at hTr
          rw [← hwz, ← hcb])
          | (
          have hm := hC
          have h6s := hb6.size
          have h5s := hb5.size
          have hus := hbU.size
          have hvs := hbV.size
          simp only [drew_size] at h5s h6s
          obtain ⟨wz, hwz⟩ : ∃ wz, wz = w6.alloc (.cells #[.slice none 0 0, .string c.who, .slice a6 (treeAtC cs (j : Int)).length c6] 53) := ⟨_, rfl⟩
          have hbox : wz.heap[w6.heap.size]? = some (.cells #[.slice none 0 0, .string c.who, .slice a6 (treeAtC cs (j : Int)).length c6] 53 (0, 0)) := (by rw [hwz]; exact heap_alloc_new _ _)
          have hszz : w6.heap.size ≤ wz.heap.size ∧ w6.heap.size < wz.heap.size := (by rw [hwz]; simp <;> omega)
          have hTr : Fresh (w5.heap.size) w6.heap.size wz [.slice a6 (treeAtC cs (j : Int)).length c6] (treeAtC cs (j : Int)) := (by rw [hwz]; exact h6.alloc _)
          have hbz : Below wo.heap.size wo wz := (by rw [hwz]; exact hbV.alloc hvs _)
          obtain ⟨cb, hcb⟩ : ∃ cb, cb = w6.heap.size := ⟨_, rfl⟩
          obtain ⟨lo, hlo⟩ : ∃ lo, lo = w5.heap.size := ⟨_, rfl⟩
          obtain ⟨hi, hhi⟩ : ∃ hi, hi = w6.heap.size := ⟨_, rfl⟩
          have hord : cb < lo ∨ hi ≤ cb := (by omega)
          have hz1a : wo.heap.size ≤ cb := (by omega)
          have hz2a : cb < wz.heap.size := (by omega)
          have hz3a : wo.heap.size ≤ lo := (by omega)
          have hz4a : hi ≤ wz.heap.size := by omega
          rw [← hcb] at hbox
          rw [← hlo, ← hhi] at hTr
          rw [← hwz, ← hcb])
        all_goals
          clear K9 K5
          obtain ⟨hr0O, hr1O, hrowO, hlk, hlm, hnk1⟩ := HRX.out
          obtain ⟨hFO, hLO, hN1⟩ := HFX.out
          have hb0z := hb.trans (hbz.mono hb.size)
          have hdz := keepc HC0.out hb0z
          have hq0z := keepc q0r hbz
          obtain ⟨ps, hps⟩ : ∃ ps, ps = c.parents := ⟨_, rfl⟩
          have hpar2 : IsSlice (fun b => b < w.heap.size) w ap np ps := by rw [hps]; exact hpar
          have HPP2 : Hid (∀ p, p ∈ ps → ns1[p.toNat]? = some (place ls p) ∧ 0 ≤ p) := by rw [hps]; exact HPP
          have HPS := Lib.hid hps
          rw [← hps] at hdz hpf
          obtain ⟨tr, htr⟩ : ∃ tr, tr = treeAtC cs (j : Int) := ⟨_, rfl⟩
          have HTR2 : Hid (tr = c.tree) := by rw [htr]; exact HTT
          rw [← htr] at hTr hbox
          try rw [← htr]
          have hlp := hpar2.le
          have hcell0 := cell_of_row wz cb 0 _ _ (0, 0) hbox
          simp at hcell0
          have hobz : ob < wo.heap.size := by omega
          have hzwz : wo.heap.size ≤ wz.heap.size := hbz.size
          clear hps htr hwz hcb hlo hhi hszz hpar HPP HTT hbU hbV
          go_wp2
          go_loopw [52] (fun i wq => (∃ (m : Nat) (acc : List Int) (pv : Value), m ≤ ps.length ∧ i = .int .i64 m ∧ acc.length ≤ m ∧ wq.heap[cb]? = some (.cells #[pv, .string c.who, .slice a6 tr.length c6] 53 (0, 0)) ∧ Fresh wz.heap.size wq.heap.size wq [pv] acc ∧ Fresh lo hi wq [.slice a6 tr.length c6] tr ∧ wz.heap.size ≤ wq.heap.size ∧ Hid (ps.map (place ls) = acc ++ (ps.drop m).map (place ls))) ∧ Below wo.heap.size wo wq) (fun i _ => ps.length - (intOf i).toNat)
          case atStart => exact ⟨⟨0, [], .slice none 0 0, by omega, rfl, by simp, hbox, Fresh.nil _ _ _ (by decide), hTr, Nat.le_refl _, rfl⟩, hbz⟩
          case round =>
            clear hbox hTr hbz hcell0 hdz hq0z hb0z
            obtain ⟨⟨m, acc, pv, hm, rfl, hac, hbox, hP, hTr, hszq, HI⟩, hbq⟩ := hrel
            obtain ⟨ap8, cp8, hpv, _⟩ := hP.shape
            subst hpv
            have hbs := hb.trans (hbq.mono hb.size)
            have hsq := hbq.size
            have y0 := cell_of_row wr cb 0 _ _ (0, 0) hbox
            have y1 := cell_of_row wr cb 1 _ _ (0, 0) hbox
            have y2 := cell_of_row wr cb 2 _ _ (0, 0) hbox
            simp at y0 y1 y2
            have hNq := hN1.below (Nat.le_refl _) hbq
            by_cases hlm : m < ps.length
            · obtain ⟨g5, off5, hag5, hd5, hi5⟩ := (hpar2.keep hbs).int hlm
              subst hag5
              have HNX := Lib.hid (map_next (f := place ls) HI.out hlm)
              obtain ⟨hp1, hp2⟩ := HPP2.out _ (List.getElem_mem hlm)
              obtain ⟨p, hp⟩ : ∃ p, p = ps[m] := ⟨_, rfl⟩
              rw [← hp] at hd5 hi5 HNX hp1 hp2
              obtain ⟨pn, hpn⟩ : ∃ pn : Nat, p = (pn : Int) := ⟨p.toNat, by omega⟩
              have hsl := place_le ls p
              obtain ⟨s, hs1⟩ : ∃ s, place ls p = s := ⟨_, rfl⟩
              rw [hs1] at hsl HNX hp1
              rw [hpn] at hd5 hp1
              rw [Int.toNat_natCast] at hp1
              obtain ⟨hpl, hpe⟩ := set_nums hp1
              obtain ⟨g6, off6, hag6, hd6, hi6⟩ := (rd_slice_of hNq.rd2).2.int (i := pn) hpl
              obtain ⟨rfl, rfl⟩ : nb = g6 ∧ 0 = off6 := by simpa using hag6
              rw [Nat.zero_add, hpe] at hd6
              have hpc : pn < cs.length := by have := HNL.out; omega
              have hi64s : I64 s := by unfold I64; omega
              have hnw : nb < wr.heap.size := by omega
              have hcw : cb < wr.heap.size := by omega
              have hbA := (Below.heap_alloc wr (.cells #[.int .i64 s] 3) cb hcw).trans hbox
              have y0a := cell_of_row _ cb 0 _ _ (0, 0) hbA
              have hd6a := (World.cell?_of_block (Below.heap_alloc wr (.cells #[.int .i64 s] 3) nb hnw)).trans hd6
              simp at y0a
              have hPf : FS (fun b => wz.heap.size ≤ b ∧ b < wr.heap.size) wr [.slice ap8 acc.length cp8] acc := hP.fs
              clear hp hpn hs1 hp1 hp2 hag6 hi6 hi5
              go_wp2_with fail
              refine wp_region_U (fun w' => w'.cell? ⟨nb, pn, none⟩ = some (.int .i64 s)) (fun w' => w'.cell? ⟨cb, 0, none⟩ = some (.slice ap8 acc.length cp8)) 7 (by kernel_rfl) hd6 y0 (fun hSw hTw => ?_)
              refine wpAnyU_takeS (i := 0) (v := ?_) rfl (by kernel_rfl) (by kernel_rfl) (by kernel_rfl) (fun _ _ _ h => h) (by decide) (Or.inl ⟨by kernel_rfl, ?_⟩) hSw (fun _ => hTw) ?_
              rotate_left
              · intro w hSw; (try dsimp only at hSw); go_simp; with_reducible rfl
              try simp only [Act.put, List.getElem_toArray, List.getElem_cons_zero, List.setIfInBounds_toArray, List.set_cons_zero, List.set_cons_succ]
              refine wpAnyU_takeT (i := 1) (v := ?_) rfl (by kernel_rfl) (by kernel_rfl) (by kernel_rfl) (fun _ _ _ h => h) (by decide) rfl (by kernel_rfl) (by kernel_rfl) (Or.inl ⟨by kernel_rfl, ?_⟩) hSw hTw ?_
              rotate_left
              · intro w hSw; (try dsimp only at hSw); go_simp; with_reducible rfl
              try simp only [Act.put, List.getElem_toArray, List.getElem_cons_zero, List.getElem_cons_succ, List.setIfInBounds_toArray, List.set_cons_zero, List.set_cons_succ]
              refine wpAnyU_takeS (i := 2) (v := ?_) rfl (by kernel_rfl) (by kernel_rfl) (by kernel_rfl) (fun _ _ _ h => h) (by decide) (Or.inl ⟨by kernel_rfl, ?_⟩) hSw (fun _ => hTw) ?_
              rotate_left
              · intro w hSw; (try dsimp only at hSw); go_simp; with_reducible rfl
              try simp only [Act.put, List.getElem_toArray, List.getElem_cons_zero, List.getElem_cons_succ, List.setIfInBounds_toArray, List.set_cons_zero, List.set_cons_succ]
              refine wpAnyU_takeS (i := 3) (v := ?_) rfl (by kernel_rfl) (by kernel_rfl) (by kernel_rfl) (fun _ _ _ h => h) (by decide) (Or.inl ⟨by kernel_rfl, ?_⟩) hSw (fun _ => hTw) ?_
              rotate_left
              · intro w hSw; (try dsimp only at hSw); go_simp; with_reducible rfl
              try simp only [Act.put, List.getElem_toArray, List.getElem_cons_zero, List.getElem_cons_succ, List.setIfInBounds_toArray, List.set_cons_zero, List.set_cons_succ]
              refine wpAnyU_takeS (i := 4) (v := ?_) rfl (by kernel_rfl) (by kernel_rfl) (by kernel_rfl) (fun _ _ _ h => h) (by decide) (Or.inl ⟨by kernel_rfl, ?_⟩) hSw (fun _ => hTw) ?_
              rotate_left
              · intro w hSw; (try dsimp only at hSw); go_simp; with_reducible rfl
              try simp only [Act.put, List.getElem_toArray, List.getElem_cons_zero, List.getElem_cons_succ, List.setIfInBounds_toArray, List.set_cons_zero, List.set_cons_succ]
              refine wpAnyU_takeS (i := 5) (v := ?_) rfl (by kernel_rfl) (by kernel_rfl) (by kernel_rfl) (fun _ _ _ h => h) (by decide) (Or.inl ⟨by kernel_rfl, ?_⟩) hSw (fun _ => hTw) ?_
              rotate_left
              · intro w hSw; (try dsimp only at hSw); go_simp; with_reducible rfl
              try simp only [Act.put, List.getElem_toArray, List.getElem_cons_zero, List.getElem_cons_succ, List.setIfInBounds_toArray, List.set_cons_zero, List.set_cons_succ]
              refine wpAnyU_one (i := 6) (by kernel_rfl) rfl ?_
              intro K' hK'
              go_simp
              refine hK'.out _ _ ((World.cell?_of_block (Below.heap_alloc wr.drew _ nb (by show nb < wr.heap.size; omega))).trans hSw) (fun _ => (World.cell?_of_block (Below.heap_alloc wr.drew _ cb (by show cb < wr.heap.size; omega))).trans hTw) ?_
              clear hK' K'
              try simp only [Act.put, List.getElem_toArray, List.getElem_cons_zero, List.getElem_cons_succ, List.setIfInBounds_toArray, List.set_cons_zero, List.set_cons_succ]
              refine wpAnyU_one (i := 7) (by kernel_rfl) rfl ?_
              intro K' hK'
              refine step_app_leafS (S := fun b => wz.heap.size ≤ b ∧ b < wr.heap.size) (xs := acc) (v := .slice ap8 acc.length cp8) (R := fun b => b = wr.heap.size) (ys := [s]) slz_int.slt rfl (.tmp 57) (.tmp 62) rfl rfl ?_ rfl rfl ?_ ?_ ?_ ?_
              · first | exact (hPf.alloc _).drew | exact hPf.alloc _ | exact hPf.drew.alloc _
              · first | exact lit_ints [s] (heap_alloc_new wr _) (by simpa using hi64s) (by unfold maxLen; simp) | exact lit_ints [s] (heap_alloc_new _ _) (by simpa using hi64s) (by unfold maxLen; simp)
              · simp; omega
              · unfold maxLen; simp; omega
              intro a5 c5 w5 hG5
              have hx0 := (hG5.rest cb (by simp; omega) (by intro h; have h2 : wz.heap.size ≤ cb ∧ cb < wr.heap.size := h; omega)).trans hbA
              have u0 := cell_of_row w5 cb 0 _ _ (0, 0) hx0
              have u1 := frozen_of_row w5 cb 0 _ _ hx0
              simp at u0
              have K9 := (World.cell?_of_block (hG5.rest nb (by simp; omega) (by intro h; have h2 : wz.heap.size ≤ nb ∧ nb < wr.heap.size := h; omega))).trans hd6a
              refine hK'.out _ _ (K9) (fun h => absurd h (by simp)) ?_
              clear hK' K'
              try simp only [Act.put, List.getElem_toArray, List.getElem_cons_zero, List.getElem_cons_succ, List.setIfInBounds_toArray, List.set_cons_zero, List.set_cons_succ]
              refine wpAnyU_takeS (i := 8) (v := ?_) rfl (by kernel_rfl) (by kernel_rfl) (by kernel_rfl) (fun _ _ _ h => h) (by decide) (Or.inl ⟨by kernel_rfl, ?_⟩) K9 (fun h => absurd h (by simp)) ?_
              rotate_left
              · intro w hSw; (try dsimp only at hSw); go_simp; with_reducible rfl
              try simp only [Act.put, List.getElem_toArray, List.getElem_cons_zero, List.getElem_cons_succ, List.setIfInBounds_toArray, List.set_cons_zero, List.set_cons_succ]
              refine wpAnyU_one (i := 9) (by kernel_rfl) rfl ?_
              intro K' hK'
              go_simp
              refine hK'.out _ _ ((World.cell?_of_block (Below.heap_setCell w5 _ _ nb (by show nb ≠ cb; omega))).trans K9) (fun h => absurd h (by simp)) ?_
              clear hK' K'
              try simp only [Act.put, List.getElem_toArray, List.getElem_cons_zero, List.getElem_cons_succ, List.setIfInBounds_toArray, List.set_cons_zero, List.set_cons_succ]
              refine wpAnyU_done (by kernel_rfl) ?_ _
              all_goals
                obtain ⟨w6, hw6, hbox6, hP6, hT6, hB6, hs6⟩ := ko_next (tg := 53) (mz := wz.heap.size) (v5 := .slice a5 (acc.length + 1) c5) (ys := acc ++ [s]) hbox hTr hbq hz1a hz2a hz4a hszq hord (by first | exact (Below.refl _ _).alloc (Nat.le_refl _) _ | exact ((Below.refl _ _).drew).alloc (Nat.le_refl _) _) hG5 hzwz
                rw [← hw6]
                clear hG5 hx0 u0 u1 hw6 K9 hbA y0a hd6a hd6 y0 y1 y2 hTr hbox hbq hNq hbs
                go_wp2
                go_roundw
                case rel => exact ⟨⟨m + 1, acc ++ [s], _, by omega, by go_num, by simp; omega, hbox6, hP6, hT6, hs6, HNX.out⟩, hB6⟩
                case measure => simp [intOf] <;> omega
            · have HE0 := Lib.hid (map_end HI.out hlm)
              have HE : Hid ((⟨acc, c.who, tr⟩ : Commit) = onlyC ls c) := by show _ = _; unfold onlyC; rw [← HE0.out, HTR2.out, HPS.out]
              have hFo := hFO.below (Nat.le_refl _) hbq
              have hcm : Fresh wo.heap.size wr.heap.size wr [.slice ap8 acc.length cp8, .string c.who, .slice a6 tr.length c6] (⟨acc, c.who, tr⟩ : Commit) := Fresh.commitD (p := (⟨acc, c.who, tr⟩ : Commit)) hP hz1 hTr (by omega) hz3a (Nat.le_refl _) (by omega) (.inr hz4a)
              have hrow2 := (hbq.block ob (by omega)).trans hrowO
              have hr02 := (hbq.block w.heap.size (by omega)).trans hr0O
              have hr12 := (hbq.block (w.heap.size + 1) (by omega)).trans hr1O
              have hLq : IsSlice (fun b => C1 ≤ b ∧ b < w3.heap.size) wr (some ⟨gl, offl, none⟩) cl ls := hLO.frame fun b hb' hl => ⟨hbq.block b (by omega), hb'⟩
              have t0 := cell_of_row wr ob 0 _ _ (0, 0) hrow2
              have t1 := cell_of_row wr ob 1 _ _ (0, 0) hrow2
              simp at t0 t1
              go_wp2_with (at_builtin; go_must (refine wpList_app_one slz_commit.slt rfl (.tmp 67) (.tmp 69) rfl rfl (hFo.alloc _) (by simp; omega) rfl (heap_alloc_new _ _) (hcm.alloc _) (by omega) (by omega) (by unfold maxLen; omega) ?_); intro a7 c7 w7 hG7; have hw7 := hG7.below.size; simp only [alloc_size2] at hw7; have hrow7 := (hG7.rest ob (by simp; omega) (.inl (by omega))).trans ((Below.heap_alloc wr _ ob (by omega)).trans hrow2); have u0 := cell_of_row w7 ob 0 _ _ (0, 0) hrow7; have u1 := frozen_of_row w7 ob 0 _ _ hrow7; simp at u0)
              have hrowS := heap_setCell_same w7 ob 0 _ _ (.slice a7 (ol.length + 1) c7) hrow7
              have hr07 := (Below.heap_setCell w7 ⟨ob, 0, none⟩ (.slice a7 (ol.length + 1) c7) w.heap.size (by show w.heap.size ≠ ob; omega)).trans ((hG7.rest w.heap.size (by simp; omega) (.inl (by omega))).trans ((Below.heap_alloc wr _ w.heap.size (by omega)).trans hr02))
              have hr17 := (Below.heap_setCell w7 ⟨ob, 0, none⟩ (.slice a7 (ol.length + 1) c7) (w.heap.size + 1) (by show w.heap.size + 1 ≠ ob; omega)).trans ((hG7.rest (w.heap.size + 1) (by simp; omega) (.inl (by omega))).trans ((Below.heap_alloc wr _ (w.heap.size + 1) (by omega)).trans hr12))
              have hL7 : IsSlice (fun b => C1 ≤ b ∧ b < w3.heap.size) w7 (some ⟨gl, offl, none⟩) cl ls := (hLq.alloc _).frame fun b hb' hl => ⟨hG7.rest b hl (.inl (by omega)), hb'⟩
              have hL8 := hL7.setCell (p := ⟨ob, 0, none⟩) (u := .slice a7 (ol.length + 1) c7) (by show ¬ (C1 ≤ ob ∧ _); omega)
              have hN7 : Fresh nb ob w7 [.slice (some ⟨nb, 0, none⟩) cs.length cs.length] ns1 := (hNq.alloc _).keep fun b h1 h2 h3 => hG7.rest b h3 (.inl (by omega))
              have hN8 := hN7.setCell (a := ⟨ob, 0, none⟩) (u := .slice a7 (ol.length + 1) c7) (.inr (Nat.le_refl _))
              have hF8 := (hG7.fresh.setCell (a := ⟨ob, 0, none⟩) (u := .slice a7 (ol.length + 1) c7) (.inl (by show ob < _; omega)))
              have hB8 := ((hbs.alloc (by omega) _).trans (hG7.below.mono (by omega))).setCell (p := ⟨ob, 0, none⟩) (by show w.heap.size ≤ ob; omega) (.slice a7 (ol.length + 1) c7)
              have hnl1 : ns1.length = cs.length := HNL.out
              go_roundw
              case rel => exact ⟨⟨k + 1, ol ++ [onlyC ls c], _, ns1, by omega, by go_num, by rw [List.length_append, HOL.out]; rfl, hnl1, hnk1, hrowS, by rw [← HE.out]; simpa using hF8, hN8, hr07, hr17, hL8, by simp; omega, HN.out⟩, hB8⟩
              case measure => simp [intOf] <;> omega
      · have HN := Lib.hid (map_end HA.out hlt)
        have hkl : k = ls.length := by omega
        have HHP : Hid (∀ h, h ∈ r.heads → ns[h.at_.toNat]? = some (place ls h.at_) ∧ 0 ≤ h.at_) := fun h hh' => by
          have h1 := HHD.out h hh'
          exact ⟨nums_at hnk HASC.out h1 (fun x hx => by rw [List.getElem?_eq_none (by omega)] at hx; cases hx) hk, (HMEM.out _ h1).1⟩
        obtain ⟨m1, hm1⟩ : ∃ m1, m1 = wp.heap.size := ⟨_, rfl⟩
        have hFm : Fresh w3.heap.size m1 wp [.slice a3 ol.length c3] ol := by rw [hm1]; exact hF
        have hm1b : w3.heap.size ≤ m1 := by omega
        have HHO : Hid (onlyHs r = [] ++ (r.heads.drop 0).map (onlyH ls)) := by show _ = _; rw [HH.out]; rfl
        clear hF q0r o0r o1r hkl hnk
        go_wp2
        go_loopw [76] (fun i wq => (∃ (k : Nat) (oh : List Head) (hv : Value), k ≤ r.heads.length ∧ i = .int .i64 k ∧ oh.length ≤ k ∧ wq.heap[ob]? = some (.cells #[.slice a3 ol.length c3, hv] 30 (0, 0)) ∧ Fresh w3.heap.size m1 wq [.slice a3 ol.length c3] ol ∧ Fresh m1 wq.heap.size wq [hv] oh ∧ Fresh nb ob wq [.slice (some ⟨nb, 0, none⟩) cs.length cs.length] ns ∧ wq.heap[w.heap.size + 1]? = some (.cells #[.slice none 0 0, .slice none 0 0] 30 (0, 0)) ∧ m1 ≤ wq.heap.size ∧ Hid (onlyHs r = oh ++ (r.heads.drop k).map (onlyH ls))) ∧ Below w.heap.size w wq) (fun i _ => r.heads.length - (intOf i).toNat)
        case atStart => exact ⟨⟨0, [], .slice none 0 0, by omega, rfl, by simp, hrow, hFm, Fresh.nil _ _ _ (by decide), hNs, hr1, by omega, HHO.out⟩, hb⟩
        case round =>
          clear hrow hFm hr0 hr1 hLs hb hsr hNs
          obtain ⟨⟨k, oh, hv, hk, rfl, hoh, hrow, hFm, hG, hNs, hr1, hmz, HI⟩, hb⟩ := hrel
          obtain ⟨a4, c4, hv4, _⟩ := hG.shape
          subst hv4
          have hsr := hb.size
          by_cases hlt : k < r.heads.length
          · have HN2 := Lib.hid (map_next (f := onlyH ls) HI.out hlt)
            obtain ⟨gh, offh, hagh, hd1, hd2, hz1, hz2⟩ := (hh.keep hb).branch hlt
            subst hagh
            obtain ⟨hp1, hp2⟩ := HHP.out _ (List.getElem_mem hlt)
            obtain ⟨h, hh0⟩ : ∃ h, h = r.heads[k] := ⟨_, rfl⟩
            rw [← hh0] at hd1 hd2 hz1 hz2 HN2 hp1 hp2
            obtain ⟨hn, hhn⟩ : ∃ hn : Nat, h.at_ = (hn : Int) := ⟨h.at_.toNat, by omega⟩
            obtain ⟨s, hs1⟩ : ∃ s, place ls h.at_ = s := ⟨_, rfl⟩
            have hsl := place_le ls h.at_
            rw [hs1] at hsl hp1
            rw [hhn, Int.toNat_natCast] at hp1
            obtain ⟨hpl, hpe⟩ := set_nums hp1
            obtain ⟨g6, off6, hag6, hd6, _⟩ := (rd_slice_of hNs.rd2).2.int (i := hn) hpl
            obtain ⟨rfl, rfl⟩ : nb = g6 ∧ 0 = off6 := by simpa using hag6
            rw [Nat.zero_add, hpe] at hd6
            have hpc : hn < cs.length := by omega
            have hi64s : I64 s := by unfold I64; omega
            have HN2 : Hid (onlyHs r = (oh ++ [(⟨h.name, s⟩ : Head)]) ++ (r.heads.drop (k + 1)).map (onlyH ls)) := by
              show _ = _
              have h1 := HN2.out
              unfold onlyH at h1 ⊢
              rw [hs1] at h1
              exact h1
            rw [hhn] at hd2
            obtain ⟨nm, hnm⟩ : ∃ nm, nm = h.name := ⟨_, rfl⟩
            rw [← hnm] at hd1 hz1 HN2
            obtain ⟨wb, hwb⟩ : ∃ wb, wb = wr.alloc (.cells #[.string nm, .int .i64 (hn : Int)] 57) := ⟨_, rfl⟩
            obtain ⟨hB1, hsb, hq⟩ := boxed (vs := [.string nm, .int .i64 (hn : Int)]) hwb
            have p0 := hq 0 _ rfl
            have p1 := hq 1 _ rfl
            have hwbs : wr.heap.size < wb.heap.size := by omega
            have hwbs1 : wb.heap.size ≤ wr.heap.size + 1 := by omega
            have hnbw : nb < wr.heap.size := by omega
            have hobw : ob < wr.heap.size := by omega
            have hdb := (World.cell?_of_block (hB1.block nb hnbw)).trans hd6
            have hrowb := (hB1.block ob hobw).trans hrow
            have hr1b := (hB1.block (w.heap.size + 1) (by omega)).trans hr1
            have o1b := cell_of_row wb ob 1 _ _ (0, 0) hrowb
            have hrowl := (Below.heap_alloc wb (.cells #[.string nm, .int .i64 s] 57) ob (by omega)).trans hrowb
            have o1l := cell_of_row _ ob 1 _ _ (0, 0) hrowl
            simp at o1b o1l
            have hbb := hb.trans (hB1.mono hsr)
            have hGb : Fresh m1 wr.heap.size wb [.slice a4 oh.length c4] oh := hG.belowm (Nat.le_refl _) hB1
            have hFb := hFm.belowm (by omega) hB1
            have hNb := hNs.belowm (by omega) hB1
            have K0 := And.intro p0 (And.intro p1 hdb)
            have HWB := Lib.hid hwb
            clear hs1 hh0 hp1 hp2 hag6 hnm hhn hwb hq hsb hG hFm hNs hrow hr1
            go_wp2_with fail
            rw [← HWB.out]
            clear hd1 hd2 hd6
            refine wp_region_U (fun w' => w'.cell? ⟨wr.heap.size, 0, none⟩ = some (.string nm) ∧ w'.cell? ⟨wr.heap.size, 1, none⟩ = some (.int .i64 (hn : Int)) ∧ w'.cell? ⟨nb, hn, none⟩ = some (.int .i64 s)) (fun w' => w'.cell? ⟨ob, 1, none⟩ = some (.slice a4 oh.length c4)) 11 (by kernel_rfl) K0 o1b (fun hSw hTw => ?_)
            refine wpAnyU_takeS (i := 0) (v := ?_) rfl (by kernel_rfl) (by kernel_rfl) (by kernel_rfl) (fun _ _ _ h => h) (by decide) (Or.inl ⟨by kernel_rfl, ?_⟩) hSw (fun _ => hTw) ?_
            rotate_left
            · intro w hSw; (try dsimp only at hSw); go_simp; with_reducible rfl
            try simp only [Act.put, List.getElem_toArray, List.getElem_cons_zero, List.setIfInBounds_toArray, List.set_cons_zero, List.set_cons_succ]
            refine wpAnyU_takeT (i := 1) (v := ?_) rfl (by kernel_rfl) (by kernel_rfl) (by kernel_rfl) (fun _ _ _ h => h) (by decide) rfl (by kernel_rfl) (by kernel_rfl) (Or.inl ⟨by kernel_rfl, ?_⟩) hSw hTw ?_
            rotate_left
            · intro w hSw; (try dsimp only at hSw); go_simp; with_reducible rfl
            try simp only [Act.put, List.getElem_toArray, List.getElem_cons_zero, List.getElem_cons_succ, List.setIfInBounds_toArray, List.set_cons_zero, List.set_cons_succ]
            refine wpAnyU_takeS (i := 2) (v := ?_) rfl (by kernel_rfl) (by kernel_rfl) (by kernel_rfl) (fun _ _ _ h => h) (by decide) (Or.inl ⟨by kernel_rfl, ?_⟩) hSw (fun _ => hTw) ?_
            rotate_left
            · intro w hSw; (try dsimp only at hSw); go_simp; with_reducible rfl
            try simp only [Act.put, List.getElem_toArray, List.getElem_cons_zero, List.getElem_cons_succ, List.setIfInBounds_toArray, List.set_cons_zero, List.set_cons_succ]
            refine wpAnyU_takeS (i := 3) (v := ?_) rfl (by kernel_rfl) (by kernel_rfl) (by kernel_rfl) (fun _ _ _ h => h) (by decide) (Or.inl ⟨by kernel_rfl, ?_⟩) hSw (fun _ => hTw) ?_
            rotate_left
            · intro w hSw; (try dsimp only at hSw); go_simp; with_reducible rfl
            try simp only [Act.put, List.getElem_toArray, List.getElem_cons_zero, List.getElem_cons_succ, List.setIfInBounds_toArray, List.set_cons_zero, List.set_cons_succ]
            refine wpAnyU_takeS (i := 4) (v := ?_) rfl (by kernel_rfl) (by kernel_rfl) (by kernel_rfl) (fun _ _ _ h => h) (by decide) (Or.inl ⟨by kernel_rfl, ?_⟩) hSw (fun _ => hTw) ?_
            rotate_left
            · intro w hSw; (try dsimp only at hSw); go_simp; with_reducible rfl
            try simp only [Act.put, List.getElem_toArray, List.getElem_cons_zero, List.getElem_cons_succ, List.setIfInBounds_toArray, List.set_cons_zero, List.set_cons_succ]
            refine wpAnyU_takeS (i := 5) (v := ?_) rfl (by kernel_rfl) (by kernel_rfl) (by kernel_rfl) (fun _ _ _ h => h) (by decide) (Or.inl ⟨by kernel_rfl, ?_⟩) hSw (fun _ => hTw) ?_
            rotate_left
            · intro w hSw; (try dsimp only at hSw); go_simp; with_reducible rfl
            try simp only [Act.put, List.getElem_toArray, List.getElem_cons_zero, List.getElem_cons_succ, List.setIfInBounds_toArray, List.set_cons_zero, List.set_cons_succ]
            refine wpAnyU_takeS (i := 6) (v := ?_) rfl (by kernel_rfl) (by kernel_rfl) (by kernel_rfl) (fun _ _ _ h => h) (by decide) (Or.inl ⟨by kernel_rfl, ?_⟩) hSw (fun _ => hTw) ?_
            rotate_left
            · intro w hSw; (try dsimp only at hSw); go_simp; with_reducible rfl
            try simp only [Act.put, List.getElem_toArray, List.getElem_cons_zero, List.getElem_cons_succ, List.setIfInBounds_toArray, List.set_cons_zero, List.set_cons_succ]
            refine wpAnyU_takeS (i := 7) (v := ?_) rfl (by kernel_rfl) (by kernel_rfl) (by kernel_rfl) (fun _ _ _ h => h) (by decide) (Or.inl ⟨by kernel_rfl, ?_⟩) hSw (fun _ => hTw) ?_
            rotate_left
            · intro w hSw; (try dsimp only at hSw); go_simp; with_reducible rfl
            try simp only [Act.put, List.getElem_toArray, List.getElem_cons_zero, List.getElem_cons_succ, List.setIfInBounds_toArray, List.set_cons_zero, List.set_cons_succ]
            refine wpAnyU_takeS (i := 8) (v := ?_) rfl (by kernel_rfl) (by kernel_rfl) (by kernel_rfl) (fun _ _ _ h => h) (by decide) (Or.inl ⟨by kernel_rfl, ?_⟩) hSw (fun _ => hTw) ?_
            rotate_left
            · intro w hSw; (try dsimp only at hSw); go_simp; with_reducible rfl
            try simp only [Act.put, List.getElem_toArray, List.getElem_cons_zero, List.getElem_cons_succ, List.setIfInBounds_toArray, List.set_cons_zero, List.set_cons_succ]
            refine wpAnyU_takeS (i := 9) (v := ?_) rfl (by kernel_rfl) (by kernel_rfl) (by kernel_rfl) (fun _ _ _ h => h) (by decide) (Or.inl ⟨by kernel_rfl, ?_⟩) hSw (fun _ => hTw) ?_
            rotate_left
            · intro w hSw; (try dsimp only at hSw); go_simp; with_reducible rfl
            try simp only [Act.put, List.getElem_toArray, List.getElem_cons_zero, List.getElem_cons_succ, List.setIfInBounds_toArray, List.set_cons_zero, List.set_cons_succ]
            refine wpAnyU_one (i := 10) (by kernel_rfl) rfl ?_
            intro K' hK'
            go_simp
            refine hK'.out _ _ (keep3_alloc (w := wb.drew) hSw _) (fun _ => (World.cell?_of_block (Below.heap_alloc wb.drew _ ob (by show ob < wb.heap.size; omega))).trans hTw) ?_
            clear hK' K'
            try simp only [Act.put, List.getElem_toArray, List.getElem_cons_zero, List.getElem_cons_succ, List.setIfInBounds_toArray, List.set_cons_zero, List.set_cons_succ]
            refine wpAnyU_one (i := 11) (by kernel_rfl) rfl ?_
            intro K' hK'
            refine step_app_one (xs := oh) (B := m1) (m0 := wr.heap.size) (m1 := wr.heap.size) (v := .slice a4 oh.length c4) (g := wb.heap.size) (cs := [.string nm, .int .i64 s]) (e := 57) (y := (⟨nm, s⟩ : Head)) slz_branch.slt rfl (.tmp 81) (.tmp 90) rfl rfl ?_ ?_ rfl ?_ ?_ ?_ ?_ ?_ ?_
            · first | exact (hGb.alloc _).drew | exact hGb.drew.alloc _ | exact hGb.alloc _
            · first | omega | (simp; omega)
            · first | exact heap_alloc_new wb _ | exact heap_alloc_new _ _
            · exact Fresh.leaf (own_branch (p := (⟨nm, s⟩ : Head)) hz1 hi64s)
            · omega
            · omega
            · unfold maxLen; omega
            intro a9 c9 w9 hG9
            have hw9 := hG9.below.size
            simp only [alloc_size2, drew_size] at hw9
            have hrow9 := (hG9.rest ob (by simp; omega) (.inl (by omega))).trans hrowl
            have u0 := cell_of_row w9 ob 1 _ _ (0, 0) hrow9
            have u1 := frozen_of_row w9 ob 1 _ _ hrow9
            simp at u0
            have r0 := (hG9.rest wr.heap.size (by simp; omega) (.inr (by omega))).trans (Below.heap_alloc wb _ wr.heap.size (by omega))
            have rg := (hG9.rest nb (by simp; omega) (.inl (by omega))).trans (Below.heap_alloc wb _ nb (by omega))
            have K9 := And.intro ((World.cell?_of_block r0).trans K0.1) (And.intro ((World.cell?_of_block r0).trans K0.2.1) ((World.cell?_of_block rg).trans K0.2.2))
            refine hK'.out _ _ (K9) (fun h => absurd h (by simp)) ?_
            clear hK' K'
            try simp only [Act.put, List.getElem_toArray, List.getElem_cons_zero, List.getElem_cons_succ, List.setIfInBounds_toArray, List.set_cons_zero, List.set_cons_succ]
            refine wpAnyU_takeS (i := 12) (v := ?_) rfl (by kernel_rfl) (by kernel_rfl) (by kernel_rfl) (fun _ _ _ h => h) (by decide) (Or.inl ⟨by kernel_rfl, ?_⟩) K9 (fun h => absurd h (by simp)) ?_
            rotate_left
            · intro w hSw; (try dsimp only at hSw); go_simp; with_reducible rfl
            try simp only [Act.put, List.getElem_toArray, List.getElem_cons_zero, List.getElem_cons_succ, List.setIfInBounds_toArray, List.set_cons_zero, List.set_cons_succ]
            refine wpAnyU_one (i := 13) (by kernel_rfl) rfl ?_
            intro K' hK'
            go_simp
            refine hK'.out _ _ (keep3_set K9 (by (try dsimp only); omega) (by (try dsimp only); omega) (by (try dsimp only); omega)) (fun h => absurd h (by simp)) ?_
            clear hK' K'
            try simp only [Act.put, List.getElem_toArray, List.getElem_cons_zero, List.getElem_cons_succ, List.setIfInBounds_toArray, List.set_cons_zero, List.set_cons_succ]
            refine wpAnyU_done (by kernel_rfl) ?_ _
            all_goals
              have hrowS := heap_setCell_same w9 ob 1 _ _ (.slice a9 (oh.length + 1) c9) hrow9
              have hb9 : Below w.heap.size w w9 := ((hbb.alloc (by omega) _).drew).trans (hG9.below.mono (by omega))
              have hr19 := (Below.heap_setCell w9 ⟨ob, 1, none⟩ (.slice a9 (oh.length + 1) c9) (w.heap.size + 1) (by show w.heap.size + 1 ≠ ob; omega)).trans ((hG9.rest (w.heap.size + 1) (by simp; omega) (.inl (by omega))).trans ((Below.heap_alloc wb _ (w.heap.size + 1) (by omega)).trans hr1b))
              have hF9 : Fresh w3.heap.size m1 w9 [.slice a3 ol.length c3] ol := (hFb.alloc _).keep fun b h1 h2 h3 => hG9.rest b h3 (.inl (by omega))
              have hFS := hF9.setCell (a := ⟨ob, 1, none⟩) (u := .slice a9 (oh.length + 1) c9) (.inl (by show ob < _; omega))
              have hN9 : Fresh nb ob w9 [.slice (some ⟨nb, 0, none⟩) cs.length cs.length] ns := (hNb.alloc _).keep fun b h1 h2 h3 => hG9.rest b h3 (.inl (by omega))
              have hNS := hN9.setCell (a := ⟨ob, 1, none⟩) (u := .slice a9 (oh.length + 1) c9) (.inr (Nat.le_refl _))
              have hGS := hG9.fresh.setCell (a := ⟨ob, 1, none⟩) (u := .slice a9 (oh.length + 1) c9) (.inl (by show ob < _; omega))
              have hbS := hb9.setCell (p := ⟨ob, 1, none⟩) (by show w.heap.size ≤ ob; omega) (.slice a9 (oh.length + 1) c9)
              clear K9 K0
              go_wp2
              go_roundw
              case rel => exact ⟨⟨k + 1, oh ++ [(⟨nm, s⟩ : Head)], _, by omega, by go_num, by simp; omega, hrowS, hFS, by simpa using hGS, hNS, hr19, by simp; omega, HN2.out⟩, hbS⟩
              case measure => simp [intOf] <;> omega
          · have HN2 := Lib.hid (map_end HI.out hlt)
            have o0r := cell_of_row wr ob 0 _ _ (0, 0) hrow
            have o1r := cell_of_row wr ob 1 _ _ (0, 0) hrow
            have e0r := cell_of_row wr (w.heap.size + 1) 0 _ _ (0, 0) hr1
            have e1r := cell_of_row wr (w.heap.size + 1) 1 _ _ (0, 0) hr1
            have f0r := frozen_of_row wr (w.heap.size + 1) 0 _ _ hr1
            have f1r := frozen_of_row wr (w.heap.size + 1) 1 _ _ hr1
            simp at o0r o1r e0r e1r
            have hst := stored2 hr1 (.slice a3 ol.length c3) (.slice a4 oh.length c4)
            have u0 := cell_of_row _ (w.heap.size + 1) 0 _ _ (0, 0) hst
            have u1 := cell_of_row _ (w.heap.size + 1) 1 _ _ (0, 0) hst
            simp at u0 u1
            have hBF := (hb.setCell (p := ⟨w.heap.size + 1, 0, none⟩) (Nat.le_succ _) (.slice a3 ol.length c3)).setCell (p := ⟨w.heap.size + 1, 1, none⟩) (Nat.le_succ _) (.slice a4 oh.length c4)
            have hFF := (hFm.setCell (a := ⟨w.heap.size + 1, 0, none⟩) (u := .slice a3 ol.length c3) (.inl (by show w.heap.size + 1 < _; omega))).setCell (a := ⟨w.heap.size + 1, 1, none⟩) (u := .slice a4 oh.length c4) (.inl (by show w.heap.size + 1 < _; omega))
            have hGF := (hG.setCell (a := ⟨w.heap.size + 1, 0, none⟩) (u := .slice a3 ol.length c3) (.inl (by show w.heap.size + 1 < _; omega))).setCell (a := ⟨w.heap.size + 1, 1, none⟩) (u := .slice a4 oh.length c4) (.inl (by show w.heap.size + 1 < _; omega))
            have HKC : Hid ((keepOnly r).commits = ol ∧ (keepOnly r).heads = oh) := by show _ ∧ _; rw [HK0.out.1, HK0.out.2, HN.out, HN2.out]; exact ⟨rfl, rfl⟩
            go_wp2
            refine bodyPost_ret (v := .agg #[.slice a3 ol.length c3, .slice a4 oh.length c4]) (by simp [results, Tryd.results9, go_sem, u0, u1]) rfl ⟨a3, c3, a4, c4, m1, by rw [HKC.out.1, HKC.out.2], ?_, ?_, by omega, by simp; omega, hBF⟩
            · rw [HKC.out.1]; exact hFF.mono (by omega) (Nat.le_refl _)
            · rw [HKC.out.2]; exact hGF.mono (Nat.le_refl _) (by simp)
end Go.Proofs.YthhmaclhggmneaaDoor
