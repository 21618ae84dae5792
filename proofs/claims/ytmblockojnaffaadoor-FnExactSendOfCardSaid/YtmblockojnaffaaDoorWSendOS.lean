/-
  Walks: what is sent, as the reference has it.
-/
import Derived.Test.YtmblockojnaffaaDoorWSendO
import Derived.Test.YtmblockojnaffaaDoorWCCom
import Derived.Test.YtmblockojnaffaaDoorFS
set_option linter.unusedVariables false
namespace Go.Vc
theorem set_take1 {ys : List Int} {m : Nat} (h : m < ys.length) (x : Int) : (ys.set m x).take (m + 1) = ys.take m ++ [x] := by
  rw [List.take_succ_eq_append_getElem (by simpa using h), List.getElem_set_self]
  congr 1
  rw [List.take_set]
  exact List.set_eq_of_length_le (by rw [List.length_take]; exact Nat.min_le_left _ _)
theorem set_drop1 {ys : List Int} {m : Nat} {x : Int} : (ys.set m x).drop (m + 1) = ys.drop (m + 1) := by
  rw [List.drop_set]; simp
theorem drop_at {ys ps : List Int} {m : Nat} (h : ys.drop m = ps.drop m) (h1 : m < ys.length) (h2 : m < ps.length) : ys[m] = ps[m] := by
  rw [drop_cons ys m h1, drop_cons ps m h2] at h
  injection h
theorem drop_more {ys ps : List Int} {m : Nat} (h : ys.drop m = ps.drop m) : ys.drop (m + 1) = ps.drop (m + 1) := by
  rw [← List.drop_drop (i := 1) (j := m), ← List.drop_drop (i := 1) (j := m), h]
end Go.Vc
namespace Go.Proofs.YtmblockojnaffaaDoor
open Go.RowKit Go.Vc
open Go.Vc.Rep (rd)
open Go.Vc.Own (own)

theorem own_i64s (n : Int) (h : I64 n) (w : World) : Own.own [] w [.int .i64 n] n := ⟨rfl, rfl, h⟩
set_option maxHeartbeats 16000000 in
set_option maxRecDepth 100000 in
theorem specSendOf {S T U : Nat → Prop} (r : Repo) (v0 v1 u : Value) (xs : List Int) (at_ : Int) (w : World) (h0 : rd S w [v0] r.commits) (h1 : rd T w [v1] r.heads) (hu : rd U w [u] xs) (hS : shortR r) (hM : ML w) :
    Calls Tryd.prog 44 #[.agg #[v0, v1], u, .int .i64 at_] w fun e w' => ∃ v', e = .returned (.tuple #[v', .bool (sendB r xs at_)]) ∧ Fresh w.heap.size w'.heap.size w' [v'] (sendL r xs at_) ∧ Below w.heap.size w w' := by
  have h0 := Rep.lt h0
  have h1 := Rep.lt h1
  have hu := Rep.lt hu
  obtain ⟨a, cap, rfl, hs⟩ := rd_slice_elim h0
  have hle := hs.le
  have hB0 : Below w.heap.size w ((w.alloc (.cells #[.slice a r.commits.length cap, v1] 32)).alloc (.cells #[] (Tid.tid Commit))) := (((Below.refl _ _).alloc (by simp <;> omega) _).alloc (by simp <;> omega) _)
  have hbl := (Below.refl (w.alloc (.cells #[.slice a r.commits.length cap, v1] 32)).heap.size (w.alloc (.cells #[.slice a r.commits.length cap, v1] 32))).alloc (Nat.le_refl _) (.cells #[] (Tid.tid Commit))
  have p0 : (w.alloc (.cells #[.slice a r.commits.length cap, v1] 32)).cell? ⟨w.heap.size, 0, none⟩ = some (.slice a r.commits.length cap) := by rw [cell_of_row _ _ 0 _ _ (0, 0) (heap_alloc_new _ _)]; rfl
  have p1 : (w.alloc (.cells #[.slice a r.commits.length cap, v1] 32)).cell? ⟨w.heap.size, 1, none⟩ = some v1 := by rw [cell_of_row _ _ 1 _ _ (0, 0) (heap_alloc_new _ _)]; rfl
  have q0 := keepc p0 hbl
  have q1 := keepc p1 hbl
  have hE := Fresh.empty (β := Commit) (by decide) (w.alloc (.cells #[.slice a r.commits.length cap, v1] 32)).heap.size (w.alloc (.cells #[.slice a r.commits.length cap, v1] 32)) (Nat.le_refl _)
  rw [show (w.alloc (.cells #[.slice a r.commits.length cap, v1] 32)).heap.size = w.heap.size + 1 by simp] at hE
  have hx0 : ((w.alloc (.cells #[.slice a r.commits.length cap, v1] 32)).alloc (.cells #[] (Tid.tid Commit))).heap[w.heap.size + 1]? = some (.cells #[] (Tid.tid Commit) (0, 0)) := heap_new_at (by simp)
  clear p0 p1 hbl
  have HO : Hid (sendO r xs at_ = if suspB r xs at_ = true then sendG r.commits (leftT r.commits at_ xs) xs [] (leftT r.commits at_ xs) else none) := rfl
  have HL : Hid (sendL r xs at_ = (sendO r xs at_).getD []) := rfl
  have HB_ : Hid (sendB r xs at_ = (sendO r xs at_).isSome) := rfl
  have HSU : Hid (suspB r xs at_ = (repoB r && (anyB r.commits.length xs && decide (xs.length ≤ 16)) && withinB at_ 0 ((r.commits.length : Int) - 1))) := by show _ = _; unfold suspB; simp only [Bool.and_assoc]
  cases hr : repoB r with
  | false =>
    rw [hr] at HSU
    have HO2 : Hid (sendO r xs at_ = none) := by show _ = _; rw [HO.out, HSU.out]; rfl
    go_enter Tryd.func44, Tryd.ntmps44
    go_wp2_with fail
    refine (l7Ok_is _ _ r _ (Rep.keep h0 hB0) (Rep.keep h1 hB0) hr).mono ?_
    rintro e w1 ⟨rfl, hb1⟩
    go_wp2
    go_ret2
    exact ⟨.slice none 0 0, by rw [HB_.out, HO2.out]; rfl, by rw [HL.out, HO2.out]; exact Fresh.nil _ _ _ (by decide), hB0.trans (hb1.mono hB0.size)⟩
  | true =>
    rw [hr] at HSU
    have hfew := repo_le hr
    have hPar := repo_par hr
    have HTX := Lib.hid (repo_texts2 hr)
    have HFEW := Lib.hid (repo_few hr)
    go_enter Tryd.func44, Tryd.ntmps44
    go_wp2_with fail
    refine (l7Ok_is _ _ r _ (Rep.keep h0 hB0) (Rep.keep h1 hB0) hr).mono ?_
    rintro e w1 ⟨rfl, hb1⟩
    have q0a := keepc q0 hb1
    have q1a := keepc q1 hb1
    have hxa := (hb1.block (w.heap.size + 1) (by simp)).trans hx0
    have hEa := (hE.below (Nat.le_refl _) hb1).now
    have HBa := hB0.trans (hb1.mono hB0.size)
    have hs1a : w.heap.size + 2 ≤ w1.heap.size := by have := hb1.size; simp at this; omega
    clear hr q0 q1 hE hB0 hb1
    cases hy : (anyB r.commits.length xs && decide (xs.length ≤ 16)) with
    | false =>
      rw [hy] at HSU
      have HO2 : Hid (sendO r xs at_ = none) := by show _ = _; rw [HO.out, HSU.out]; rfl
      go_wp2_with fail
      refine (l12Any_is _ _ _ r.commits xs _ (Rep.keep h0 HBa) (Rep.keep hu HBa) hfew hy).mono ?_
      rintro e w2 ⟨rfl, hb2⟩
      go_wp2
      go_ret2
      exact ⟨.slice none 0 0, by rw [HB_.out, HO2.out]; rfl, by rw [HL.out, HO2.out]; exact Fresh.nil _ _ _ (by decide), HBa.trans (hb2.mono HBa.size)⟩
    | true =>
      rw [hy] at HSU
      go_wp2_with fail
      refine (l12Any_is _ _ _ r.commits xs _ (Rep.keep h0 HBa) (Rep.keep hu HBa) hfew hy).mono ?_
      rintro e w2 ⟨rfl, hb2⟩
      have q0b := keepc q0a hb2
      have q1b := keepc q1a hb2
      have hxb := (hb2.block (w.heap.size + 1) (by omega)).trans hxa
      have hEb := (hEa.below (Nat.le_refl _) hb2).now
      have HBb := HBa.trans (hb2.mono HBa.size)
      have hs1b : w.heap.size + 2 ≤ w2.heap.size := by have := hb2.size; omega
      clear hy q0a q1a hEa HBa hb2 hs1a
      cases hw : withinB at_ 0 ((r.commits.length : Int) - 1) with
      | false =>
        rw [hw] at HSU
        have HO2 : Hid (sendO r xs at_ = none) := by show _ = _; rw [HO.out, HSU.out]; rfl
        go_wp2_with (go_at_call 55; with_reducible refine (l1In_is _ _ _ _ hw).mono ?_; rintro e w3 ⟨rfl, rfl⟩)
        go_ret2
        exact ⟨.slice none 0 0, by rw [HB_.out, HO2.out]; rfl, by rw [HL.out, HO2.out]; exact Fresh.nil _ _ _ (by decide), HBb⟩
      | true =>
        rw [hw] at HSU
        have hq : suspB r xs at_ = true := HSU.out
        obtain ⟨hp1, hp2, hp3, hp4, hp5⟩ := susp_parts hq
        have HO2 : Hid (sendO r xs at_ = sendG r.commits (leftT r.commits at_ xs) xs [] (leftT r.commits at_ xs)) := by show _ = _; rw [HO.out, if_pos hq]
        clear hq HO HSU
        go_wp2_with (go_at_call 55; with_reducible refine (l1In_is _ _ _ _ hw).mono ?_; rintro e w3 ⟨rfl, rfl⟩)
        refine (l15New_any _ _ _ r.commits xs at_ _ (Rep.keep h0 HBb) (Rep.keep hu HBb) hPar hfew ⟨hp4, hp5⟩ hp2 (by omega)).mono ?_
        rintro e w3 ⟨vl, rfl, hL, hb3⟩
        have q0c := keepc q0b hb3
        have hxc := (hb3.block (w.heap.size + 1) (by omega)).trans hxb
        have hEc := hEb.below (Nat.le_refl _) hb3
        have HBc := HBb.trans (hb3.mono HBb.size)
        have hs1c : w.heap.size + 2 ≤ w3.heap.size := by have := hb3.size; omega
        have hs3 := hb3.size
        have hll := left_len r.commits at_ xs
        have HMEM := Lib.hid (show ∀ x, x ∈ leftT r.commits at_ xs → 0 ≤ x ∧ x < (r.commits.length : Int) from fun x hx => allOf_mem (List.mem_filter.1 hx).1)
        obtain ⟨ls, hls⟩ : ∃ ls, ls = leftT r.commits at_ xs := ⟨_, rfl⟩
        rw [← hls] at hL hll HMEM HO2
        obtain ⟨al, cl, hvl, _⟩ := hL.shape
        subst hvl
        have hLs := (rd_slice_of hL.rd2).2
        obtain ⟨H, hH⟩ : ∃ H : Nat → Prop, H = fun b => w2.heap.size ≤ b ∧ b < w3.heap.size := ⟨_, rfl⟩
        have hLs : IsSlice H w3 al cl ls := by rw [hH]; exact hLs
        have HH := Lib.hid (show ∀ b, H b → w.heap.size + 2 ≤ b ∧ b < w3.heap.size from fun b hb => by rw [hH] at hb; omega)
        have hX : FS (fun b => b = w.heap.size + 1 ∨ (w3.heap.size ≤ b ∧ b < w3.heap.size)) w3 [.slice (some ⟨w.heap.size + 1, 0, none⟩) 0 0] ([] : List Commit) := (FS.empty (β := Commit) (by decide) hxc).mono (fun b hb _ => .inl hb)
        obtain ⟨cs, hcs⟩ : ∃ cs, cs = r.commits := ⟨_, rfl⟩
        have HTX : Hid (∀ i : Int, 0 ≤ i → i < (cs.length : Int) → (treeAtC cs i).length ≤ 1000 ∧ ∀ f, f ∈ treeAtC cs i → f.text.length ≤ 10) := by subst hcs; exact HTX
        have HFEW : Hid (parFew cs) := by subst hcs; exact HFEW
        rw [← hcs] at hs q0c hll HMEM HO2 hfew
        try rw [← hcs]
        clear hls hL hEb hEc q0b q1b HBb hb3 hcs hp1 hp2 hp4 hp5 hPar h0 h1 hM hw hH hs1b hle hs3
        go_wp2
        go_loopw [8, 10] (fun out i wr => (∃ (k : Nat) (ol : List Commit) (v : Value), k ≤ ls.length ∧ i = .int .i64 k ∧ ol.length ≤ k ∧ out = v ∧ FS (fun b => b = w.heap.size + 1 ∨ (w3.heap.size ≤ b ∧ b < wr.heap.size)) wr [v] ol ∧ IsSlice H wr al cl ls ∧ wr.cell? ⟨w.heap.size, 0, none⟩ = some (.slice a cs.length cap) ∧ w3.heap.size ≤ wr.heap.size ∧ Hid (sendO r xs at_ = sendG cs ls xs ol (ls.drop k))) ∧ Below w.heap.size w wr) (fun _ i _ => ls.length - (intOf i).toNat)
        case atStart => exact ⟨⟨0, [], _, by omega, rfl, by simp, rfl, hX, hLs, q0c, Nat.le_refl _, HO2.out⟩, HBc⟩
        case round =>
          clear hX hLs q0c
          obtain ⟨⟨k, ol, v, hk, rfl, hol, rfl, hF, hLs, q0r, hs3, HA⟩, hb⟩ := hrel
          obtain ⟨a3, c3, hv3, _⟩ := rd_slice_elim hF.rd
          subst hv3
          obtain ⟨wo, rfl⟩ : ∃ wo : World, wo = wr := ⟨_, rfl⟩
          have hsr := hb.size
          by_cases hlt : k < ls.length
          · obtain ⟨gl, offl, hagl, hcl, _⟩ := hLs.int hlt
            subst hagl
            obtain ⟨hx0, hx1⟩ := HMEM.out _ (List.getElem_mem hlt)
            obtain ⟨j, hj⟩ : ∃ j : Nat, ls[k] = (j : Int) := ⟨ls[k].toNat, by omega⟩
            have hjl : j < cs.length := by omega
            rw [hj] at hcl
            obtain ⟨g, off, ap, np, at2, nt, hag, hc0, hc1, hc2, hpar, hz1, htr⟩ := hs.commit hjl
            subst hag
            have HTJ := Lib.hid (HTX.out (j : Int) (by omega) (by omega))
            have HTT : Hid (treeAtC cs (j : Int) = cs[j].tree) := by show _ = _; unfold treeAtC; rw [Int.toNat_natCast, getD_com hjl]
            have hpf := HFEW.out j hjl
            obtain ⟨c, hc⟩ : ∃ c, c = cs[j] := ⟨_, rfl⟩
            rw [← hc] at hc0 hc1 hc2 hpar hz1 htr hpf HTT
            have HSG := Lib.hid (show ∀ ps, sendPs ls xs [] c.parents = some ps → sendO r xs at_ = sendG cs ls xs (ol ++ [⟨ps, c.who, c.tree⟩]) (ls.drop (k + 1)) from fun ps hps => by subst hc; exact sendG_next HA.out hlt hj hjl hps)
            have HSN := Lib.hid (show sendPs ls xs [] c.parents = none → sendO r xs at_ = none from fun hps => by subst hc; exact sendG_none HA.out hlt hj hjl hps)
            have hc0r := keepc hc0 hb
            have hc1r := keepc hc1 hb
            have hc2r := keepc hc2 hb
            have hparr := (hpar.keep hb).rd
            have htrr := (htr.keep hb).rd
            have htl : c.tree.length ≤ 1000 := by rw [← HTT.out]; exact (HTJ.out).1
            have hbl0 : Below wo.heap.size wo (wo.drew.alloc (.cells #[.slice none 0 0, .string ⟨#[]⟩, .slice none 0 0] 74)) := (Below.refl _ _).drew.alloc (by simp) _
            have htx : ∀ f, f ∈ c.tree → f.text.length ≤ 10 := by rw [← HTT.out]; exact (HTJ.out).2
            clear hc hx0 hx1 hj hc0 hc1 hc2 htr hpar HTJ HTT
            go_wp2_with fail
            go_region_held3 (fun w' => w'.cell? ⟨w.heap.size, 0, none⟩ = some (.slice (some ⟨g, off, none⟩) cs.length cap) ∧ w'.cell? ⟨gl, offl + k, none⟩ = some (.int .i64 (j : Int)) ∧ w'.cell? ⟨g, off + j * 3, none⟩ = some (.slice ap c.parents.length np) ∧ w'.cell? ⟨g, off + j * 3 + 1, none⟩ = some (.string c.who) ∧ w'.cell? ⟨g, off + j * 3 + 2, none⟩ = some (.slice at2 c.tree.length nt))
              (first | go_keep | exact K9 | exact ⟨q0r, hcl, hc0r, hc1r, hc2r⟩ | exact ⟨keepc q0r hbl0, keepc hcl hbl0, keepc hc0r hbl0, keepc hc1r hbl0, keepc hc2r hbl0⟩ | exact ⟨keepc q0r (hbV.alloc hbV.size _), keepc hcl (hbV.alloc hbV.size _), keepc hc0r (hbV.alloc hbV.size _), keepc hc1r (hbV.alloc hbV.size _), keepc hc2r (hbV.alloc hbV.size _)⟩ | (have hbS := (((hbV.setCell (p := ⟨wo.heap.size, 0, none⟩) (Nat.le_refl _) (.slice a0 c.parents.length c0)).setCell (p := ⟨wo.heap.size, 1, none⟩) (Nat.le_refl _) (.string c.who)).setCell (p := ⟨wo.heap.size, 2, none⟩) (Nat.le_refl _) (.slice a2 c.tree.length c2)); exact ⟨keepc q0r hbS, keepc hcl hbS, keepc hc0r hbS, keepc hc1r hbS, keepc hc2r hbS⟩))
              (first
                | (go_at_call 85; refine (copyCommit_any c _ _ _ (Rep.drew hparr) (Rep.drew htrr) hz1 (by omega) htl htx).mono ?_; rintro e w6 ⟨a0, c0, a2, c2, mid, rfl, h60, h62, hm1, hm2, hb6⟩; have hbV : Below wo.heap.size wo w6 := (Below.refl _ _).drew.trans (hb6.mono (by simp)); have K9 := And.intro (keepc q0r hbV) (And.intro (keepc hcl hbV) (And.intro (keepc hc0r hbV) (And.intro (keepc hc1r hbV) (keepc hc2r hbV)))); have hB := True.intro; obtain ⟨lo, hlo⟩ : ∃ lo, lo = wo.heap.size := ⟨_, rfl⟩; obtain ⟨hi, hhi⟩ : ∃ hi, hi = w6.heap.size := ⟨_, rfl⟩; have h60 : Fresh lo mid w6 [.slice a0 c.parents.length c0] c.parents := (by rw [hlo]; exact h60); have h62 : Fresh mid hi w6 [.slice a2 c.tree.length c2] c.tree := (by rw [hhi]; exact h62); have hmm : wo.heap.size ≤ lo ∧ lo ≤ mid ∧ mid ≤ hi ∧ hi ≤ w6.heap.size := (by simp only [drew_size] at hm1; omega))
                | (go_at_call 85; refine (copyCommit_any c _ _ _ (Rep.alloc (Rep.drew hparr) (.cells #[.slice none 0 0, .string ⟨#[]⟩, .slice none 0 0] 74)) (Rep.alloc (Rep.drew htrr) (.cells #[.slice none 0 0, .string ⟨#[]⟩, .slice none 0 0] 74)) hz1 (by omega) htl htx).mono ?_; rintro e w6 ⟨a0, c0, a2, c2, mid, rfl, h60, h62, hm1, hm2, hb6⟩; have hbV : Below wo.heap.size wo w6 := ((Below.refl _ _).drew.alloc (by simp) (.cells #[.slice none 0 0, .string ⟨#[]⟩, .slice none 0 0] 74)).trans (hb6.mono (by simp)); have K9 := And.intro (keepc q0r hbV) (And.intro (keepc hcl hbV) (And.intro (keepc hc0r hbV) (And.intro (keepc hc1r hbV) (keepc hc2r hbV)))); have hA := True.intro; have hbx9 := (hb6.block wo.heap.size (by simp)).trans (heap_alloc_new wo.drew (.cells #[.slice none 0 0, .string ⟨#[]⟩, .slice none 0 0] 74)); have x0 := (cell_of_row w6 wo.heap.size 0 _ _ (0, 0) hbx9); have x1 := (cell_of_row w6 wo.heap.size 1 _ _ (0, 0) hbx9); have x2 := (cell_of_row w6 wo.heap.size 2 _ _ (0, 0) hbx9); have z0 := frozen_of_row w6 wo.heap.size 0 _ _ hbx9; have z1 := frozen_of_row w6 wo.heap.size 1 _ _ hbx9; have z2 := frozen_of_row w6 wo.heap.size 2 _ _ hbx9; simp at x0 x1 x2; obtain ⟨lo, hlo⟩ : ∃ lo, lo = wo.heap.size + 1 := ⟨_, rfl⟩; obtain ⟨hi, hhi⟩ : ∃ hi, hi = w6.heap.size := ⟨_, rfl⟩; have h60 : Fresh lo mid w6 [.slice a0 c.parents.length c0] c.parents := (by rw [hlo]; exact h60.mono (by simp) (Nat.le_refl _)); have h62 : Fresh mid hi w6 [.slice a2 c.tree.length c2] c.tree := (by rw [hhi]; exact h62); have hmm : wo.heap.size < lo ∧ lo ≤ mid ∧ mid ≤ hi ∧ hi ≤ w6.heap.size := (by simp only [alloc_size2, drew_size] at hm1; omega)))
            any_goals (
              have hm := hA
              obtain ⟨wz, hwz⟩ : ∃ wz, wz = ((w6.setCell ⟨wo.heap.size, 0, none⟩ (.slice a0 c.parents.length c0)).setCell ⟨wo.heap.size, 1, none⟩ (.string c.who)).setCell ⟨wo.heap.size, 2, none⟩ (.slice a2 c.tree.length c2) := ⟨_, rfl⟩
              obtain ⟨cb, hcb⟩ : ∃ cb, cb = wo.heap.size := ⟨_, rfl⟩
              have hbox : wz.heap[cb]? = some (.cells #[.slice a0 c.parents.length c0, .string c.who, .slice a2 c.tree.length c2] 74 (0, 0)) := (by rw [hwz, hcb]; exact stored3 hbx9 _ _ _)
              have hszz : w6.heap.size ≤ wz.heap.size ∧ cb < wz.heap.size := (by rw [hwz]; simp <;> omega)
              have hPz : Fresh lo mid wz [.slice a0 c.parents.length c0] c.parents := (by rw [hwz]; exact ((h60.setCell (.inl (by show wo.heap.size < _; omega))).setCell (.inl (by show wo.heap.size < _; omega))).setCell (.inl (by show wo.heap.size < _; omega)))
              have hTz : Fresh mid hi wz [.slice a2 c.tree.length c2] c.tree := (by rw [hwz]; exact ((h62.setCell (.inl (by show wo.heap.size < _; omega))).setCell (.inl (by show wo.heap.size < _; omega))).setCell (.inl (by show wo.heap.size < _; omega)))
              have hbz : Below wo.heap.size wo wz := (by rw [hwz]; exact ((hbV.setCell (p := ⟨wo.heap.size, 0, none⟩) (Nat.le_refl _) _).setCell (p := ⟨wo.heap.size, 1, none⟩) (Nat.le_refl _) _).setCell (p := ⟨wo.heap.size, 2, none⟩) (Nat.le_refl _) _)
              have hcb1 : wo.heap.size ≤ cb ∧ (cb < lo ∨ hi ≤ cb) := (by omega)
              rw [← hwz, ← hcb])
            any_goals (
              have hm := hB
              obtain ⟨wz, hwz⟩ : ∃ wz, wz = w6.alloc (.cells #[.slice a0 c.parents.length c0, .string c.who, .slice a2 c.tree.length c2] 74) := ⟨_, rfl⟩
              obtain ⟨cb, hcb⟩ : ∃ cb, cb = w6.heap.size := ⟨_, rfl⟩
              have hbox : wz.heap[cb]? = some (.cells #[.slice a0 c.parents.length c0, .string c.who, .slice a2 c.tree.length c2] 74 (0, 0)) := (by rw [hwz, hcb]; exact heap_alloc_new _ _)
              have hszz : w6.heap.size ≤ wz.heap.size ∧ cb < wz.heap.size := (by rw [hwz]; simp <;> omega)
              have hPz : Fresh lo mid wz [.slice a0 c.parents.length c0] c.parents := (by rw [hwz]; exact h60.alloc _)
              have hTz : Fresh mid hi wz [.slice a2 c.tree.length c2] c.tree := (by rw [hwz]; exact h62.alloc _)
              have hbz : Below wo.heap.size wo wz := (by rw [hwz]; exact hbV.alloc hbV.size _)
              have hcb1 : wo.heap.size ≤ cb ∧ (cb < lo ∨ hi ≤ cb) := (by have := hbV.size; omega)
              rw [← hwz, ← hcb])
            all_goals
              clear K9
              have hszz2 := hszz.2
              have hmidz : hi ≤ wz.heap.size := by omega
              have hordP : cb < lo ∨ mid ≤ cb := by omega
              have hordT : cb < mid ∨ hi ≤ cb := by omega
              have hlom : wo.heap.size ≤ lo := by omega
              have hmids : lo ≤ mid ∧ mid ≤ hi := by omega
              obtain ⟨ps, hps⟩ : ∃ ps, ps = c.parents := ⟨_, rfl⟩
              have HSG2 : Hid (∀ ps', sendPs ls xs [] ps = some ps' → sendO r xs at_ = sendG cs ls xs (ol ++ [⟨ps', c.who, c.tree⟩]) (ls.drop (k + 1))) := by rw [hps]; exact HSG
              have HSN2 : Hid (sendPs ls xs [] ps = none → sendO r xs at_ = none) := by rw [hps]; exact HSN
              rw [← hps] at hPz hbox hpf
              try rw [← hps]
              have hcell0 := cell_of_row wz cb 0 _ _ (0, 0) hbox
              simp at hcell0
              clear hps hwz hcb hlo hhi hszz HSG HSN hbV h60 h62 hmm hm1 hm2 hb6 hc0r hc1r hc2r hparr htrr hcl
              go_wp2
              go_loopw [12] (fun i wq => (∃ (m : Nat) (ys : List Int), m ≤ ps.length ∧ i = .int .i64 m ∧ ys.length = ps.length ∧ ys.drop m = ps.drop m ∧ wq.heap[cb]? = some (.cells #[.slice a0 ps.length c0, .string c.who, .slice a2 c.tree.length c2] 74 (0, 0)) ∧ Fresh lo mid wq [.slice a0 ps.length c0] ys ∧ Fresh mid hi wq [.slice a2 c.tree.length c2] c.tree ∧ wz.heap.size ≤ wq.heap.size ∧ Hid (sendPs ls xs [] ps = sendPs ls xs (ys.take m) (ps.drop m))) ∧ Below wo.heap.size wo wq) (fun i _ => ps.length - (intOf i).toNat)
              case atStart => exact ⟨⟨0, ps, by omega, rfl, rfl, rfl, hbox, hPz, hTz, Nat.le_refl _, by show _ = _; rw [List.take_zero]; rfl⟩, hbz⟩
              case round =>
                clear hbox hPz hTz hbz hcell0
                obtain ⟨⟨m, ys, hm, rfl, hyl, hyd, hbox, hP, hTr, hszq, HI⟩, hbq⟩ := hrel
                have hbs := hb.trans (hbq.mono hb.size)
                have hLq : IsSlice H wr (some ⟨gl, offl, none⟩) cl ls := hLs.frame fun b hb' hl => ⟨hbq.block b (by have := HH.out b hb'; omega), hb'⟩
                have hsq := hbq.size
                have y0 := cell_of_row wr cb 0 _ _ (0, 0) hbox
                have y1 := cell_of_row wr cb 1 _ _ (0, 0) hbox
                have y2 := cell_of_row wr cb 2 _ _ (0, 0) hbox
                simp at y0 y1 y2
                by_cases hlm : m < ps.length
                · obtain ⟨gp, hgp, hg0, hg1⟩ := hP.addr (by omega)
                  subst hgp
                  obtain ⟨g5, off5, hag5, hd5, hi5⟩ := (rd_slice_of hP.rd2).2.int (i := m) (by omega)
                  obtain ⟨rfl, rfl⟩ : gp = g5 ∧ 0 = off5 := by simpa using hag5
                  rw [Nat.zero_add] at hd5
                  have hym : ys[m]'(by omega) = ps[m] := drop_at hyd (by omega) hlm
                  obtain ⟨p, hp⟩ : ∃ p, p = ps[m] := ⟨_, rfl⟩
                  rw [hym, ← hp] at hd5 hi5
                  have HIN := Lib.hid (fun h1 => sendPs_in (list := ls) (has := xs) HI.out hlm h1)
                  have HOWN := Lib.hid (fun h1 h2 => sendPs_own (list := ls) (has := xs) HI.out hlm h1 h2)
                  have HNON := Lib.hid (fun h1 h2 => sendPs_none (list := ls) (has := xs) HI.out hlm h1 h2)
                  rw [← hp] at HIN HOWN HNON
                  have hsl := place_le ls p
                  have hol2 := place_le xs p
                  obtain ⟨s, hs1⟩ : ∃ s, place ls p = s := ⟨_, rfl⟩
                  obtain ⟨o, ho1⟩ : ∃ o, place xs p = o := ⟨_, rfl⟩
                  rw [hs1] at hsl HIN HOWN HNON
                  rw [ho1] at hol2 HOWN HNON
                  have HS1 := Lib.hid hs1
                  have HO1 := Lib.hid ho1
                  have hi64s : I64 s := by unfold I64; omega
                  have hi64o : I64 (-1 - o) := by unfold I64; omega
                  have hwrap : IntKind.i64.wrap (-1 - o) = -1 - o := IntWalk.i64_in _ (by omega)
                  have HYD := Lib.hid hyd
                  have HYM : ∀ x, (ys.set m x).length = ps.length ∧ (ys.set m x).drop (m + 1) = ps.drop (m + 1) ∧ (ys.set m x).take (m + 1) = ys.take m ++ [x] := fun x => ⟨by simpa using hyl, by rw [set_drop1, drop_more hyd], set_take1 (by omega) x⟩
                  have HYS := Lib.hid HYM
                  clear hp hs1 ho1 hyd hym hag5 HYM
                  obtain ⟨⟨u0, hu0⟩, hfz0, _, _⟩ := hP.there1 rfl (i := m) (by omega)
                  have hP1 := (hP.set1 rfl (i := m) (by omega) (u := .int .i64 s) (y := s) (Fresh.leaf (m := mid) (own_i64s s hi64s wr)) hmids.1).one.mono hg0 hg1
                  have hne : gp ≠ cb := by omega
                  have y0s : (wr.setCell ⟨gp, m, none⟩ (.int .i64 s)).cell? ⟨cb, 0, none⟩ = some (.slice (some ⟨gp, 0, none⟩) ps.length c0) := by rw [World.cell?_setCell_far _ _ _ _ hne]; exact y0
                  obtain ⟨⟨u1, hu1⟩, hfz1, _, _⟩ := hP1.there1 rfl (i := m) (by simp; omega)
                  have hP2 := (hP1.set1 rfl (i := m) (by simp; omega) (u := .int .i64 (-1 - o)) (y := -1 - o) (Fresh.leaf (m := mid) (own_i64s (-1 - o) hi64o _)) hmids.1).one.mono hg0 hg1
                  rw [List.set_set] at hP2
                  have hbx1 : (wr.setCell ⟨gp, m, none⟩ (.int .i64 s)).heap[cb]? = _ := (Below.heap_setCell wr _ _ cb (fun e => hne e.symm)).trans hbox
                  have hbx2 : ((wr.setCell ⟨gp, m, none⟩ (.int .i64 s)).setCell ⟨gp, m, none⟩ (.int .i64 (-1 - o))).heap[cb]? = _ := (Below.heap_setCell _ _ _ cb (fun e => hne e.symm)).trans hbx1
                  have hT1 := hTr.setCell (a := ⟨gp, m, none⟩) (u := .int .i64 s) (.inl hg1)
                  have hT2 := hT1.setCell (a := ⟨gp, m, none⟩) (u := .int .i64 (-1 - o)) (.inl hg1)
                  have hB1 := hbq.setCell (p := ⟨gp, m, none⟩) (by show wo.heap.size ≤ gp; omega) (.int .i64 s)
                  have hB2 := hB1.setCell (p := ⟨gp, m, none⟩) (by show wo.heap.size ≤ gp; omega) (.int .i64 (-1 - o))
                  have hs1q : (wr.setCell ⟨gp, m, none⟩ (.int .i64 s)).heap.size = wr.heap.size := by simp
                  have hs2q : ((wr.setCell ⟨gp, m, none⟩ (.int .i64 s)).setCell ⟨gp, m, none⟩ (.int .i64 (-1 - o))).heap.size = wr.heap.size := by simp
                  go_wp2_with fail
                  refine (l14Place_is _ ls p _ hLq.rd (by omega) HS1.out).mono ?_
                  rintro e w5 ⟨rfl, hw5⟩
                  rw [hw5]
                  clear hw5 w5
                  go_wp2_with fail
                  refine (l14Place_is _ xs p _ (Rep.keep hu hbs) (by omega) HO1.out).mono ?_
                  rintro e w5 ⟨rfl, hw5⟩
                  rw [hw5]
                  clear hw5 w5
                  by_cases hs0 : 0 ≤ s
                  · have hds : decide (s < 0) = false := decide_eq_false (by omega)
                    have HNX := Lib.hid (HIN.out (by omega))
                    clear hs0
                    go_wp2
                    go_roundw
                    case rel => exact ⟨⟨m + 1, ys.set m s, by omega, by go_num, (HYS.out s).1, (HYS.out s).2.1, hbx1, hP1, hT1, by omega, by show _ = _; rw [(HYS.out s).2.2]; exact HNX.out⟩, hB1⟩
                    case measure => simp [intOf] <;> omega
                  · have hds : decide (s < 0) = true := decide_eq_true (by omega)
                    by_cases ho0 : 0 ≤ o
                    · have hdo : decide (o < 0) = false := decide_eq_false (by omega)
                      have HNX := Lib.hid (HOWN.out (by omega) (by omega))
                      clear hs0 ho0
                      go_wp2
                      go_roundw
                      case rel => exact ⟨⟨m + 1, ys.set m (-1 - o), by omega, by go_num, (HYS.out _).1, (HYS.out _).2.1, hbx2, hP2, hT2, by omega, by show _ = _; rw [(HYS.out _).2.2]; exact HNX.out⟩, hB2⟩
                      case measure => simp [intOf] <;> omega
                    · have hdo : decide (o < 0) = true := decide_eq_true (by omega)
                      have HNX := Lib.hid (HSN2.out (HNON.out (by omega) (by omega)))
                      clear hs0 ho0
                      go_wp2
                      go_ret2
                      exact ⟨.slice none 0 0, by rw [HB_.out, HNX.out]; rfl, by rw [HL.out, HNX.out]; exact Fresh.nil _ _ _ (by decide), hbs⟩
                · have hmp : m = ps.length := by omega
                  have htk : ys.take m = ys := List.take_of_length_le (by omega)
                  have HE := Lib.hid (HSG2.out ys (by have := sendPs_end HI.out hlm; rw [htk] at this; exact this))
                  have hFo := hF.below hbq (fun b _ hl => hl)
                  have hcm : Fresh lo hi wr [.slice a0 ps.length c0, .string c.who, .slice a2 c.tree.length c2] (⟨ys, c.who, c.tree⟩ : Commit) := Fresh.commit (p := (⟨ys, c.who, c.tree⟩ : Commit)) hP hz1 hTr hmids.1 hmids.2
                  clear hmp htk
                  go_wp2_with (at_builtin; go_must (refine wpList_app_oneS slz_commit.slt rfl (.tmp 93) (.tmp 95) rfl rfl (hFo.alloc _) rfl (heap_alloc_new _ _) (hcm.alloc _).fs (fun b hb1 hb2 hb3 => by rcases hb1 with h | h <;> omega) (by omega) (by unfold maxLen; omega) ?_); intro a7 c7 w7 hG7 hG8 hG9)
                  have hb7 := hG8 w.heap.size (by simp; omega) (fun b hb1 hb2 => by rcases hb1 with h | h <;> omega)
                  have hs7 := hb7.size
                  simp only [alloc_size2] at hs7
                  go_roundw
                  case rel => exact ⟨⟨k + 1, ol ++ [(⟨ys, c.who, c.tree⟩ : Commit)], _, by omega, by go_num, by simp; omega, rfl, by have h := hG7.mono (T := fun b => b = w.heap.size + 1 ∨ (w3.heap.size ≤ b ∧ b < w7.heap.size)) (fun b hb1 hb2 => by rcases hb1 with (h | h) | h | h <;> first | exact .inl h | exact .inr ⟨by first | omega | (simp at h; omega), hb2⟩); simpa using h, (hLq.alloc _).frame (fun b hb' hl => ⟨hG9 b hl (by have := HH.out b hb'; omega), hb'⟩), by rw [World.cell?_of_block (w := wr.alloc _) (hG9 w.heap.size (by simp; omega) (by omega))]; exact keepc q0r (hbq.alloc hsq _), by omega, HE.out⟩, (hbs.alloc (by omega) _).trans hb7⟩
                  case measure => simp [intOf] <;> omega
          · have HN := Lib.hid (sendG_end HA.out hlt)
            go_wp2
            go_ret2
            exact ⟨_, by rw [HB_.out, HN.out]; rfl, by rw [HL.out, HN.out]; exact hF.fresh (fun b hb hl => by rcases hb with hb | hb; omega; omega), hb⟩
end Go.Proofs.YtmblockojnaffaaDoor
