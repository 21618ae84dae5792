/-
  Walks: commits from which a branch comes. / Walks: commits from which a branch comes, as the reference has it. / Walks: commits from which a branch comes: the two functions. / Orders of a region in which one fact holds behind every operation, and another one as long as one named operation has not come up. No program is in sight here.
-/
import Derived.Test.YthhmaclhggmneaaDoorWAnc2
import Derived.Test.YthhmaclhggmneaaDoorVM
import Derived.Test.YthhmaclhggmneaaDoorPlLive
import Derived.Deep.RegionHeld3
import Derived.Test.YthhmaclhggmneaaDoorWRepo
set_option linter.unusedVariables false
namespace Go.Proofs.YthhmaclhggmneaaDoor
open Go.RowKit Go.Vc
open Go.Vc.Rep (rd)
open Go.Vc.Own (own)
/-- a row of marks, none set -/
theorem marks_zero (wb : World) (n : Nat) (hn : n ≤ 1000) :
    ∃ wd, wd = wb.alloc (.cells (madeCells #[Value.bool false] (n * Rep.sz Bool)) (Tid.tid Bool)) ∧
      Fresh wb.heap.size wd.heap.size wd [.slice (some ⟨wb.heap.size, 0, none⟩) n n] (List.replicate n false) ∧ Below wb.heap.size wb wd ∧ wd.heap.size = wb.heap.size + 1 := by
  have hfr := (Fresh.made (w := wb) slz_bool.hz slz_bool.pos wb.heap.size n (by unfold maxLen; omega) (Nat.le_refl _)).now
  have hzr : List.replicate n (Zr.zr : Bool) = List.replicate n false := rfl
  have hcz : (Value.bool false).cells = #[Value.bool false] := rfl
  rw [hzr, hcz] at hfr
  exact ⟨_, rfl, hfr, (Below.refl _ _).alloc (Nat.le_refl _) _, by simp⟩

set_option maxHeartbeats 8000000 in
set_option maxRecDepth 100000 in
theorem live_any {S T : Nat → Prop} (v0 v1 : Value) (r : Repo) (w : World) (h0 : rd S w [v0] r.commits) (h1 : rd T w [v1] r.heads) (hR : repoB r = true) :
    Calls Tryd.prog 32 #[.agg #[v0, v1]] w fun e w' => ∃ v', e = .returned v' ∧ Fresh w.heap.size w'.heap.size w' [v'] (liveB r) ∧ Below w.heap.size w w' := by
  have hP := repo_par hR
  have hn := repo_le hR
  have HAT := Lib.hid (show ∀ k (hk : k < r.heads.length), 0 ≤ r.heads[k].at_ ∧ r.heads[k].at_ < (r.commits.length : Int) from fun k hk => heads_at hR hk)
  have HLB : Hid (liveB r = liveM r.commits (List.replicate r.commits.length false) r.heads) := rfl
  clear hR
  obtain ⟨cs, hcs⟩ : ∃ cs, cs = r.commits := ⟨_, rfl⟩
  obtain ⟨hd, hhd⟩ : ∃ hd, hd = r.heads := ⟨_, rfl⟩
  rw [← hcs] at h0 hP hn HAT HLB
  rw [← hhd] at h1 HLB
  have HAT : Hid (∀ k (hk : k < hd.length), 0 ≤ hd[k].at_ ∧ hd[k].at_ < (cs.length : Int)) := by subst hhd; exact HAT
  clear hcs hhd
  obtain ⟨a, cap, rfl, hs⟩ := rd_slice_elim (Rep.lt h0)
  obtain ⟨a1, c1, rfl, ht⟩ := rd_slice_elim (Rep.lt h1)
  have hle := ht.le
  obtain ⟨wb, hwb⟩ : ∃ wb, wb = w.alloc (.cells #[.slice a cs.length cap, .slice a1 hd.length c1] 30) := ⟨_, rfl⟩
  obtain ⟨hB0, hsb, hq⟩ := boxed (vs := [.slice a cs.length cap, .slice a1 hd.length c1]) hwb
  have q0 := hq 0 _ rfl
  have q1 := hq 1 _ rfl
  have hmk := slz_bool.make cs.length (by omega) (by unfold maxLen; omega)
  obtain ⟨wd, hwd, hfr, hBd, hsd⟩ := marks_zero wb cs.length (by omega)
  rw [hsb] at hfr
  have q0d := keepc q0 hBd
  have q1d := keepc q1 hBd
  have hB1 := hB0.trans (hBd.mono hB0.size)
  rw [hwb] at hwd
  have HW := Lib.hid hwd
  have hml : (List.replicate cs.length false).length = cs.length := by simp
  obtain ⟨ms0, hms⟩ : ∃ ms, ms = List.replicate cs.length false := ⟨_, rfl⟩
  rw [← hms] at hml hfr HLB
  have hg2 : w.heap.size + 1 < wd.heap.size := by omega
  clear hwb hq hwd hms hsd
  go_enter Tryd.func32, Tryd.ntmps32
  go_wp2
  rw [← HW.out]
  clear hmk HW
  go_loopw [15] (fun i wr => (∃ (k : Nat) (ms : List Bool), k ≤ hd.length ∧ i = .int .i64 k ∧ ms.length = cs.length ∧ Fresh (w.heap.size + 1) (w.heap.size + 2) wr [.slice (some ⟨w.heap.size + 1, 0, none⟩) cs.length cs.length] ms ∧ wr.cell? ⟨w.heap.size, 0, none⟩ = some (.slice a cs.length cap) ∧ wr.cell? ⟨w.heap.size, 1, none⟩ = some (.slice a1 hd.length c1) ∧ w.heap.size + 1 < wr.heap.size ∧ Hid (liveM cs ms0 hd = liveM cs ms (hd.drop k))) ∧ Below w.heap.size w wr) (fun i _ => hd.length - (intOf i).toNat)
  case atStart => exact ⟨⟨0, ms0, by omega, rfl, hml, hfr.one, q0d, q1d, hg2, rfl⟩, hB1⟩
  case round =>
    clear hfr q0d q1d hg2 hB1 hB0 hBd q0 q1
    obtain ⟨⟨k, ms, hk, rfl, hml, hF, hq0, hq1, hgr, HA⟩, hb⟩ := hrel
    have hsz := hb.size
    by_cases hlt : k < hd.length
    · have hok := HAT.out k hlt
      obtain ⟨gh, offh, rfl, hc1, hc2, hz1, hz2⟩ := (ht.keep hb).branch hlt
      have HN := Lib.hid (liveM_next HA.out hlt)
      obtain ⟨h, hh⟩ : ∃ h, h = hd[k] := ⟨_, rfl⟩
      rw [← hh] at hok hc1 hc2 hz1 hz2 HN
      clear hh
      obtain ⟨wh, hwh⟩ : ∃ wh, wh = wr.alloc (.cells #[.string h.name, .int .i64 h.at_] 57) := ⟨_, rfl⟩
      obtain ⟨hBh, hsh, hqh⟩ := boxed (vs := [.string h.name, .int .i64 h.at_]) hwh
      have s1 := hqh 1 _ rfl
      have hq0 := keepc hq0 hBh
      have hq1 := keepc hq1 hBh
      have hF := hF.belowm (by omega) hBh
      have hb := hb.trans (hBh.mono hsz)
      have hszh := hBh.size
      clear hqh
      subst hwh
      go_wp2_with fail
      refine (ancestors_any _ _ cs _ _ (hs.keep hb).rd hP hn hok).mono ?_
      rintro e w3 ⟨g3, rfl, hF3, hb3⟩
      clear hc1 hc2
      have hq0 := keepc hq0 hb3
      have hq1 := keepc hq1 hb3
      have hF := hF.belowm (by omega) hb3
      have hB3 := hb.trans (hb3.mono hb.size)
      have hs3 := hb3.size
      have ha3 := anc_len cs h.at_
      go_wp2_with fail
      refine (listOf_any _ _ _ hF3.rd (by omega)).mono ?_
      rintro e w4 ⟨v4, rfl, hF4, hb4⟩
      have hq0 := keepc hq0 hb4
      have hq1 := keepc hq1 hb4
      have hF := hF.belowm (by omega) hb4
      have hB4 := hB3.trans (hb4.mono hB3.size)
      have hs4 := hb4.size
      obtain ⟨a4, c4, rfl, ht4⟩ := hF4.shape
      have hl4 : (idxs (anc cs h.at_) 0).length ≤ 16 := by have := idxs_len (anc cs h.at_) 0; omega
      have HPN := Lib.hid (show ∀ m (hm : m < (idxs (anc cs h.at_) 0).length), ∃ p : Nat, (idxs (anc cs h.at_) 0)[m] = (p : Int) ∧ p < cs.length from fun m hm => all_onAll hm)
      have HN : Hid (liveM cs ms0 hd = liveM cs (onAll ms (idxs (anc cs h.at_) 0)) (hd.drop (k + 1))) := HN
      obtain ⟨ps, hps⟩ : ∃ ps, ps = idxs (anc cs h.at_) 0 := ⟨_, rfl⟩
      rw [← hps] at HN HPN hl4
      have ht4 : IsSlice (fun b => w3.heap.size ≤ b) w4 a4 c4 ps := by rw [hps]; exact ht4
      rw [← hps]
      clear hps hF4 hF3 hb3 hb4 hB3 hb
      go_wp2
      go_loopw [25] (fun i wq => (∃ (m : Nat) (ms' : List Bool), i = .int .i64 m ∧ m ≤ ps.length ∧ ms'.length = cs.length ∧ Fresh (w.heap.size + 1) (w.heap.size + 2) wq [.slice (some ⟨w.heap.size + 1, 0, none⟩) cs.length cs.length] ms' ∧ wq.cell? ⟨w.heap.size, 0, none⟩ = some (.slice a cs.length cap) ∧ wq.cell? ⟨w.heap.size, 1, none⟩ = some (.slice (some ⟨gh, offh, none⟩) hd.length c1) ∧ IsSlice (fun b => w3.heap.size ≤ b) wq a4 c4 ps ∧ Hid (onAll ms ps = onAll ms' (ps.drop m)) ∧ w4.heap.size ≤ wq.heap.size) ∧ Below w.heap.size w wq) (fun i _ => ps.length - (intOf i).toNat)
      case atStart => exact ⟨⟨0, ms, rfl, by omega, hml, hF, hq0, hq1, ht4, rfl, Nat.le_refl _⟩, hB4⟩
      case round =>
        clear hF hq0 hq1 ht4 hB4 s1
        obtain ⟨⟨m, ms', rfl, hm, hml', hF, hq0, hq1, ht4, HI, hs5⟩, hb⟩ := hrel
        by_cases hlm : m < ps.length
        · obtain ⟨p, hp, hpl⟩ := HPN.out m hlm
          obtain ⟨g5, off5, rfl, hd5, _⟩ := ht4.int (i := m) hlm
          rw [hp] at hd5
          have HN2 := Lib.hid (onAll_next HI.out hlm)
          rw [hp, Int.toNat_natCast] at HN2
          obtain ⟨⟨u, hu⟩, hfz, _, _⟩ := hF.there1 rfl (i := p) (by omega)
          have hF2 := (hF.set1 rfl (i := p) (by omega) (Fresh.leaf (m := w.heap.size + 1) (bool_own true wr)) (by omega)).one
          have hq0' : (wr.setCell ⟨w.heap.size + 1, p, none⟩ (.bool true)).cell? ⟨w.heap.size, 0, none⟩ = some (.slice a cs.length cap) := by
            rw [World.cell?_setCell_other _ _ _ _ (by intro e; injection e with e1 _ _; omega)]; exact hq0
          have hq1' : (wr.setCell ⟨w.heap.size + 1, p, none⟩ (.bool true)).cell? ⟨w.heap.size, 1, none⟩ = some (.slice (some ⟨gh, offh, none⟩) hd.length c1) := by
            rw [World.cell?_setCell_other _ _ _ _ (by intro e; injection e with e1 _ _; omega)]; exact hq1
          have hB2 := hb.setCell (p := ⟨w.heap.size + 1, p, none⟩) (by show w.heap.size ≤ w.heap.size + 1; omega) (.bool true)
          have ht5 : IsSlice (fun b => w3.heap.size ≤ b) (wr.setCell ⟨w.heap.size + 1, p, none⟩ (.bool true)) (some ⟨g5, off5, none⟩) c4 ps := ht4.setCell (by show ¬ w3.heap.size ≤ w.heap.size + 1; omega)
          have hs6 : (wr.setCell ⟨w.heap.size + 1, p, none⟩ (.bool true)).heap.size = wr.heap.size := by simp
          clear hp
          go_wp2
          go_roundw
          case rel => exact ⟨⟨m + 1, ms'.set p true, by go_num, by omega, by simpa using hml', hF2, hq0', hq1', ht5, HN2.out, by omega⟩, hB2⟩
          case measure => simp [intOf] <;> omega
        · have HE := Lib.hid (onAll_end HI.out hlm)
          go_wp2
          go_roundw
          case rel => exact ⟨⟨k + 1, ms', by omega, by go_num, hml', hF, hq0, hq1, by omega, by show _ = _; rw [HN.out, HE.out]⟩, hb⟩
          case measure => simp [intOf] <;> omega
    · have HE := Lib.hid (liveM_end HA.out hlt)
      go_wp2
      go_ret
      exact ⟨_, rfl, by rw [HLB.out, HE.out]; exact hF.mono (by omega) (by omega), hb⟩
end Go.Proofs.YthhmaclhggmneaaDoor
namespace Go.Proofs.YthhmaclhggmneaaDoor
open Go.RowKit Go.Vc
open Go.Vc.Rep (rd)
open Go.Vc.Own (own)

set_option maxHeartbeats 8000000 in
set_option maxRecDepth 100000 in
theorem l14Live_any {S T : Nat → Prop} (v0 v1 : Value) (r : Repo) (w : World) (h0 : rd S w [v0] r.commits) (h1 : rd T w [v1] r.heads) (hR : repoB r = true) :
    Calls Tryd.prog 25 #[.agg #[v0, v1]] w fun e w' => ∃ v', e = .returned v' ∧ Fresh w.heap.size w'.heap.size w' [v'] (liveT r) ∧ Below w.heap.size w w' := by
  have hP := repo_par hR
  have hn := repo_le hR
  have HAT := Lib.hid (show ∀ k (hk : k < r.heads.length), 0 ≤ r.heads[k].at_ ∧ r.heads[k].at_ < (r.commits.length : Int) from fun k hk => heads_at hR hk)
  have HLB : Hid (liveT r = idxs (liveM r.commits (List.replicate r.commits.length false) r.heads) 0) := rfl
  clear hR
  obtain ⟨cs, hcs⟩ : ∃ cs, cs = r.commits := ⟨_, rfl⟩
  obtain ⟨hd, hhd⟩ : ∃ hd, hd = r.heads := ⟨_, rfl⟩
  rw [← hcs] at h0 hP hn HAT HLB
  rw [← hhd] at h1 HLB
  have HAT : Hid (∀ k (hk : k < hd.length), 0 ≤ hd[k].at_ ∧ hd[k].at_ < (cs.length : Int)) := by subst hhd; exact HAT
  clear hcs hhd
  obtain ⟨a, cap, rfl, hs⟩ := rd_slice_elim (Rep.lt h0)
  obtain ⟨a1, c1, rfl, ht⟩ := rd_slice_elim (Rep.lt h1)
  have hle := ht.le
  obtain ⟨wb, hwb⟩ : ∃ wb, wb = w.alloc (.cells #[.slice a cs.length cap, .slice a1 hd.length c1] 30) := ⟨_, rfl⟩
  obtain ⟨hB0, hsb, hq⟩ := boxed (vs := [.slice a cs.length cap, .slice a1 hd.length c1]) hwb
  have q0 := hq 0 _ rfl
  have q1 := hq 1 _ rfl
  have hmk := slz_bool.make cs.length (by omega) (by unfold maxLen; omega)
  obtain ⟨wd, hwd, hfr, hBd, hsd⟩ := marks_zero wb cs.length (by omega)
  rw [hsb] at hfr
  have q0d := keepc q0 hBd
  have q1d := keepc q1 hBd
  have hB1 := hB0.trans (hBd.mono hB0.size)
  rw [hwb] at hwd
  have HW := Lib.hid hwd
  have hml : (List.replicate cs.length false).length = cs.length := by simp
  obtain ⟨ms0, hms⟩ : ∃ ms, ms = List.replicate cs.length false := ⟨_, rfl⟩
  rw [← hms] at hml hfr HLB
  have hg2 : w.heap.size + 1 < wd.heap.size := by omega
  clear hwb hq hwd hms hsd
  go_enter Tryd.func25, Tryd.ntmps25
  go_wp2
  rw [← HW.out]
  clear hmk HW
  go_loopw [4] (fun i wr => (∃ (k : Nat) (ms : List Bool), k ≤ hd.length ∧ i = .int .i64 k ∧ ms.length = cs.length ∧ Fresh (w.heap.size + 1) (w.heap.size + 2) wr [.slice (some ⟨w.heap.size + 1, 0, none⟩) cs.length cs.length] ms ∧ wr.cell? ⟨w.heap.size, 0, none⟩ = some (.slice a cs.length cap) ∧ wr.cell? ⟨w.heap.size, 1, none⟩ = some (.slice a1 hd.length c1) ∧ w.heap.size + 1 < wr.heap.size ∧ Hid (liveM cs ms0 hd = liveM cs ms (hd.drop k))) ∧ Below w.heap.size w wr) (fun i _ => hd.length - (intOf i).toNat)
  case atStart => exact ⟨⟨0, ms0, by omega, rfl, hml, hfr.one, q0d, q1d, hg2, rfl⟩, hB1⟩
  case round =>
    clear hfr q0d q1d hg2 hB1 hB0 hBd q0 q1
    obtain ⟨⟨k, ms, hk, rfl, hml, hF, hq0, hq1, hgr, HA⟩, hb⟩ := hrel
    have hsz := hb.size
    by_cases hlt : k < hd.length
    · have hok := HAT.out k hlt
      obtain ⟨gh, offh, hae, hc1, hc2, hz1, hz2⟩ := (ht.keep hb).branch hlt
      subst hae
      have HN := Lib.hid (liveM_next HA.out hlt)
      obtain ⟨h, hh⟩ : ∃ h, h = hd[k] := ⟨_, rfl⟩
      rw [← hh] at hok hc1 hc2 hz1 hz2 HN
      clear hh hc1
      have hsr := (hs.keep hb).rd
      go_wp2_with fail
      go_region_held3 (fun w' => w'.cell? ⟨w.heap.size, 0, none⟩ = some (.slice a cs.length cap) ∧ w'.cell? ⟨w.heap.size, 1, none⟩ = some (.slice (some ⟨gh, offh, none⟩) hd.length c1) ∧ w'.cell? ⟨gh, offh + k * 2 + 1, none⟩ = some (.int .i64 h.at_))
        (first | go_keep | exact KL | exact ⟨hq0, hq1, hc2⟩)
        (first
          | (go_at_call 63; refine (l8All_any _ _ cs h.at_ _ (Rep.drew hsr) hP hn hok).mono ?_; rintro e w4 ⟨v4, rfl, hF4, hb4⟩; have KL := And.intro (BW.cell (w := wr.drew) hq0 ⟨w4, hb4⟩) (And.intro (BW.cell (w := wr.drew) hq1 ⟨w4, hb4⟩) (BW.cell (w := wr.drew) hc2 ⟨w4, hb4⟩))))
      all_goals
        have hq0 : w4.cell? ⟨w.heap.size, 0, none⟩ = some (.slice a cs.length cap) := KL.1
        have hq1 : w4.cell? ⟨w.heap.size, 1, none⟩ = some (.slice (some ⟨gh, offh, none⟩) hd.length c1) := KL.2.1
        clear KL
        have hF := hF.drew.belowm (by simp; omega) hb4
        have hB4 := hb.drew.trans (hb4.mono (by simp; omega))
        have hs4 := hb4.size
        have hs0 : wr.drew.heap.size = wr.heap.size := by simp
        obtain ⟨a4, c4, rfl, ht4⟩ := hF4.shape
        have hl4 : (allOf cs h.at_).length ≤ 16 := by have := allOf_len cs h.at_; omega
        have HPN := Lib.hid (show ∀ m (hm : m < (allOf cs h.at_).length), ∃ p : Nat, (allOf cs h.at_)[m] = (p : Int) ∧ p < cs.length from fun m hm => all_onAll hm)
        obtain ⟨ps, hps⟩ : ∃ ps, ps = allOf cs h.at_ := ⟨_, rfl⟩
        rw [← hps] at HN HPN hl4
        have ht4 : IsSlice (fun b => wr.heap.size ≤ b) w4 a4 c4 ps := by rw [hps]; exact ht4
        rw [← hps]
        clear hps hF4 hb4 hb hc2
        go_wp2
        go_loopw [6] (fun i wq => (∃ (m : Nat) (ms' : List Bool), i = .int .i64 m ∧ m ≤ ps.length ∧ ms'.length = cs.length ∧ Fresh (w.heap.size + 1) (w.heap.size + 2) wq [.slice (some ⟨w.heap.size + 1, 0, none⟩) cs.length cs.length] ms' ∧ wq.cell? ⟨w.heap.size, 0, none⟩ = some (.slice a cs.length cap) ∧ wq.cell? ⟨w.heap.size, 1, none⟩ = some (.slice (some ⟨gh, offh, none⟩) hd.length c1) ∧ IsSlice (fun b => wr.heap.size ≤ b) wq a4 c4 ps ∧ Hid (onAll ms ps = onAll ms' (ps.drop m)) ∧ w4.heap.size ≤ wq.heap.size) ∧ Below w.heap.size w wq) (fun i _ => ps.length - (intOf i).toNat)
        case atStart => exact ⟨⟨0, ms, rfl, by omega, hml, hF, hq0, hq1, ht4, rfl, Nat.le_refl _⟩, hB4⟩
        case round =>
          clear hF hq0 hq1 ht4 hB4
          obtain ⟨⟨m, ms', rfl, hm, hml', hF, hq0, hq1, ht4, HI, hs5⟩, hb⟩ := hrel
          by_cases hlm : m < ps.length
          · obtain ⟨p, hp, hpl⟩ := HPN.out m hlm
            obtain ⟨g5, off5, rfl, hd5, _⟩ := ht4.int (i := m) hlm
            rw [hp] at hd5
            have HN2 := Lib.hid (onAll_next HI.out hlm)
            rw [hp, Int.toNat_natCast] at HN2
            obtain ⟨⟨u, hu⟩, hfz, _, _⟩ := hF.there1 rfl (i := p) (by omega)
            have hF2 := (hF.set1 rfl (i := p) (by omega) (Fresh.leaf (m := w.heap.size + 1) (bool_own true _)) (by omega)).one
            have hq0' := hq0
            have hq1' := hq1
            rw [← World.cell?_setCell_other _ ⟨w.heap.size + 1, p, none⟩ _ (.bool true) (by intro e; injection e with e1 _ _; omega)] at hq0' hq1'
            have hB2 := hb.setCell (p := ⟨w.heap.size + 1, p, none⟩) (by show w.heap.size ≤ w.heap.size + 1; omega) (.bool true)
            have ht5 := ht4.setCell (p := ⟨w.heap.size + 1, p, none⟩) (u := .bool true) (by show ¬ _ ≤ w.heap.size + 1; omega)
            clear hp
            go_wp2
            go_roundw
            case rel => exact ⟨⟨m + 1, ms'.set p true, by go_num, by omega, by simpa using hml', hF2, hq0', hq1', ht5, HN2.out, by simp; omega⟩, hB2⟩
            case measure => simp [intOf] <;> omega
          · have HE := Lib.hid (onAll_end HI.out hlm)
            go_wp2
            go_roundw
            case rel => exact ⟨⟨k + 1, ms', by omega, by go_num, hml', hF, hq0, hq1, by omega, by show _ = _; rw [HN.out, HE.out]⟩, hb⟩
            case measure => simp [intOf] <;> omega
    · have HE := Lib.hid (liveM_end HA.out hlt)
      have hcell : ∀ i, (hi : i < ms.length) → wr.cell? ⟨w.heap.size + 1, i, none⟩ = some (.bool ms[i]) := fun i hi => hF.boolAt hi
      have HZ : Hid (liveT r = idxs ms 0) := by show _ = _; rw [HLB.out, HE.out]
      have HCL := Lib.hid hcell
      have hEm := Fresh.empty (β := Int) Nat.one_pos wr.heap.size wr (Nat.le_refl _)
      have hb2 := hb.alloc hsz (.cells #[] (Tid.tid Int))
      clear hcell
      go_wp2
      go_loopw [7, 8] (fun out i wq => (∃ (k : Nat) (ol : List Int), k ≤ ms.length ∧ i = .int .i64 k ∧ ol.length ≤ k ∧ Fresh wr.heap.size wq.heap.size wq [out] ol ∧ Hid (idxs ms 0 = ol ++ idxs (ms.drop k) k)) ∧ Below wr.heap.size wr wq) (fun _ i _ => ms.length - (intOf i).toNat)
      case atStart => exact ⟨⟨0, [], by omega, rfl, by simp, hEm.mono (Nat.le_refl _) (by simp), rfl⟩, (Below.refl _ _).alloc (Nat.le_refl _) _⟩
      case round =>
        clear hEm hb2
        obtain ⟨⟨k, ol, hk, rfl, hol, hO, HB⟩, hbq⟩ := hrel
        obtain ⟨a2, c2, rfl, _⟩ := hO.shape
        have hsq := hbq.size
        by_cases hlt : k < ms.length
        · have hc := keepc (HCL.out k hlt) hbq
          cases hm : ms[k] with
          | true =>
            have HN := Lib.hid (idxs_true HB.out hlt hm)
            rw [hm] at hc
            clear hm
            have hi0 : I64 ((k : Nat) : Int) := i64_nat (by omega)
            go_wp2_with (at_builtin; go_must (refine wpList_app_leaf slz_int.slt rfl (.tmp 51) (.tmp 53) rfl rfl (hO.alloc _) (by simp; omega) rfl rfl (lit_ints [(k : Int)] (heap_alloc_new _ _) (by simpa using hi0) (by unfold maxLen; simp)) (by simp; omega) (by unfold maxLen; simp; omega) ?_); intro a5 c5 w5 hG5)
            go_roundw
            case rel => exact ⟨⟨k + 1, ol ++ [(k : Int)], by omega, by go_num, by simp; omega, by have := hG5.fresh; simpa using this, HN.out⟩, (hbq.alloc hsq _).trans hG5.below⟩
            case measure => simp [intOf] <;> omega
          | false =>
            have HN := Lib.hid (idxs_false HB.out hlt hm)
            rw [hm] at hc
            clear hm
            go_wp2
            go_roundw
            case rel => exact ⟨⟨k + 1, ol, by omega, by go_num, by omega, hO, HN.out⟩, hbq⟩
            case measure => simp [intOf] <;> omega
        · have HN := Lib.hid (idxs_end HB.out hlt)
          go_wp2
          go_ret
          exact ⟨_, rfl, by rw [HZ.out, HN.out]; exact hO.mono hsz (Nat.le_refl _), hb.trans (hbq.mono hsz)⟩
end Go.Proofs.YthhmaclhggmneaaDoor
namespace Go.Proofs.YthhmaclhggmneaaDoor
open Go.RowKit Go.Vc
open Go.Vc.Rep (rd)
open Go.Vc.Own (own)

end Go.Proofs.YthhmaclhggmneaaDoor
namespace Go.Vc
section
variable {P : Program} {md : Region.Mode} {ops : Array Oper} {Q : Exit → Act → World → Prop} {S T : World → Prop} {m : Nat}
/-- whichever order is picked: S behind each operation, T till m has come up -/
def wpAnyU (P : Program) (md : Region.Mode) (ops : Array Oper) (Q : Exit → Act → World → Prop) (S T : World → Prop) (m : Nat) : Nat → Array Bool → Act → World → Prop
  | 0, listed, a, w => Region.ready md ops listed = [] ∧ Q .normal a w
  | fuel + 1, listed, a, w =>
    (Region.ready md ops listed = [] → Q .normal a w) ∧
    ∀ i ∈ Region.ready md ops listed, wpOp P ops Q i (fun a' w' => (S w' ∧ ((listed.setIfInBounds i true).getD m true = false → T w')) ∧ wpAnyU P md ops Q S T m fuel (listed.setIfInBounds i true) a' w') a w
theorem wpAny_of_U : ∀ (fuel : Nat) (listed : Array Bool) (a : Act) (w : World), wpAnyU P md ops Q S T m fuel listed a w → wpAny P md ops Q fuel listed a w
  | 0, _, _, _, h => h
  | fuel + 1, _, _, _, h => ⟨h.1, fun i hi => wpOp_mono (fun a' w' h' => wpAny_of_U fuel _ a' w' h'.2) (h.2 i hi)⟩
theorem unlisted_set {listed : Array Bool} {i k : Nat} (h : (listed.setIfInBounds i true).getD k true = false) : listed.getD k true = false ∧ i ≠ k := by
  by_cases e : i = k
  · subst e
    exfalso
    rcases Nat.lt_or_ge i listed.size with h1 | h1
    · simp [h1] at h
    · simp [h1] at h
  · rw [getD_set_ne true e] at h
    exact ⟨h, e⟩
/-- an operation may be taken first, if it yields its value wherever S holds (or S and T, where m waits for it) -/
theorem wpAnyU_first {i : Nat} {oi : Oper} {v : Value} {C : World → Prop} (hi : ops[i]? = some oi) (hsel : ∀ (j : Nat) (o : Oper) cs b, ops[j]? = some o → o.op ≠ .select cs b)
    (hQ : ∀ c a w, Q (.panic c) (a.put oi.dst v) w → Q (.panic c) a w) (hmi : i ≠ m) :
    ∀ (fuel : Nat) (listed : Array Bool) (a : Act) (w : World),
      ((∀ w, S w → C w) ∨ ((∀ w, S w → T w → C w) ∧ (∃ om, ops[m]? = some om ∧ ∃ e, e ∈ om.after ∧ Region.binds md e = true ∧ e.on = i) ∧ listed.getD m true = false)) →
      (∀ j oj, ops[j]? = some oj → j ≠ i → listed.getD j true = false → (∀ e ∈ oj.after, Region.binds md e = true → e.on ≠ i) → oi.apart ops oj = true) →
      i ∈ Region.ready md ops listed → YieldsIf P ops C oi v a → S w → (listed.getD m true = false → T w) →
      wpAnyU P md ops Q S T m fuel (listed.setIfInBounds i true) (a.put oi.dst v) w → wpAnyU P md ops Q S T m (fuel + 1) listed a w := by
  intro fuel
  induction fuel with
  | zero =>
    intro listed a w hC _ hr hy hS hT H
    have hCw : C w := by
      rcases hC with h | ⟨h, _, h2⟩
      · exact h w hS
      · exact h w hS (hT h2)
    refine ⟨fun h => (by rw [h] at hr; cases hr), fun j hj => ?_⟩
    by_cases hji : j = i
    · subst hji; exact hy.wpOp hi hCw ⟨⟨hS, fun h => hT (unlisted_set h).1⟩, H⟩
    · have := ready_mono hj hji
      rw [H.1] at this
      cases this
  | succ fuel ih =>
    intro listed a w hC hfree hr hy hS hT H
    have hCw : C w := by
      rcases hC with h | ⟨h, _, h2⟩
      · exact h w hS
      · exact h w hS (hT h2)
    refine ⟨fun h => (by rw [h] at hr; cases hr), fun j hj => ?_⟩
    by_cases hji : j = i
    · subst hji; exact hy.wpOp hi hCw ⟨⟨hS, fun h => hT (unlisted_set h).1⟩, H⟩
    · have h1 := H.2 j (ready_mono hj hji)
      obtain ⟨hjun, oj, hoj, hall⟩ := mem_ready.1 hj
      have hiun := (mem_ready.1 hr).1
      have hnot : ∀ e ∈ oj.after, Region.binds md e = true → e.on ≠ i := fun e he hb heq => by
        have h2 := hall e he hb
        rw [heq] at h2
        rcases Nat.lt_or_ge i listed.size with h' | h'
        · simp [h'] at hiun h2; rw [hiun] at h2; cases h2
        · simp [Array.getElem?_eq_none h'] at hiun
      have h2 := wpOp_putIf hoj (hfree j oj hoj hji hjun hnot) (fun cs b => hsel i oi cs b hi) (fun cs b => hsel j oj cs b hoj) hQ hy h1
      have hfree' : ∀ k ok, ops[k]? = some ok → k ≠ i → (listed.setIfInBounds j true).getD k true = false →
          (∀ e ∈ ok.after, Region.binds md e = true → e.on ≠ i) → oi.apart ops ok = true := fun k ok hk hki hun hno => hfree k ok hk hki (unlisted_set hun).1 hno
      have hr2 := ready_mono hr (Ne.symm hji)
      have hcomm := Array.setIfInBounds_comm (xs := listed) true true hji
      have hC' : (∀ w, S w → C w) ∨ ((∀ w, S w → T w → C w) ∧ (∃ om, ops[m]? = some om ∧ ∃ e, e ∈ om.after ∧ Region.binds md e = true ∧ e.on = i) ∧ (listed.setIfInBounds j true).getD m true = false) := by
        rcases hC with h | ⟨h, hw, h3⟩
        · exact .inl h
        · refine .inr ⟨h, hw, ?_⟩
          have hjm : j ≠ m := fun e => by
            subst e
            obtain ⟨om, hom, e, he, hb, heq⟩ := hw
            rw [hoj] at hom
            exact hnot e ((Option.some.inj hom) ▸ he) hb heq
          rw [getD_set_ne true hjm]
          exact h3
      refine wpOp_mono (fun a' w' h3 => ?_) h2
      obtain ⟨hy3, ⟨hS3, hT3⟩, h4⟩ := h3
      rw [← hcomm] at hT3 h4
      have hT4 : (listed.setIfInBounds j true).getD m true = false → T w' := fun h => hT3 (by rw [getD_set_ne true hmi]; exact h)
      exact ⟨⟨hS3, hT4⟩, ih (listed.setIfInBounds j true) a' w' hC' hfree' hr2 hy3 hS3 hT4 h4⟩
/-- taken first: it yields its value wherever S holds -/
theorem wpAnyU_takeS {i : Nat} {oi : Oper} {v : Value} {fuel : Nat} {listed : Array Bool} {a : Act} {w : World} (hi : ops[i]? = some oi)
    (hs : Region.noSelect ops = true) (hf : Region.free md ops listed i = true) (hr : (Region.ready md ops listed).contains i = true)
    (hQ : ∀ c a w, Q (.panic c) (a.put oi.dst v) w → Q (.panic c) a w) (hmi : i ≠ m) (hy : YieldsIf P ops S oi v a) (hS : S w) (hT : listed.getD m true = false → T w)
    (h : wpAnyU P md ops Q S T m fuel (listed.setIfInBounds i true) (a.put oi.dst v) w) : wpAnyU P md ops Q S T m (fuel + 1) listed a w :=
  wpAnyU_first hi (Region.noSelect_spec hs) hQ hmi fuel listed a w (.inl fun _ h => h) (Region.free_spec hi hf) (by simpa using hr) hy hS hT h
/-- taken first: it yields its value wherever S and T hold, and m waits for it -/
theorem wpAnyU_takeT {i : Nat} {oi om : Oper} {v : Value} {fuel : Nat} {listed : Array Bool} {a : Act} {w : World} (hi : ops[i]? = some oi)
    (hs : Region.noSelect ops = true) (hf : Region.free md ops listed i = true) (hr : (Region.ready md ops listed).contains i = true)
    (hQ : ∀ c a w, Q (.panic c) (a.put oi.dst v) w → Q (.panic c) a w) (hmi : i ≠ m) (hm : ops[m]? = some om) (hw : (om.after.any fun e => Region.binds md e && e.on == i) = true) (hl : listed.getD m true = false)
    (hy : YieldsIf P ops (fun w => S w ∧ T w) oi v a) (hS : S w) (hT : T w)
    (h : wpAnyU P md ops Q S T m fuel (listed.setIfInBounds i true) (a.put oi.dst v) w) : wpAnyU P md ops Q S T m (fuel + 1) listed a w :=
  wpAnyU_first hi (Region.noSelect_spec hs) hQ hmi fuel listed a w (.inr ⟨fun _ h1 h2 => ⟨h1, h2⟩, ⟨om, hm, by
    obtain ⟨e, he, hp⟩ := Array.any_eq_true'.1 hw
    simp only [Bool.and_eq_true, beq_iff_eq] at hp
    exact ⟨e, he, hp.1, hp.2⟩⟩, hl⟩) (Region.free_spec hi hf) (by simpa using hr) hy hS (fun _ => hT) h
/-- the one that may come up now, one alone -/
theorem wpAnyU_one {i : Nat} {o : Oper} {fuel : Nat} {listed : Array Bool} {a : Act} {w : World} (hr : Region.ready md ops listed = [i]) (ho : ops[i]? = some o)
    (h : ∀ K' : Act → World → Prop, Shut (∀ a w, S w → ((listed.setIfInBounds i true).getD m true = false → T w) → wpAnyU P md ops Q S T m fuel (listed.setIfInBounds i true) a w → K' a w) → if Region.wanted o (yielded ops a.tmps) = true then Oper.wp P o a w K' Q else K' (a.put o.dst undef) w) :
    wpAnyU P md ops Q S T m (fuel + 1) listed a w := by
  refine ⟨fun h0 => (by rw [hr] at h0; cases h0), fun j hj => ?_⟩
  rw [hr] at hj
  obtain rfl := List.mem_singleton.1 hj
  exact wpOp_step ho (fun K' hK => h K' (fun a w h1 h2 h3 => hK a w ⟨⟨h1, h2⟩, h3⟩))
theorem wpAnyU_done {listed : Array Bool} {a : Act} {w : World} (hr : Region.ready md ops listed = []) (h : Q .normal a w) : ∀ fuel, wpAnyU P md ops Q S T m fuel listed a w
  | 0 => ⟨hr, h⟩
  | _ + 1 => ⟨fun _ => h, by rw [hr]; simp⟩
/-- the beginning -/
theorem wp_region_U {id : Nat} {a : Act} {w : World} (S T : World → Prop) (m : Nat) (hm : P.follows .mixedOrders = true) (hS : S w.drew) (hT : T w.drew)
    (h : S w.drew → T w.drew → wpAnyU P .any ops Q S T m ops.size (Array.replicate ops.size false) a w.drew) : (Code.region id ops true).wp P Q a w :=
  wp_region_any hm (wpAny_of_U _ _ _ _ (h hS hT))
end
end Go.Vc
