/-
  Walks: commits from which a branch comes.
-/
import Derived.Test.YtmblockojnaffaaDoorWAnc2
import Derived.Test.YtmblockojnaffaaDoorVM
import Derived.Test.YtmblockojnaffaaDoorPlLive
set_option linter.unusedVariables false
namespace Go.Proofs.YtmblockojnaffaaDoor
open Go.RowKit Go.Vc
open Go.Vc.Rep (rd)
open Go.Vc.Own (own)
/-- a row of marks, none set -/
theorem marks_zero (wb : World) (n : Nat) (hn : n ≤ 1000) :
    ∃ wd, wd = wb.alloc (.cells (madeCells #[Value.bool false] (n * Rep.sz Bool)) (Tid.tid Bool)) ∧
      Fresh wb.heap.size wd.heap.size wd [.slice (some ⟨wb.heap.size, 0, none⟩) n n] (List.replicate n false) ∧ Below wb.heap.size wb wd ∧ wd.heap.size = wb.heap.size + 1 := by
  have hfr := (Fresh.made (w := wb) slz_bool.hz slz_bool.pos wb.heap.size n (by unfold maxLen; omega) (Nat.le_refl _)).now
  have hzr : List.replicate n (Zr.zr : Bool) = List.replicate n false := rfl
  have hcz : (Value.bool false).cells = #[Value.bool false] := rfl
  rw [hzr, hcz] at hfr
  exact ⟨_, rfl, hfr, (Below.refl _ _).alloc (Nat.le_refl _) _, by simp⟩

set_option maxHeartbeats 8000000 in
set_option maxRecDepth 100000 in
theorem live_any {S T : Nat → Prop} (v0 v1 : Value) (r : Repo) (w : World) (h0 : rd S w [v0] r.commits) (h1 : rd T w [v1] r.heads) (hR : repoB r = true) :
    Calls Tryd.prog 66 #[.agg #[v0, v1]] w fun e w' => ∃ v', e = .returned v' ∧ Fresh w.heap.size w'.heap.size w' [v'] (liveB r) ∧ Below w.heap.size w w' := by
  have hP := repo_par hR
  have hn := repo_le hR
  have HAT := Lib.hid (show ∀ k (hk : k < r.heads.length), 0 ≤ r.heads[k].at_ ∧ r.heads[k].at_ < (r.commits.length : Int) from fun k hk => heads_at hR hk)
  have HLB : Hid (liveB r = liveM r.commits (List.replicate r.commits.length false) r.heads) := rfl
  clear hR
  obtain ⟨cs, hcs⟩ : ∃ cs, cs = r.commits := ⟨_, rfl⟩
  obtain ⟨hd, hhd⟩ : ∃ hd, hd = r.heads := ⟨_, rfl⟩
  rw [← hcs] at h0 hP hn HAT HLB
  rw [← hhd] at h1 HLB
  have HAT : Hid (∀ k (hk : k < hd.length), 0 ≤ hd[k].at_ ∧ hd[k].at_ < (cs.length : Int)) := by subst hhd; exact HAT
  clear hcs hhd
  obtain ⟨a, cap, rfl, hs⟩ := rd_slice_elim (Rep.lt h0)
  obtain ⟨a1, c1, rfl, ht⟩ := rd_slice_elim (Rep.lt h1)
  have hle := ht.le
  obtain ⟨wb, hwb⟩ : ∃ wb, wb = w.alloc (.cells #[.slice a cs.length cap, .slice a1 hd.length c1] 32) := ⟨_, rfl⟩
  obtain ⟨hB0, hsb, hq⟩ := boxed (vs := [.slice a cs.length cap, .slice a1 hd.length c1]) hwb
  have q0 := hq 0 _ rfl
  have q1 := hq 1 _ rfl
  have hmk := slz_bool.make cs.length (by omega) (by unfold maxLen; omega)
  obtain ⟨wd, hwd, hfr, hBd, hsd⟩ := marks_zero wb cs.length (by omega)
  rw [hsb] at hfr
  have q0d := keepc q0 hBd
  have q1d := keepc q1 hBd
  have hB1 := hB0.trans (hBd.mono hB0.size)
  rw [hwb] at hwd
  have HW := Lib.hid hwd
  have hml : (List.replicate cs.length false).length = cs.length := by simp
  obtain ⟨ms0, hms⟩ : ∃ ms, ms = List.replicate cs.length false := ⟨_, rfl⟩
  rw [← hms] at hml hfr HLB
  have hg2 : w.heap.size + 1 < wd.heap.size := by omega
  clear hwb hq hwd hms hsd
  go_enter Tryd.func66, Tryd.ntmps66
  go_wp2
  rw [← HW.out]
  clear hmk HW
  go_loopw [15] (fun i wr => (∃ (k : Nat) (ms : List Bool), k ≤ hd.length ∧ i = .int .i64 k ∧ ms.length = cs.length ∧ Fresh (w.heap.size + 1) (w.heap.size + 2) wr [.slice (some ⟨w.heap.size + 1, 0, none⟩) cs.length cs.length] ms ∧ wr.cell? ⟨w.heap.size, 0, none⟩ = some (.slice a cs.length cap) ∧ wr.cell? ⟨w.heap.size, 1, none⟩ = some (.slice a1 hd.length c1) ∧ w.heap.size + 1 < wr.heap.size ∧ Hid (liveM cs ms0 hd = liveM cs ms (hd.drop k))) ∧ Below w.heap.size w wr) (fun i _ => hd.length - (intOf i).toNat)
  case atStart => exact ⟨⟨0, ms0, by omega, rfl, hml, hfr.one, q0d, q1d, hg2, rfl⟩, hB1⟩
  case round =>
    clear hfr q0d q1d hg2 hB1 hB0 hBd q0 q1
    obtain ⟨⟨k, ms, hk, rfl, hml, hF, hq0, hq1, hgr, HA⟩, hb⟩ := hrel
    have hsz := hb.size
    by_cases hlt : k < hd.length
    · have hok := HAT.out k hlt
      obtain ⟨gh, offh, rfl, hc1, hc2, hz1, hz2⟩ := (ht.keep hb).branch hlt
      have HN := Lib.hid (liveM_next HA.out hlt)
      obtain ⟨h, hh⟩ : ∃ h, h = hd[k] := ⟨_, rfl⟩
      rw [← hh] at hok hc1 hc2 hz1 hz2 HN
      clear hh
      obtain ⟨wh, hwh⟩ : ∃ wh, wh = wr.alloc (.cells #[.string h.name, .int .i64 h.at_] 92) := ⟨_, rfl⟩
      obtain ⟨hBh, hsh, hqh⟩ := boxed (vs := [.string h.name, .int .i64 h.at_]) hwh
      have s1 := hqh 1 _ rfl
      have hq0 := keepc hq0 hBh
      have hq1 := keepc hq1 hBh
      have hF := hF.belowm (by omega) hBh
      have hb := hb.trans (hBh.mono hsz)
      have hszh := hBh.size
      clear hqh
      subst hwh
      go_wp2_with fail
      refine (ancestors_any _ _ cs _ _ (hs.keep hb).rd hP hn hok).mono ?_
      rintro e w3 ⟨g3, rfl, hF3, hb3⟩
      clear hc1 hc2
      have hq0 := keepc hq0 hb3
      have hq1 := keepc hq1 hb3
      have hF := hF.belowm (by omega) hb3
      have hB3 := hb.trans (hb3.mono hb.size)
      have hs3 := hb3.size
      have ha3 := anc_len cs h.at_
      go_wp2_with fail
      refine (listOf_any _ _ _ hF3.rd (by omega)).mono ?_
      rintro e w4 ⟨v4, rfl, hF4, hb4⟩
      have hq0 := keepc hq0 hb4
      have hq1 := keepc hq1 hb4
      have hF := hF.belowm (by omega) hb4
      have hB4 := hB3.trans (hb4.mono hB3.size)
      have hs4 := hb4.size
      obtain ⟨a4, c4, rfl, ht4⟩ := hF4.shape
      have hl4 : (idxs (anc cs h.at_) 0).length ≤ 16 := by have := idxs_len (anc cs h.at_) 0; omega
      have HPN := Lib.hid (show ∀ m (hm : m < (idxs (anc cs h.at_) 0).length), ∃ p : Nat, (idxs (anc cs h.at_) 0)[m] = (p : Int) ∧ p < cs.length from fun m hm => all_onAll hm)
      have HN : Hid (liveM cs ms0 hd = liveM cs (onAll ms (idxs (anc cs h.at_) 0)) (hd.drop (k + 1))) := HN
      obtain ⟨ps, hps⟩ : ∃ ps, ps = idxs (anc cs h.at_) 0 := ⟨_, rfl⟩
      rw [← hps] at HN HPN hl4
      have ht4 : IsSlice (fun b => w3.heap.size ≤ b) w4 a4 c4 ps := by rw [hps]; exact ht4
      rw [← hps]
      clear hps hF4 hF3 hb3 hb4 hB3 hb
      go_wp2
      go_loopw [25] (fun i wq => (∃ (m : Nat) (ms' : List Bool), i = .int .i64 m ∧ m ≤ ps.length ∧ ms'.length = cs.length ∧ Fresh (w.heap.size + 1) (w.heap.size + 2) wq [.slice (some ⟨w.heap.size + 1, 0, none⟩) cs.length cs.length] ms' ∧ wq.cell? ⟨w.heap.size, 0, none⟩ = some (.slice a cs.length cap) ∧ wq.cell? ⟨w.heap.size, 1, none⟩ = some (.slice (some ⟨gh, offh, none⟩) hd.length c1) ∧ IsSlice (fun b => w3.heap.size ≤ b) wq a4 c4 ps ∧ Hid (onAll ms ps = onAll ms' (ps.drop m)) ∧ w4.heap.size ≤ wq.heap.size) ∧ Below w.heap.size w wq) (fun i _ => ps.length - (intOf i).toNat)
      case atStart => exact ⟨⟨0, ms, rfl, by omega, hml, hF, hq0, hq1, ht4, rfl, Nat.le_refl _⟩, hB4⟩
      case round =>
        clear hF hq0 hq1 ht4 hB4 s1
        obtain ⟨⟨m, ms', rfl, hm, hml', hF, hq0, hq1, ht4, HI, hs5⟩, hb⟩ := hrel
        by_cases hlm : m < ps.length
        · obtain ⟨p, hp, hpl⟩ := HPN.out m hlm
          obtain ⟨g5, off5, rfl, hd5, _⟩ := ht4.int (i := m) hlm
          rw [hp] at hd5
          have HN2 := Lib.hid (onAll_next HI.out hlm)
          rw [hp, Int.toNat_natCast] at HN2
          obtain ⟨⟨u, hu⟩, hfz, _, _⟩ := hF.there1 rfl (i := p) (by omega)
          have hF2 := (hF.set1 rfl (i := p) (by omega) (Fresh.leaf (m := w.heap.size + 1) (bool_own true wr)) (by omega)).one
          have hq0' : (wr.setCell ⟨w.heap.size + 1, p, none⟩ (.bool true)).cell? ⟨w.heap.size, 0, none⟩ = some (.slice a cs.length cap) := by
            rw [World.cell?_setCell_other _ _ _ _ (by intro e; injection e with e1 _ _; omega)]; exact hq0
          have hq1' : (wr.setCell ⟨w.heap.size + 1, p, none⟩ (.bool true)).cell? ⟨w.heap.size, 1, none⟩ = some (.slice (some ⟨gh, offh, none⟩) hd.length c1) := by
            rw [World.cell?_setCell_other _ _ _ _ (by intro e; injection e with e1 _ _; omega)]; exact hq1
          have hB2 := hb.setCell (p := ⟨w.heap.size + 1, p, none⟩) (by show w.heap.size ≤ w.heap.size + 1; omega) (.bool true)
          have ht5 : IsSlice (fun b => w3.heap.size ≤ b) (wr.setCell ⟨w.heap.size + 1, p, none⟩ (.bool true)) (some ⟨g5, off5, none⟩) c4 ps := ht4.setCell (by show ¬ w3.heap.size ≤ w.heap.size + 1; omega)
          have hs6 : (wr.setCell ⟨w.heap.size + 1, p, none⟩ (.bool true)).heap.size = wr.heap.size := by simp
          clear hp
          go_wp2
          go_roundw
          case rel => exact ⟨⟨m + 1, ms'.set p true, by go_num, by omega, by simpa using hml', hF2, hq0', hq1', ht5, HN2.out, by omega⟩, hB2⟩
          case measure => simp [intOf] <;> omega
        · have HE := Lib.hid (onAll_end HI.out hlm)
          go_wp2
          go_roundw
          case rel => exact ⟨⟨k + 1, ms', by omega, by go_num, hml', hF, hq0, hq1, by omega, by show _ = _; rw [HN.out, HE.out]⟩, hb⟩
          case measure => simp [intOf] <;> omega
    · have HE := Lib.hid (liveM_end HA.out hlt)
      go_wp2
      go_ret
      exact ⟨_, rfl, by rw [HLB.out, HE.out]; exact hF.mono (by omega) (by omega), hb⟩
end Go.Proofs.YtmblockojnaffaaDoor
