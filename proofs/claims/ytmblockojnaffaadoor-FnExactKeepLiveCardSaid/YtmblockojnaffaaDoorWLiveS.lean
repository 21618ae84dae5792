/-
  Walks: commits from which a branch comes, as the reference has it.
-/
import Derived.Test.YtmblockojnaffaaDoorWLive
import Derived.Deep.RegionHeld3
set_option linter.unusedVariables false
namespace Go.Proofs.YtmblockojnaffaaDoor
open Go.RowKit Go.Vc
open Go.Vc.Rep (rd)
open Go.Vc.Own (own)

set_option maxHeartbeats 8000000 in
set_option maxRecDepth 100000 in
theorem l14Live_any {S T : Nat → Prop} (v0 v1 : Value) (r : Repo) (w : World) (h0 : rd S w [v0] r.commits) (h1 : rd T w [v1] r.heads) (hR : repoB r = true) :
    Calls Tryd.prog 63 #[.agg #[v0, v1]] w fun e w' => ∃ v', e = .returned v' ∧ Fresh w.heap.size w'.heap.size w' [v'] (liveT r) ∧ Below w.heap.size w w' := by
  have hP := repo_par hR
  have hn := repo_le hR
  have HAT := Lib.hid (show ∀ k (hk : k < r.heads.length), 0 ≤ r.heads[k].at_ ∧ r.heads[k].at_ < (r.commits.length : Int) from fun k hk => heads_at hR hk)
  have HLB : Hid (liveT r = idxs (liveM r.commits (List.replicate r.commits.length false) r.heads) 0) := rfl
  clear hR
  obtain ⟨cs, hcs⟩ : ∃ cs, cs = r.commits := ⟨_, rfl⟩
  obtain ⟨hd, hhd⟩ : ∃ hd, hd = r.heads := ⟨_, rfl⟩
  rw [← hcs] at h0 hP hn HAT HLB
  rw [← hhd] at h1 HLB
  have HAT : Hid (∀ k (hk : k < hd.length), 0 ≤ hd[k].at_ ∧ hd[k].at_ < (cs.length : Int)) := by subst hhd; exact HAT
  clear hcs hhd
  obtain ⟨a, cap, rfl, hs⟩ := rd_slice_elim (Rep.lt h0)
  obtain ⟨a1, c1, rfl, ht⟩ := rd_slice_elim (Rep.lt h1)
  have hle := ht.le
  obtain ⟨wb, hwb⟩ : ∃ wb, wb = w.alloc (.cells #[.slice a cs.length cap, .slice a1 hd.length c1] 32) := ⟨_, rfl⟩
  obtain ⟨hB0, hsb, hq⟩ := boxed (vs := [.slice a cs.length cap, .slice a1 hd.length c1]) hwb
  have q0 := hq 0 _ rfl
  have q1 := hq 1 _ rfl
  have hmk := slz_bool.make cs.length (by omega) (by unfold maxLen; omega)
  obtain ⟨wd, hwd, hfr, hBd, hsd⟩ := marks_zero wb cs.length (by omega)
  rw [hsb] at hfr
  have q0d := keepc q0 hBd
  have q1d := keepc q1 hBd
  have hB1 := hB0.trans (hBd.mono hB0.size)
  rw [hwb] at hwd
  have HW := Lib.hid hwd
  have hml : (List.replicate cs.length false).length = cs.length := by simp
  obtain ⟨ms0, hms⟩ : ∃ ms, ms = List.replicate cs.length false := ⟨_, rfl⟩
  rw [← hms] at hml hfr HLB
  have hg2 : w.heap.size + 1 < wd.heap.size := by omega
  clear hwb hq hwd hms hsd
  go_enter Tryd.func63, Tryd.ntmps63
  go_wp2
  rw [← HW.out]
  clear hmk HW
  go_loopw [4] (fun i wr => (∃ (k : Nat) (ms : List Bool), k ≤ hd.length ∧ i = .int .i64 k ∧ ms.length = cs.length ∧ Fresh (w.heap.size + 1) (w.heap.size + 2) wr [.slice (some ⟨w.heap.size + 1, 0, none⟩) cs.length cs.length] ms ∧ wr.cell? ⟨w.heap.size, 0, none⟩ = some (.slice a cs.length cap) ∧ wr.cell? ⟨w.heap.size, 1, none⟩ = some (.slice a1 hd.length c1) ∧ w.heap.size + 1 < wr.heap.size ∧ Hid (liveM cs ms0 hd = liveM cs ms (hd.drop k))) ∧ Below w.heap.size w wr) (fun i _ => hd.length - (intOf i).toNat)
  case atStart => exact ⟨⟨0, ms0, by omega, rfl, hml, hfr.one, q0d, q1d, hg2, rfl⟩, hB1⟩
  case round =>
    clear hfr q0d q1d hg2 hB1 hB0 hBd q0 q1
    obtain ⟨⟨k, ms, hk, rfl, hml, hF, hq0, hq1, hgr, HA⟩, hb⟩ := hrel
    have hsz := hb.size
    by_cases hlt : k < hd.length
    · have hok := HAT.out k hlt
      obtain ⟨gh, offh, hae, hc1, hc2, hz1, hz2⟩ := (ht.keep hb).branch hlt
      subst hae
      have HN := Lib.hid (liveM_next HA.out hlt)
      obtain ⟨h, hh⟩ : ∃ h, h = hd[k] := ⟨_, rfl⟩
      rw [← hh] at hok hc1 hc2 hz1 hz2 HN
      clear hh hc1
      have hsr := (hs.keep hb).rd
      go_wp2_with fail
      go_region_held3 (fun w' => w'.cell? ⟨w.heap.size, 0, none⟩ = some (.slice a cs.length cap) ∧ w'.cell? ⟨w.heap.size, 1, none⟩ = some (.slice (some ⟨gh, offh, none⟩) hd.length c1) ∧ w'.cell? ⟨gh, offh + k * 2 + 1, none⟩ = some (.int .i64 h.at_))
        (first | go_keep | exact KL | exact ⟨hq0, hq1, hc2⟩)
        (first
          | (go_at_call 68; refine (l8All_any _ _ cs h.at_ _ (Rep.drew hsr) hP hn hok).mono ?_; rintro e w4 ⟨v4, rfl, hF4, hb4⟩; have KL := And.intro (BW.cell (w := wr.drew) hq0 ⟨w4, hb4⟩) (And.intro (BW.cell (w := wr.drew) hq1 ⟨w4, hb4⟩) (BW.cell (w := wr.drew) hc2 ⟨w4, hb4⟩))))
      all_goals
        have hq0 : w4.cell? ⟨w.heap.size, 0, none⟩ = some (.slice a cs.length cap) := KL.1
        have hq1 : w4.cell? ⟨w.heap.size, 1, none⟩ = some (.slice (some ⟨gh, offh, none⟩) hd.length c1) := KL.2.1
        clear KL
        have hF := hF.drew.belowm (by simp; omega) hb4
        have hB4 := hb.drew.trans (hb4.mono (by simp; omega))
        have hs4 := hb4.size
        have hs0 : wr.drew.heap.size = wr.heap.size := by simp
        obtain ⟨a4, c4, rfl, ht4⟩ := hF4.shape
        have hl4 : (allOf cs h.at_).length ≤ 16 := by have := allOf_len cs h.at_; omega
        have HPN := Lib.hid (show ∀ m (hm : m < (allOf cs h.at_).length), ∃ p : Nat, (allOf cs h.at_)[m] = (p : Int) ∧ p < cs.length from fun m hm => all_onAll hm)
        obtain ⟨ps, hps⟩ : ∃ ps, ps = allOf cs h.at_ := ⟨_, rfl⟩
        rw [← hps] at HN HPN hl4
        have ht4 : IsSlice (fun b => wr.heap.size ≤ b) w4 a4 c4 ps := by rw [hps]; exact ht4
        rw [← hps]
        clear hps hF4 hb4 hb hc2
        go_wp2
        go_loopw [6] (fun i wq => (∃ (m : Nat) (ms' : List Bool), i = .int .i64 m ∧ m ≤ ps.length ∧ ms'.length = cs.length ∧ Fresh (w.heap.size + 1) (w.heap.size + 2) wq [.slice (some ⟨w.heap.size + 1, 0, none⟩) cs.length cs.length] ms' ∧ wq.cell? ⟨w.heap.size, 0, none⟩ = some (.slice a cs.length cap) ∧ wq.cell? ⟨w.heap.size, 1, none⟩ = some (.slice (some ⟨gh, offh, none⟩) hd.length c1) ∧ IsSlice (fun b => wr.heap.size ≤ b) wq a4 c4 ps ∧ Hid (onAll ms ps = onAll ms' (ps.drop m)) ∧ w4.heap.size ≤ wq.heap.size) ∧ Below w.heap.size w wq) (fun i _ => ps.length - (intOf i).toNat)
        case atStart => exact ⟨⟨0, ms, rfl, by omega, hml, hF, hq0, hq1, ht4, rfl, Nat.le_refl _⟩, hB4⟩
        case round =>
          clear hF hq0 hq1 ht4 hB4
          obtain ⟨⟨m, ms', rfl, hm, hml', hF, hq0, hq1, ht4, HI, hs5⟩, hb⟩ := hrel
          by_cases hlm : m < ps.length
          · obtain ⟨p, hp, hpl⟩ := HPN.out m hlm
            obtain ⟨g5, off5, rfl, hd5, _⟩ := ht4.int (i := m) hlm
            rw [hp] at hd5
            have HN2 := Lib.hid (onAll_next HI.out hlm)
            rw [hp, Int.toNat_natCast] at HN2
            obtain ⟨⟨u, hu⟩, hfz, _, _⟩ := hF.there1 rfl (i := p) (by omega)
            have hF2 := (hF.set1 rfl (i := p) (by omega) (Fresh.leaf (m := w.heap.size + 1) (bool_own true _)) (by omega)).one
            have hq0' := hq0
            have hq1' := hq1
            rw [← World.cell?_setCell_other _ ⟨w.heap.size + 1, p, none⟩ _ (.bool true) (by intro e; injection e with e1 _ _; omega)] at hq0' hq1'
            have hB2 := hb.setCell (p := ⟨w.heap.size + 1, p, none⟩) (by show w.heap.size ≤ w.heap.size + 1; omega) (.bool true)
            have ht5 := ht4.setCell (p := ⟨w.heap.size + 1, p, none⟩) (u := .bool true) (by show ¬ _ ≤ w.heap.size + 1; omega)
            clear hp
            go_wp2
            go_roundw
            case rel => exact ⟨⟨m + 1, ms'.set p true, by go_num, by omega, by simpa using hml', hF2, hq0', hq1', ht5, HN2.out, by simp; omega⟩, hB2⟩
            case measure => simp [intOf] <;> omega
          · have HE := Lib.hid (onAll_end HI.out hlm)
            go_wp2
            go_roundw
            case rel => exact ⟨⟨k + 1, ms', by omega, by go_num, hml', hF, hq0, hq1, by omega, by show _ = _; rw [HN.out, HE.out]⟩, hb⟩
            case measure => simp [intOf] <;> omega
    · have HE := Lib.hid (liveM_end HA.out hlt)
      have hcell : ∀ i, (hi : i < ms.length) → wr.cell? ⟨w.heap.size + 1, i, none⟩ = some (.bool ms[i]) := fun i hi => hF.boolAt hi
      have HZ : Hid (liveT r = idxs ms 0) := by show _ = _; rw [HLB.out, HE.out]
      have HCL := Lib.hid hcell
      have hEm := Fresh.empty (β := Int) Nat.one_pos wr.heap.size wr (Nat.le_refl _)
      have hb2 := hb.alloc hsz (.cells #[] (Tid.tid Int))
      clear hcell
      go_wp2
      go_loopw [7, 8] (fun out i wq => (∃ (k : Nat) (ol : List Int), k ≤ ms.length ∧ i = .int .i64 k ∧ ol.length ≤ k ∧ Fresh wr.heap.size wq.heap.size wq [out] ol ∧ Hid (idxs ms 0 = ol ++ idxs (ms.drop k) k)) ∧ Below wr.heap.size wr wq) (fun _ i _ => ms.length - (intOf i).toNat)
      case atStart => exact ⟨⟨0, [], by omega, rfl, by simp, hEm.mono (Nat.le_refl _) (by simp), rfl⟩, (Below.refl _ _).alloc (Nat.le_refl _) _⟩
      case round =>
        clear hEm hb2
        obtain ⟨⟨k, ol, hk, rfl, hol, hO, HB⟩, hbq⟩ := hrel
        obtain ⟨a2, c2, rfl, _⟩ := hO.shape
        have hsq := hbq.size
        by_cases hlt : k < ms.length
        · have hc := keepc (HCL.out k hlt) hbq
          cases hm : ms[k] with
          | true =>
            have HN := Lib.hid (idxs_true HB.out hlt hm)
            rw [hm] at hc
            clear hm
            have hi0 : I64 ((k : Nat) : Int) := i64_nat (by omega)
            go_wp2_with (at_builtin; go_must (refine wpList_app_leaf slz_int.slt rfl (.tmp 51) (.tmp 53) rfl rfl (hO.alloc _) (by simp; omega) rfl rfl (lit_ints [(k : Int)] (heap_alloc_new _ _) (by simpa using hi0) (by unfold maxLen; simp)) (by simp; omega) (by unfold maxLen; simp; omega) ?_); intro a5 c5 w5 hG5)
            go_roundw
            case rel => exact ⟨⟨k + 1, ol ++ [(k : Int)], by omega, by go_num, by simp; omega, by have := hG5.fresh; simpa using this, HN.out⟩, (hbq.alloc hsq _).trans hG5.below⟩
            case measure => simp [intOf] <;> omega
          | false =>
            have HN := Lib.hid (idxs_false HB.out hlt hm)
            rw [hm] at hc
            clear hm
            go_wp2
            go_roundw
            case rel => exact ⟨⟨k + 1, ol, by omega, by go_num, by omega, hO, HN.out⟩, hbq⟩
            case measure => simp [intOf] <;> omega
        · have HN := Lib.hid (idxs_end HB.out hlt)
          go_wp2
          go_ret
          exact ⟨_, rfl, by rw [HZ.out, HN.out]; exact hO.mono hsz (Nat.le_refl _), hb.trans (hbq.mono hsz)⟩
end Go.Proofs.YtmblockojnaffaaDoor
