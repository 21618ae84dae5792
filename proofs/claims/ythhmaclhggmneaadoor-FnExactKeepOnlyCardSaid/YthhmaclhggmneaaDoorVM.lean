/-
  Walks: which commits come from which, as the reference has it. / Plain functions: commits that are left. No program is in sight here. / Walks: commits that are left, as the reference has it.
-/
import Derived.Test.YthhmaclhggmneaaDoorVK
import Derived.Test.YthhmaclhggmneaaDoorWRepoS
import Derived.Test.YthhmaclhggmneaaDoorVJ
import Derived.Deep.RegionHeld3
set_option linter.unusedVariables false
namespace Go.Proofs.YthhmaclhggmneaaDoor
open Go.RowKit Go.Vc
open Go.Vc.Rep (rd)
open Go.Vc.Own (own)

set_option maxHeartbeats 8000000 in
set_option maxRecDepth 100000 in
theorem l8All_any {S : Nat → Prop} (v0 v1 : Value) (cs : List Commit) (at_ : Int) (w : World) (h0 : rd S w [v0] cs) (hP : parOk cs) (hn : cs.length ≤ 16) (hat : 0 ≤ at_ ∧ at_ < (cs.length : Int)) :
    Calls Tryd.prog 63 #[.agg #[v0, v1], .int .i64 at_] w fun e w' => ∃ v', e = .returned v' ∧ Fresh w.heap.size w'.heap.size w' [v'] (allOf cs at_) ∧ Below w.heap.size w w' := by
  obtain ⟨a, cap, rfl, hs⟩ := rd_slice_elim (Rep.lt h0)
  obtain ⟨a0, rfl⟩ : ∃ n : Nat, at_ = (n : Int) := ⟨at_.toNat, by omega⟩
  have hat2 : a0 < cs.length := by omega
  obtain ⟨wb, hwb⟩ : ∃ wb, wb = w.alloc (.cells #[.slice a cs.length cap, v1] 30) := ⟨_, rfl⟩
  obtain ⟨hB0, hsb, hq⟩ := boxed (vs := [.slice a cs.length cap, v1]) hwb
  have q0 := hq 0 _ rfl
  have hmk := slz_bool.make cs.length (by omega) (by unfold maxLen; omega)
  obtain ⟨wd, hwd, ⟨u, hmc⟩, hfr, hBd, hsd⟩ := marks_start wb cs.length a0 hat2 (by omega)
  rw [hsb] at hfr
  have q0d := keepc q0 hBd
  have hB1 := hB0.trans (hBd.mono hB0.size)
  rw [hwb] at hwd
  have HW := Lib.hid hwd
  have HC : Hid (anc cs (a0 : Int) = ancD cs (a0 + 1) ((List.replicate cs.length false).set a0 true)) := by show _ = _; unfold anc; simp
  have hml : ((List.replicate cs.length false).set a0 true).length = cs.length := by simp
  obtain ⟨ms0, hms⟩ : ∃ ms, ms = (List.replicate cs.length false).set a0 true := ⟨_, rfl⟩
  rw [← hms] at hml hfr HC
  clear hwb hq hwd hms hsd hat
  go_enter Tryd.func63, Tryd.ntmps63
  go_wp2
  rw [← HW.out]
  clear hmk hmc HW
  go_loopw [6, 7] (fun i _ wr => (∃ (k : Nat) (ms : List Bool), i = .int .i64 ((k : Int) - 1) ∧ k ≤ cs.length ∧ ms.length = cs.length ∧ Fresh (w.heap.size + 1) (w.heap.size + 2) wr [.slice (some ⟨w.heap.size + 1, 0, none⟩) cs.length cs.length] ms ∧ wr.cell? ⟨w.heap.size, 0, none⟩ = some (.slice a cs.length cap) ∧ Hid (anc cs (a0 : Int) = ancD cs k ms)) ∧ Below w.heap.size w wr) (fun i _ _ => (intOf i + 1).toNat)
  case atStart => exact ⟨⟨a0 + 1, ms0, by go_num, hat2, hml, hfr.one, q0d, HC⟩, hB1⟩
  case round =>
    clear hfr q0d HC hml hB1 hB0 hBd
    obtain ⟨⟨k, ms, rfl, hk, hml, hF, hq0, HA⟩, hb⟩ := hrel
    have hsz := hb.size
    by_cases hk0 : k = 0
    · subst hk0
      have e0 : (((0 : Nat) : Int) - 1) = -1 := rfl
      rw [e0]
      have HZ : Hid (allOf cs (a0 : Int) = idxs ms 0) := by show _ = _; unfold allOf; rw [HA.out]; rfl
      have hcell : ∀ i, (hi : i < ms.length) → wr.cell? ⟨w.heap.size + 1, i, none⟩ = some (.bool ms[i]) := fun i hi => hF.boolAt hi
      have HCL := Lib.hid hcell
      have hE := Fresh.empty (β := Int) Nat.one_pos wr.heap.size wr (Nat.le_refl _)
      have hb2 := hb.alloc hsz (.cells #[] (Tid.tid Int))
      clear hcell
      go_wp2
      go_loopw [8, 9] (fun out i wq => (∃ (k : Nat) (ol : List Int), k ≤ ms.length ∧ i = .int .i64 k ∧ ol.length ≤ k ∧ Fresh wr.heap.size wq.heap.size wq [out] ol ∧ Hid (idxs ms 0 = ol ++ idxs (ms.drop k) k)) ∧ Below wr.heap.size wr wq) (fun _ i _ => ms.length - (intOf i).toNat)
      case atStart => exact ⟨⟨0, [], by omega, rfl, by simp, hE.mono (Nat.le_refl _) (by simp), rfl⟩, (Below.refl _ _).alloc (Nat.le_refl _) _⟩
      case round =>
        clear hE hb2
        obtain ⟨⟨k, ol, hk, rfl, hol, hO, HB⟩, hbq⟩ := hrel
        obtain ⟨a2, c2, rfl, _⟩ := hO.shape
        have hsq := hbq.size
        by_cases hlt : k < ms.length
        · have hc := keepc (HCL.out k hlt) hbq
          cases hm : ms[k] with
          | true =>
            have HN := Lib.hid (idxs_true HB.out hlt hm)
            rw [hm] at hc
            clear hm
            have hi0 : I64 ((k : Nat) : Int) := i64_nat (by omega)
            go_wp2_with (at_builtin; go_must (refine wpList_app_leaf slz_int.slt rfl (.tmp 61) (.tmp 63) rfl rfl (hO.alloc _) (by simp; omega) rfl rfl (lit_ints [(k : Int)] (heap_alloc_new _ _) (by simpa using hi0) (by unfold maxLen; simp)) (by simp; omega) (by unfold maxLen; simp; omega) ?_); intro a5 c5 w5 hG5)
            go_roundw
            case rel => exact ⟨⟨k + 1, ol ++ [(k : Int)], by omega, by go_num, by simp; omega, by have := hG5.fresh; simpa using this, HN.out⟩, (hbq.alloc hsq _).trans hG5.below⟩
            case measure => simp [intOf] <;> omega
          | false =>
            have HN := Lib.hid (idxs_false HB.out hlt hm)
            rw [hm] at hc
            clear hm
            go_wp2
            go_roundw
            case rel => exact ⟨⟨k + 1, ol, by omega, by go_num, by omega, hO, HN.out⟩, hbq⟩
            case measure => simp [intOf] <;> omega
        · have HN := Lib.hid (idxs_end HB.out hlt)
          go_wp2
          go_ret
          exact ⟨_, rfl, by rw [HZ.out, HN.out]; exact hO.mono hsz (Nat.le_refl _), hb.trans (hbq.mono hsz)⟩
    · obtain ⟨j, rfl⟩ : ∃ j, k = j + 1 := ⟨k - 1, by omega⟩
      have hj : j < cs.length := by omega
      have ej : (((j + 1 : Nat) : Int) - 1) = (j : Int) := by omega
      rw [ej]
      have hjm : j < ms.length := by omega
      have hcell := hF.boolAt (i := j) hjm
      obtain ⟨g, off, ap, np, at_, nt, rfl, hc0, hc1, hc2, hpar, hz1, htr⟩ := hs.commit hj
      have HC0 := Lib.hid hc0
      have hpo := hP j hj
      obtain ⟨ps, hps⟩ : ∃ ps, ps = cs[j].parents := ⟨_, rfl⟩
      have hpn : ∀ m (hm : m < ps.length), ∃ p : Nat, ps[m] = (p : Int) ∧ p < j := by
        intro m hm
        subst hps
        exact par_nat hP hj hm
      rw [← hps] at hc0 hpar HC0
      have HPS := Lib.hid hps
      have HPN := Lib.hid hpn
      have hlp := hpar.le
      have hpar := hpar.lt
      have hc0 := keepc hc0 hb
      clear hps hc1 hc2 htr hpo hpn
      cases hb0 : ms[j] with
      | false =>
        have HN := Lib.hid (anc_skip HA.out hjm hb0)
        rw [hb0] at hcell
        clear hb0
        go_wp2
        go_loopw [7] (fun i wq => i = .int .i64 0 ∧ wq = wr) (fun i _ => 0)
        case atStart => exact ⟨rfl, rfl⟩
        case round =>
          obtain ⟨rfl, rfl⟩ := hrel
          by_cases hlm : 0 < ps.length
          · have hd : decide ((0 : Int) < (ps.length : Int)) = true := decide_eq_true (by omega)
            go_wp2
            go_roundw
            case rel => exact ⟨⟨j, ms, by go_num, by omega, hml, hF, hq0, HN.out⟩, hb⟩
            case measure => simp [intOf] <;> omega
          · have hd : decide ((0 : Int) < (ps.length : Int)) = false := decide_eq_false (by omega)
            go_wp2
            go_roundw
            case rel => exact ⟨⟨j, ms, by go_num, by omega, hml, hF, hq0, HN.out⟩, hb⟩
            case measure => simp [intOf] <;> omega
      | true =>
        have HN := Lib.hid (anc_take HA.out hjm hj hb0)
        rw [← HPS.out] at HN
        go_wp2
        go_loopw [7] (fun i wq => (∃ (m : Nat) (ms' : List Bool), i = .int .i64 m ∧ m ≤ ps.length ∧ ms'.length = cs.length ∧ ms'[j]? = some true ∧ Fresh (w.heap.size + 1) (w.heap.size + 2) wq [.slice (some ⟨w.heap.size + 1, 0, none⟩) cs.length cs.length] ms' ∧ wq.cell? ⟨w.heap.size, 0, none⟩ = some (.slice (some ⟨g, off, none⟩) cs.length cap) ∧ Hid (onAll ms ps = onAll ms' (ps.drop m))) ∧ Below w.heap.size w wq) (fun i _ => ps.length - (intOf i).toNat)
        case atStart => exact ⟨⟨0, ms, rfl, by omega, hml, by rw [List.getElem?_eq_getElem hjm, hb0], hF, hq0, rfl⟩, hb⟩
        case round =>
          clear hF hq0 hcell hc0 hb0 hsz
          obtain ⟨⟨m, ms', rfl, hm, hml', hmj, hF', hq0', HI⟩, hb'⟩ := hrel
          have hsz := hb'.size
          by_cases hlm : m < ps.length
          · obtain ⟨p, hp, hpl⟩ := HPN.out m hlm
            have hc0 := keepc HC0.out hb'
            obtain ⟨g2, off2, rfl, hd, _⟩ := (hpar.keep hb').int (i := m) hlm
            rw [hp] at hd
            have HN2 := Lib.hid (onAll_next HI.out hlm)
            rw [hp, Int.toNat_natCast] at HN2
            obtain ⟨⟨u, hu⟩, hfz, _, _⟩ := hF'.there1 rfl (i := p) (by omega)
            have hcell : wr.cell? ⟨w.heap.size + 1, j, none⟩ = some (.bool true) := by
              have h1 := hF'.boolAt (i := j) (by omega)
              rw [List.getElem?_eq_getElem (by omega)] at hmj
              rw [h1, Option.some.inj hmj]
            have hmj2 : (ms'.set p true)[j]? = some true := by rw [List.getElem?_set_ne (by omega)]; exact hmj
            have hF2 := (hF'.set1 rfl (i := p) (by omega) (Fresh.leaf (m := w.heap.size + 1) (bool_own true wr)) (by omega)).one
            have hq2 : (wr.setCell ⟨w.heap.size + 1, p, none⟩ (.bool true)).cell? ⟨w.heap.size, 0, none⟩ = some (.slice (some ⟨g, off, none⟩) cs.length cap) := by
              rw [World.cell?_setCell_other _ _ _ _ (by intro e; injection e with e1 _ _; omega)]; exact hq0'
            have hB2 := hb'.setCell (p := ⟨w.heap.size + 1, p, none⟩) (by show w.heap.size ≤ w.heap.size + 1; omega) (.bool true)
            clear hp hmj
            go_wp2
            go_roundw
            case rel => exact ⟨⟨m + 1, ms'.set p true, by go_num, by omega, by simpa using hml', hmj2, hF2, hq2, HN2.out⟩, hB2⟩
            case measure => simp [intOf] <;> omega
          · have HE := Lib.hid (onAll_end HI.out hlm)
            have hc0 := keepc HC0.out hb'
            clear hmj
            go_wp2
            go_roundw
            case rel => exact ⟨⟨j, ms', by go_num, by omega, hml', hF', hq0', by show _ = _; rw [HN.out, HE.out]⟩, hb'⟩
            case measure => simp [intOf] <;> omega
end Go.Proofs.YthhmaclhggmneaaDoor
namespace Go.Vc
theorem filt_yes {α : Type} {P : α → Bool} {M ol xs : List α} {k : Nat} (H : M = ol ++ (xs.drop k).filter P) (h : k < xs.length) (hp : P xs[k] = true) : M = (ol ++ [xs[k]]) ++ (xs.drop (k + 1)).filter P := by
  rw [H, drop_cons xs k h, List.filter_cons_of_pos hp, List.append_assoc]; rfl
theorem filt_no {α : Type} {P : α → Bool} {M ol xs : List α} {k : Nat} (H : M = ol ++ (xs.drop k).filter P) (h : k < xs.length) (hp : P xs[k] = false) : M = ol ++ (xs.drop (k + 1)).filter P := by
  rw [H, drop_cons xs k h, List.filter_cons_of_neg (by rw [hp]; simp)]
theorem filt_end {α : Type} {P : α → Bool} {M ol xs : List α} {k : Nat} (H : M = ol ++ (xs.drop k).filter P) (h : ¬ k < xs.length) : M = ol := by
  rw [H, drop_nil xs k h, List.filter_nil, List.append_nil]
theorem none_next {cs : List Commit} {os : List Int} {x : Int} {l : Bool} {m : Nat} (H : noneB cs os x = (l && noneB cs (os.drop m) x)) (h : m < os.length) : noneB cs os x = ((l && !hasB (allOf cs os[m]) x) && noneB cs (os.drop (m + 1)) x) := by
  rw [H, drop_cons os m h, noneB, List.all_cons, Bool.and_assoc]; rfl
theorem none_end {cs : List Commit} {os : List Int} {x : Int} {l : Bool} {m : Nat} (H : noneB cs os x = (l && noneB cs (os.drop m) x)) (h : ¬ m < os.length) : noneB cs os x = l := by
  rw [H, drop_nil os m h]; simp [noneB]
theorem allOf_len (cs : List Commit) (at_ : Int) : (allOf cs at_).length ≤ cs.length := by
  have := idxs_len (anc cs at_) 0
  rw [anc_len] at this
  exact this
theorem left_len (cs : List Commit) (at_ : Int) (os : List Int) : (leftT cs at_ os).length ≤ cs.length :=
  Nat.le_trans (List.length_filter_le _ _) (allOf_len cs at_)
theorem repo_le {r : Repo} (h : repoB r = true) : r.commits.length ≤ 16 := (repo_parts h).1
end Go.Vc
namespace Go.Proofs.YthhmaclhggmneaaDoor
open Go.RowKit Go.Vc
open Go.Vc.Rep (rd)
open Go.Vc.Own (own)

end Go.Proofs.YthhmaclhggmneaaDoor
