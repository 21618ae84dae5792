/-
  Walks: which commits come from which, as the reference has it. / Plain functions: commits that are left. No program is in sight here. / Walks: commits that are left, as the reference has it.
-/
import Derived.Test.YtmblockojnaffaaDoorVK
import Derived.Test.YtmblockojnaffaaDoorWRepoS
import Derived.Test.YtmblockojnaffaaDoorVJ
import Derived.Deep.RegionHeld3
set_option linter.unusedVariables false
namespace Go.Proofs.YtmblockojnaffaaDoor
open Go.RowKit Go.Vc
open Go.Vc.Rep (rd)
open Go.Vc.Own (own)

theorem l8Has_is {S : Nat → Prop} (u : Value) (xs : List Int) (n : Int) (w : World) (hu : rd S w [u] xs) (hl : xs.length ≤ 1000) {b : Bool} (h : hasB xs n = b) :
    Calls Tryd.prog 108 #[u, .int .i64 n] w fun e w' => e = .returned (.bool b) ∧ w' = w := by
  subst h
  obtain ⟨a, cap, rfl, hs⟩ := rd_slice_elim (Rep.lt hu)
  have hle := hs.le
  go_enter Tryd.func108, Tryd.ntmps108
  go_wp2
  go_loopw [5] (fun i wr => (∃ k : Nat, k ≤ xs.length ∧ i = .int .i64 k ∧ Hid (hasB xs n = hasB (xs.drop k) n)) ∧ wr = w) (fun i _ => xs.length - (intOf i).toNat)
  case atStart => exact ⟨⟨0, by omega, rfl, rfl⟩, rfl⟩
  case round =>
    obtain ⟨⟨k, hk, rfl, HA⟩, rfl⟩ := hrel
    by_cases hlt : k < xs.length
    · obtain ⟨g, off, rfl, hc, _⟩ := hs.int hlt
      by_cases he : xs[k] = n
      · have HN := Lib.hid (has_hit HA.out hlt he)
        have hd : (xs[k] == n) = true := by simp [he]
        clear he
        go_wp2
        go_ret
        exact ⟨ret_bool HN.out.symm, rfl⟩
      · have HN := Lib.hid (has_next HA.out hlt he)
        have hd : (xs[k] == n) = false := by simp [he]
        clear he
        go_wp2
        go_roundw
        case rel => exact ⟨⟨k + 1, by omega, by go_num, HN.out⟩, trivial⟩
        case measure => simp [intOf] <;> omega
    · have HN := Lib.hid (has_end HA.out hlt)
      go_wp2
      go_ret
      exact ⟨ret_bool HN.out.symm, rfl⟩

set_option maxHeartbeats 8000000 in
set_option maxRecDepth 100000 in
theorem l8All_any {S : Nat → Prop} (v0 v1 : Value) (cs : List Commit) (at_ : Int) (w : World) (h0 : rd S w [v0] cs) (hP : parOk cs) (hn : cs.length ≤ 16) (hat : 0 ≤ at_ ∧ at_ < (cs.length : Int)) :
    Calls Tryd.prog 68 #[.agg #[v0, v1], .int .i64 at_] w fun e w' => ∃ v', e = .returned v' ∧ Fresh w.heap.size w'.heap.size w' [v'] (allOf cs at_) ∧ Below w.heap.size w w' := by
  obtain ⟨a, cap, rfl, hs⟩ := rd_slice_elim (Rep.lt h0)
  obtain ⟨a0, rfl⟩ : ∃ n : Nat, at_ = (n : Int) := ⟨at_.toNat, by omega⟩
  have hat2 : a0 < cs.length := by omega
  obtain ⟨wb, hwb⟩ : ∃ wb, wb = w.alloc (.cells #[.slice a cs.length cap, v1] 32) := ⟨_, rfl⟩
  obtain ⟨hB0, hsb, hq⟩ := boxed (vs := [.slice a cs.length cap, v1]) hwb
  have q0 := hq 0 _ rfl
  have hmk := slz_bool.make cs.length (by omega) (by unfold maxLen; omega)
  obtain ⟨wd, hwd, ⟨u, hmc⟩, hfr, hBd, hsd⟩ := marks_start wb cs.length a0 hat2 (by omega)
  rw [hsb] at hfr
  have q0d := keepc q0 hBd
  have hB1 := hB0.trans (hBd.mono hB0.size)
  rw [hwb] at hwd
  have HW := Lib.hid hwd
  have HC : Hid (anc cs (a0 : Int) = ancD cs (a0 + 1) ((List.replicate cs.length false).set a0 true)) := by show _ = _; unfold anc; simp
  have hml : ((List.replicate cs.length false).set a0 true).length = cs.length := by simp
  obtain ⟨ms0, hms⟩ : ∃ ms, ms = (List.replicate cs.length false).set a0 true := ⟨_, rfl⟩
  rw [← hms] at hml hfr HC
  clear hwb hq hwd hms hsd hat
  go_enter Tryd.func68, Tryd.ntmps68
  go_wp2
  rw [← HW.out]
  clear hmk hmc HW
  go_loopw [6, 7] (fun i _ wr => (∃ (k : Nat) (ms : List Bool), i = .int .i64 ((k : Int) - 1) ∧ k ≤ cs.length ∧ ms.length = cs.length ∧ Fresh (w.heap.size + 1) (w.heap.size + 2) wr [.slice (some ⟨w.heap.size + 1, 0, none⟩) cs.length cs.length] ms ∧ wr.cell? ⟨w.heap.size, 0, none⟩ = some (.slice a cs.length cap) ∧ Hid (anc cs (a0 : Int) = ancD cs k ms)) ∧ Below w.heap.size w wr) (fun i _ _ => (intOf i + 1).toNat)
  case atStart => exact ⟨⟨a0 + 1, ms0, by go_num, hat2, hml, hfr.one, q0d, HC⟩, hB1⟩
  case round =>
    clear hfr q0d HC hml hB1 hB0 hBd
    obtain ⟨⟨k, ms, rfl, hk, hml, hF, hq0, HA⟩, hb⟩ := hrel
    have hsz := hb.size
    by_cases hk0 : k = 0
    · subst hk0
      have e0 : (((0 : Nat) : Int) - 1) = -1 := rfl
      rw [e0]
      have HZ : Hid (allOf cs (a0 : Int) = idxs ms 0) := by show _ = _; unfold allOf; rw [HA.out]; rfl
      have hcell : ∀ i, (hi : i < ms.length) → wr.cell? ⟨w.heap.size + 1, i, none⟩ = some (.bool ms[i]) := fun i hi => hF.boolAt hi
      have HCL := Lib.hid hcell
      have hE := Fresh.empty (β := Int) Nat.one_pos wr.heap.size wr (Nat.le_refl _)
      have hb2 := hb.alloc hsz (.cells #[] (Tid.tid Int))
      clear hcell
      go_wp2
      go_loopw [8, 9] (fun out i wq => (∃ (k : Nat) (ol : List Int), k ≤ ms.length ∧ i = .int .i64 k ∧ ol.length ≤ k ∧ Fresh wr.heap.size wq.heap.size wq [out] ol ∧ Hid (idxs ms 0 = ol ++ idxs (ms.drop k) k)) ∧ Below wr.heap.size wr wq) (fun _ i _ => ms.length - (intOf i).toNat)
      case atStart => exact ⟨⟨0, [], by omega, rfl, by simp, hE.mono (Nat.le_refl _) (by simp), rfl⟩, (Below.refl _ _).alloc (Nat.le_refl _) _⟩
      case round =>
        clear hE hb2
        obtain ⟨⟨k, ol, hk, rfl, hol, hO, HB⟩, hbq⟩ := hrel
        obtain ⟨a2, c2, rfl, _⟩ := hO.shape
        have hsq := hbq.size
        by_cases hlt : k < ms.length
        · have hc := keepc (HCL.out k hlt) hbq
          cases hm : ms[k] with
          | true =>
            have HN := Lib.hid (idxs_true HB.out hlt hm)
            rw [hm] at hc
            clear hm
            have hi0 : I64 ((k : Nat) : Int) := i64_nat (by omega)
            go_wp2_with (at_builtin; go_must (refine wpList_app_leaf slz_int.slt rfl (.tmp 61) (.tmp 63) rfl rfl (hO.alloc _) (by simp; omega) rfl rfl (lit_ints [(k : Int)] (heap_alloc_new _ _) (by simpa using hi0) (by unfold maxLen; simp)) (by simp; omega) (by unfold maxLen; simp; omega) ?_); intro a5 c5 w5 hG5)
            go_roundw
            case rel => exact ⟨⟨k + 1, ol ++ [(k : Int)], by omega, by go_num, by simp; omega, by have := hG5.fresh; simpa using this, HN.out⟩, (hbq.alloc hsq _).trans hG5.below⟩
            case measure => simp [intOf] <;> omega
          | false =>
            have HN := Lib.hid (idxs_false HB.out hlt hm)
            rw [hm] at hc
            clear hm
            go_wp2
            go_roundw
            case rel => exact ⟨⟨k + 1, ol, by omega, by go_num, by omega, hO, HN.out⟩, hbq⟩
            case measure => simp [intOf] <;> omega
        · have HN := Lib.hid (idxs_end HB.out hlt)
          go_wp2
          go_ret
          exact ⟨_, rfl, by rw [HZ.out, HN.out]; exact hO.mono hsz (Nat.le_refl _), hb.trans (hbq.mono hsz)⟩
    · obtain ⟨j, rfl⟩ : ∃ j, k = j + 1 := ⟨k - 1, by omega⟩
      have hj : j < cs.length := by omega
      have ej : (((j + 1 : Nat) : Int) - 1) = (j : Int) := by omega
      rw [ej]
      have hjm : j < ms.length := by omega
      have hcell := hF.boolAt (i := j) hjm
      obtain ⟨g, off, ap, np, at_, nt, rfl, hc0, hc1, hc2, hpar, hz1, htr⟩ := hs.commit hj
      have HC0 := Lib.hid hc0
      have hpo := hP j hj
      obtain ⟨ps, hps⟩ : ∃ ps, ps = cs[j].parents := ⟨_, rfl⟩
      have hpn : ∀ m (hm : m < ps.length), ∃ p : Nat, ps[m] = (p : Int) ∧ p < j := by
        intro m hm
        subst hps
        exact par_nat hP hj hm
      rw [← hps] at hc0 hpar HC0
      have HPS := Lib.hid hps
      have HPN := Lib.hid hpn
      have hlp := hpar.le
      have hpar := hpar.lt
      have hc0 := keepc hc0 hb
      clear hps hc1 hc2 htr hpo hpn
      cases hb0 : ms[j] with
      | false =>
        have HN := Lib.hid (anc_skip HA.out hjm hb0)
        rw [hb0] at hcell
        clear hb0
        go_wp2
        go_loopw [7] (fun i wq => i = .int .i64 0 ∧ wq = wr) (fun i _ => 0)
        case atStart => exact ⟨rfl, rfl⟩
        case round =>
          obtain ⟨rfl, rfl⟩ := hrel
          by_cases hlm : 0 < ps.length
          · have hd : decide ((0 : Int) < (ps.length : Int)) = true := decide_eq_true (by omega)
            go_wp2
            go_roundw
            case rel => exact ⟨⟨j, ms, by go_num, by omega, hml, hF, hq0, HN.out⟩, hb⟩
            case measure => simp [intOf] <;> omega
          · have hd : decide ((0 : Int) < (ps.length : Int)) = false := decide_eq_false (by omega)
            go_wp2
            go_roundw
            case rel => exact ⟨⟨j, ms, by go_num, by omega, hml, hF, hq0, HN.out⟩, hb⟩
            case measure => simp [intOf] <;> omega
      | true =>
        have HN := Lib.hid (anc_take HA.out hjm hj hb0)
        rw [← HPS.out] at HN
        go_wp2
        go_loopw [7] (fun i wq => (∃ (m : Nat) (ms' : List Bool), i = .int .i64 m ∧ m ≤ ps.length ∧ ms'.length = cs.length ∧ ms'[j]? = some true ∧ Fresh (w.heap.size + 1) (w.heap.size + 2) wq [.slice (some ⟨w.heap.size + 1, 0, none⟩) cs.length cs.length] ms' ∧ wq.cell? ⟨w.heap.size, 0, none⟩ = some (.slice (some ⟨g, off, none⟩) cs.length cap) ∧ Hid (onAll ms ps = onAll ms' (ps.drop m))) ∧ Below w.heap.size w wq) (fun i _ => ps.length - (intOf i).toNat)
        case atStart => exact ⟨⟨0, ms, rfl, by omega, hml, by rw [List.getElem?_eq_getElem hjm, hb0], hF, hq0, rfl⟩, hb⟩
        case round =>
          clear hF hq0 hcell hc0 hb0 hsz
          obtain ⟨⟨m, ms', rfl, hm, hml', hmj, hF', hq0', HI⟩, hb'⟩ := hrel
          have hsz := hb'.size
          by_cases hlm : m < ps.length
          · obtain ⟨p, hp, hpl⟩ := HPN.out m hlm
            have hc0 := keepc HC0.out hb'
            obtain ⟨g2, off2, rfl, hd, _⟩ := (hpar.keep hb').int (i := m) hlm
            rw [hp] at hd
            have HN2 := Lib.hid (onAll_next HI.out hlm)
            rw [hp, Int.toNat_natCast] at HN2
            obtain ⟨⟨u, hu⟩, hfz, _, _⟩ := hF'.there1 rfl (i := p) (by omega)
            have hcell : wr.cell? ⟨w.heap.size + 1, j, none⟩ = some (.bool true) := by
              have h1 := hF'.boolAt (i := j) (by omega)
              rw [List.getElem?_eq_getElem (by omega)] at hmj
              rw [h1, Option.some.inj hmj]
            have hmj2 : (ms'.set p true)[j]? = some true := by rw [List.getElem?_set_ne (by omega)]; exact hmj
            have hF2 := (hF'.set1 rfl (i := p) (by omega) (Fresh.leaf (m := w.heap.size + 1) (bool_own true wr)) (by omega)).one
            have hq2 : (wr.setCell ⟨w.heap.size + 1, p, none⟩ (.bool true)).cell? ⟨w.heap.size, 0, none⟩ = some (.slice (some ⟨g, off, none⟩) cs.length cap) := by
              rw [World.cell?_setCell_other _ _ _ _ (by intro e; injection e with e1 _ _; omega)]; exact hq0'
            have hB2 := hb'.setCell (p := ⟨w.heap.size + 1, p, none⟩) (by show w.heap.size ≤ w.heap.size + 1; omega) (.bool true)
            clear hp hmj
            go_wp2
            go_roundw
            case rel => exact ⟨⟨m + 1, ms'.set p true, by go_num, by omega, by simpa using hml', hmj2, hF2, hq2, HN2.out⟩, hB2⟩
            case measure => simp [intOf] <;> omega
          · have HE := Lib.hid (onAll_end HI.out hlm)
            have hc0 := keepc HC0.out hb'
            clear hmj
            go_wp2
            go_roundw
            case rel => exact ⟨⟨j, ms', by go_num, by omega, hml', hF', hq0', by show _ = _; rw [HN.out, HE.out]⟩, hb'⟩
            case measure => simp [intOf] <;> omega
end Go.Proofs.YtmblockojnaffaaDoor
namespace Go.Vc
theorem filt_yes {α : Type} {P : α → Bool} {M ol xs : List α} {k : Nat} (H : M = ol ++ (xs.drop k).filter P) (h : k < xs.length) (hp : P xs[k] = true) : M = (ol ++ [xs[k]]) ++ (xs.drop (k + 1)).filter P := by
  rw [H, drop_cons xs k h, List.filter_cons_of_pos hp, List.append_assoc]; rfl
theorem filt_no {α : Type} {P : α → Bool} {M ol xs : List α} {k : Nat} (H : M = ol ++ (xs.drop k).filter P) (h : k < xs.length) (hp : P xs[k] = false) : M = ol ++ (xs.drop (k + 1)).filter P := by
  rw [H, drop_cons xs k h, List.filter_cons_of_neg (by rw [hp]; simp)]
theorem filt_end {α : Type} {P : α → Bool} {M ol xs : List α} {k : Nat} (H : M = ol ++ (xs.drop k).filter P) (h : ¬ k < xs.length) : M = ol := by
  rw [H, drop_nil xs k h, List.filter_nil, List.append_nil]
theorem none_next {cs : List Commit} {os : List Int} {x : Int} {l : Bool} {m : Nat} (H : noneB cs os x = (l && noneB cs (os.drop m) x)) (h : m < os.length) : noneB cs os x = ((l && !hasB (allOf cs os[m]) x) && noneB cs (os.drop (m + 1)) x) := by
  rw [H, drop_cons os m h, noneB, List.all_cons, Bool.and_assoc]; rfl
theorem none_end {cs : List Commit} {os : List Int} {x : Int} {l : Bool} {m : Nat} (H : noneB cs os x = (l && noneB cs (os.drop m) x)) (h : ¬ m < os.length) : noneB cs os x = l := by
  rw [H, drop_nil os m h]; simp [noneB]
theorem allOf_len (cs : List Commit) (at_ : Int) : (allOf cs at_).length ≤ cs.length := by
  have := idxs_len (anc cs at_) 0
  rw [anc_len] at this
  exact this
theorem left_len (cs : List Commit) (at_ : Int) (os : List Int) : (leftT cs at_ os).length ≤ cs.length :=
  Nat.le_trans (List.length_filter_le _ _) (allOf_len cs at_)
theorem repo_le {r : Repo} (h : repoB r = true) : r.commits.length ≤ 16 := (repo_parts h).1
end Go.Vc
namespace Go.Proofs.YtmblockojnaffaaDoor
open Go.RowKit Go.Vc
open Go.Vc.Rep (rd)
open Go.Vc.Own (own)

set_option maxHeartbeats 8000000 in
set_option maxRecDepth 100000 in
theorem l12Left_any {S T : Nat → Prop} (v0 v1 u : Value) (cs : List Commit) (xs : List Int) (at_ : Int) (w : World) (h0 : rd S w [v0] cs) (hu : rd T w [u] xs) (hP : parOk cs) (hn : cs.length ≤ 16) (hat : 0 ≤ at_ ∧ at_ < (cs.length : Int)) (hx : anyB cs.length xs = true) (hl : xs.length ≤ 1000) :
    Calls Tryd.prog 62 #[.agg #[v0, v1], u, .int .i64 at_] w fun e w' => ∃ v', e = .returned v' ∧ Fresh w.heap.size w'.heap.size w' [v'] (leftT cs at_ xs) ∧ Below w.heap.size w w' := by
  obtain ⟨a, cap, rfl, hs⟩ := rd_slice_elim (Rep.lt h0)
  obtain ⟨a2, c2, rfl, ht⟩ := rd_slice_elim (Rep.lt hu)
  obtain ⟨wb, hwb⟩ : ∃ wb, wb = w.alloc (.cells #[.slice a cs.length cap, v1] 32) := ⟨_, rfl⟩
  obtain ⟨hB0, hsb, hq⟩ := boxed (vs := [.slice a cs.length cap, v1]) hwb
  have q0 := hq 0 _ rfl
  have q1 := hq 1 _ rfl
  have HW := Lib.hid hwb
  clear hwb hq
  go_enter Tryd.func62, Tryd.ntmps62
  go_wp2_with fail
  rw [← HW.out]
  refine (l8All_any _ _ cs at_ _ (hs.keep hB0).rd hP hn hat).mono ?_
  rintro e w1 ⟨v1', rfl, hL, hb1⟩
  have q0 := keepc q0 hb1
  have q1 := keepc q1 hb1
  have hB1 := hB0.trans (hb1.mono hB0.size)
  have hs1 := hb1.size
  have hll := allOf_len cs at_
  obtain ⟨ls, hls⟩ : ∃ ls, ls = allOf cs at_ := ⟨_, rfl⟩
  have HLS : Hid (leftT cs at_ xs = ls.filter (fun x => noneB cs xs x)) := by show _ = _; rw [hls]; rfl
  rw [← hls] at hL hll
  obtain ⟨al, cl, rfl, hLs⟩ := hL.shape
  have hLs := hLs.lt
  clear hls HW hB0 hsb
  have hE := Fresh.empty (β := Int) Nat.one_pos w1.heap.size w1 (Nat.le_refl _)
  go_wp2
  go_loopw [8, 9, 10, 11] (fun out i _ _ wr => (∃ (k : Nat) (ol : List Int), k ≤ ls.length ∧ i = .int .i64 k ∧ ol.length ≤ k ∧ Fresh w1.heap.size wr.heap.size wr [out] ol ∧ Hid (leftT cs at_ xs = ol ++ (ls.drop k).filter (fun x => noneB cs xs x))) ∧ Below w1.heap.size w1 wr) (fun _ i _ _ _ => ls.length - (intOf i).toNat)
  case atStart => exact ⟨⟨0, [], by omega, rfl, by simp, hE.mono (Nat.le_refl _) (by simp), by show _ = _; rw [HLS.out]; rfl⟩, (Below.refl _ _).alloc (Nat.le_refl _) _⟩
  case round =>
    clear hE
    obtain ⟨⟨k, ol, hk, rfl, hol, hO, HA⟩, hbr⟩ := hrel
    obtain ⟨a3, c3, rfl, _⟩ := hO.shape
    have hbz := hB1.trans (hbr.mono hB1.size)
    have hsr := hbr.size
    by_cases hlt : k < ls.length
    · obtain ⟨g, off, hal, hc, hi64⟩ := (hLs.keep hbr).int hlt
      subst hal
      obtain ⟨x, hx0⟩ : ∃ x, x = ls[k] := ⟨_, rfl⟩
      rw [← hx0] at hc hi64
      have HX0 := Lib.hid hx0
      clear hx0
      have HC := Lib.hid hc
      go_wp2
      go_loopw [10, 11] (fun l i wq => (∃ (m : Nat) (lb : Bool), m ≤ xs.length ∧ i = .int .i64 m ∧ l = .bool lb ∧ Hid (noneB cs xs x = (lb && noneB cs (xs.drop m) x))) ∧ Below wr.heap.size wr wq) (fun _ i _ => xs.length - (intOf i).toNat)
      case atStart => exact ⟨⟨0, true, by omega, rfl, rfl, by show _ = _; simp⟩, Below.refl _ _⟩
      case round =>
        clear hc
        obtain ⟨⟨m, lb, hm, rfl, rfl, HB⟩, hbq⟩ := hrel
        have hbw2 := hbz.trans (hbq.mono hbz.size)
        by_cases hlm : m < xs.length
        · have HN := Lib.hid (none_next HB.out hlm)
          cases lb with
          | false =>
            go_wp2_with fail
            refine wp_region_bw (by kernel_rfl) (by kernel_rfl) ?_
            repeat (go_big_quiet_step (fail))
            refine wpQuiet_nil ?_
            rintro w1 ⟨⟨_, hbw⟩, rfl⟩
            go_wp2
            go_roundw
            case rel => exact ⟨⟨m + 1, false, by omega, by go_num, rfl, HN.out⟩, hbq.trans (hbw.mono hbq.size)⟩
            case measure => simp [intOf] <;> omega
          | true =>
            obtain ⟨g2, off2, ha2, hd, hd64⟩ := (ht.keep hbw2).int (i := m) hlm
            subst ha2
            obtain ⟨y, hy0⟩ : ∃ y, y = xs[m] := ⟨_, rfl⟩
            have hat2 : 0 ≤ y ∧ y < (cs.length : Int) := by rw [hy0]; exact any_at hx hlm
            rw [← hy0] at hd HN hd64
            clear hy0
            have hc := keepc HC.out hbq
            have q0r := keepc (keepc q0 hbr) hbq
            have q1r := keepc (keepc q1 hbr) hbq
            have hsr2 := (hs.keep hbw2).rd
            have hal := allOf_len cs y
            obtain ⟨hbb, hh⟩ : ∃ bb, hasB (allOf cs y) x = bb := ⟨_, rfl⟩
            rw [hh] at HN
            have HH := Lib.hid hh
            clear hh
            go_wp2_with fail

            go_region_held3 (fun w' => w'.cell? ⟨w.heap.size, 0, none⟩ = some (.slice a cs.length cap) ∧ w'.cell? ⟨w.heap.size, 1, none⟩ = some v1 ∧ w'.cell? ⟨g, off + k, none⟩ = some (.int .i64 x) ∧ w'.cell? ⟨g2, off2 + m, none⟩ = some (.int .i64 y))
              (first | go_keep | exact KL | exact ⟨q0r, q1r, hc, hd⟩)
              (first
                | (go_at_call 68; refine (l8All_any _ _ cs y _ (Rep.drew hsr2) hP hn hat2).mono ?_; rintro e wL ⟨vL, rfl, hF, hbL⟩; have KL := And.intro (BW.cell (w := wr.drew) q0r ⟨wL, hbL⟩) (And.intro (BW.cell (w := wr.drew) q1r ⟨wL, hbL⟩) (And.intro (BW.cell (w := wr.drew) hc ⟨wL, hbL⟩) (BW.cell (w := wr.drew) hd ⟨wL, hbL⟩))))
                | (go_at_call 108; refine (l8Has_is _ _ x _ hF.rd (by omega) HH.out).mono ?_; rintro e wM ⟨rfl, rfl⟩))
            all_goals
              go_wp2
              go_roundw
              case rel => exact ⟨⟨m + 1, !hbb, by omega, by go_num, by simp, HN.out⟩, hbq.drew.trans (hbL.mono (by have := hbq.size; simp; omega))⟩
              case measure => simp [intOf] <;> omega
        · have HN := Lib.hid (none_end HB.out hlm)
          have hbw3 := hbr.trans (hbq.mono hbr.size)
          have hc := keepc HC.out hbq
          have hO := hO.below (Nat.le_refl _) hbq
          have hsz := hbw3.size
          cases lb with
          | false =>
            have HN := Lib.hid (filt_no HA.out hlt (by rw [← HX0.out]; exact HN.out))
            go_wp2
            go_roundw
            case rel => exact ⟨⟨k + 1, ol, by omega, by go_num, by omega, hO.now, HN.out⟩, hbw3⟩
            case measure => simp [intOf] <;> omega
          | true =>
            have HN := Lib.hid (filt_yes HA.out hlt (by rw [← HX0.out]; exact HN.out))
            rw [← HX0.out] at HN
            go_wp2_with (at_builtin; go_must (refine wpList_app_leaf slz_int.slt rfl (.tmp 44) (.tmp 49) rfl rfl (hO.now.alloc _) (by simp; omega) rfl rfl (lit_ints [x] (heap_alloc_new _ _) (by simpa using hi64) (by unfold maxLen; simp)) (by simp; omega) (by unfold maxLen; simp; omega) ?_); intro a5 c5 w5 hG5)
            go_roundw
            case rel => exact ⟨⟨k + 1, ol ++ [x], by omega, by go_num, by simp; omega, by have := hG5.fresh; simpa using this, HN.out⟩, (hbw3.alloc hsz _).trans hG5.below⟩
            case measure => simp [intOf] <;> omega
    · have HN := Lib.hid (filt_end HA.out hlt)
      go_wp2
      go_ret
      exact ⟨_, rfl, by rw [HN.out]; exact hO.mono hB1.size (Nat.le_refl _), hbz⟩
end Go.Proofs.YtmblockojnaffaaDoor
