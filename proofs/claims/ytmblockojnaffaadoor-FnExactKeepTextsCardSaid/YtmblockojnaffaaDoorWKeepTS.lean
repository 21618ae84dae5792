/-
  Walks: all different texts of a repository, as the reference has them.
-/
import Derived.Test.YtmblockojnaffaaDoorWKeepT
set_option linter.unusedVariables false
namespace Go.Proofs.YtmblockojnaffaaDoor
open Go.RowKit Go.Vc
open Go.Vc.Rep (rd)
open Go.Vc.Own (own)

set_option maxHeartbeats 8000000 in
set_option maxRecDepth 100000 in
theorem specKeepTexts {S T : Nat → Prop} (r : Repo) (v0 v1 : Value) (w : World) (h0 : rd S w [v0] r.commits) (h1 : rd T w [v1] r.heads) (hS : shortR r) (hM : ML w) :
    Calls Tryd.prog 30 #[.agg #[v0, v1]] w fun e w' => ∃ v', e = .returned (.tuple #[v', .bool (keepTB r)]) ∧ Fresh w.heap.size w'.heap.size w' [v'] (keepTexts r) ∧ Below w.heap.size w w' := by
  have h0 := Rep.lt h0
  have h1 := Rep.lt h1
  obtain ⟨a, cap, rfl, hs⟩ := rd_slice_elim h0
  have hle := hs.le
  have hB0 : Below w.heap.size w ((w.alloc (.cells #[.slice a r.commits.length cap, v1] 32)).alloc (.cells #[] (Tid.tid (List ByteArray)))) := (((Below.refl _ _).alloc (by simp <;> omega) _).alloc (by simp <;> omega) _)
  have hbl := (Below.refl (w.alloc (.cells #[.slice a r.commits.length cap, v1] 32)).heap.size (w.alloc (.cells #[.slice a r.commits.length cap, v1] 32))).alloc (Nat.le_refl _) (.cells #[] (Tid.tid (List ByteArray)))
  have p0 : (w.alloc (.cells #[.slice a r.commits.length cap, v1] 32)).cell? ⟨w.heap.size, 0, none⟩ = some (.slice a r.commits.length cap) := by rw [cell_of_row _ _ 0 _ _ (0, 0) (heap_alloc_new _ _)]; rfl
  have p1 : (w.alloc (.cells #[.slice a r.commits.length cap, v1] 32)).cell? ⟨w.heap.size, 1, none⟩ = some v1 := by rw [cell_of_row _ _ 1 _ _ (0, 0) (heap_alloc_new _ _)]; rfl
  have q0 := keepc p0 hbl
  have q1 := keepc p1 hbl
  have hE := Fresh.empty (β := List ByteArray) Nat.one_pos (w.alloc (.cells #[.slice a r.commits.length cap, v1] 32)).heap.size (w.alloc (.cells #[.slice a r.commits.length cap, v1] 32)) (Nat.le_refl _)
  have hsz1 : (w.alloc (.cells #[.slice a r.commits.length cap, v1] 32)).heap.size = w.heap.size + 1 := by simp
  rw [hsz1] at hE
  clear p0 p1
  cases hr : repoB r with
  | false =>
    have HB1 : Hid (keepTB r = false) := by show _ = _; unfold keepTB; rw [hr]; rfl
    have HR : Hid (keepTexts r = []) := by show _ = _; unfold keepTexts; rw [HB1.out]; rfl
    go_enter Tryd.func30, Tryd.ntmps30
    go_wp2_with fail
    refine (l7Ok_is _ _ r _ (Rep.keep h0 hB0) (Rep.keep h1 hB0) hr).mono ?_
    rintro e w1 ⟨rfl, hb1⟩
    go_wp2
    go_ret2
    exact ⟨.slice none 0 0, by rw [HB1.out]; rfl, by rw [HR.out]; exact Fresh.nil _ _ _ (by decide), hB0.trans (hb1.mono hB0.size)⟩
  | true =>
    have hfew := repo_le hr
    have HTR := Lib.hid (show ∀ k (hk : k < r.commits.length), r.commits[k].tree.length ≤ 8 ∧ ∀ j (hj : j < r.commits[k].tree.length), r.commits[k].tree[j].text.length ≤ 10 from fun k hk => ⟨tree_len (repo_tree hr hk), fun j hj => textB_len (tree_file (repo_tree hr hk) hj).2⟩)
    have HB1 : Hid (keepTB r = decide ((allTexts r).length ≤ 12)) := by show _ = _; unfold keepTB; rw [hr]; rfl
    have HAL : Hid (allTexts r = addC [] r.commits) := rfl
    have HKT : Hid (keepTexts r = if keepTB r = true then allTexts r else []) := rfl
    go_enter Tryd.func30, Tryd.ntmps30
    go_wp2_with fail
    refine (l7Ok_is _ _ r _ (Rep.keep h0 hB0) (Rep.keep h1 hB0) hr).mono ?_
    rintro e w1 ⟨rfl, hb1⟩
    have q0 := keepc q0 hb1
    have hE := (hE.below (Nat.le_refl _) hb1).now
    have HB := hB0.trans (hb1.mono hB0.size)
    obtain ⟨cs, hcs⟩ : ∃ cs, cs = r.commits := ⟨_, rfl⟩
    have HTR : Hid (∀ k (hk : k < cs.length), cs[k].tree.length ≤ 8 ∧ ∀ j (hj : j < cs[k].tree.length), cs[k].tree[j].text.length ≤ 10) := by subst hcs; exact HTR
    have hs2 : w.heap.size + 2 ≤ w1.heap.size := by have := hb1.size; simp at this; omega
    rw [← hcs] at hs q0 hfew HAL hle
    try rw [← hcs]
    clear hcs hr hb1 q1 h0 hB0 hbl hsz1
    go_wp2
    go_loopw [4, 5] (fun out i wr => (∃ (k : Nat) (ol : List (List ByteArray)), k ≤ cs.length ∧ i = .int .i64 k ∧ ol.length ≤ 8 * k ∧ Fresh (w.heap.size + 1) wr.heap.size wr [out] ol ∧ wr.cell? ⟨w.heap.size, 0, none⟩ = some (.slice a cs.length cap) ∧ w.heap.size + 2 ≤ wr.heap.size ∧ Hid (allTexts r = addC ol (cs.drop k))) ∧ Below w.heap.size w wr) (fun _ i _ => cs.length - (intOf i).toNat)
    case atStart => exact ⟨⟨0, [], by omega, rfl, by simp, hE, q0, hs2, by show _ = _; rw [HAL.out]; rfl⟩, HB⟩
    case round =>
      clear hE q0 hs2
      obtain ⟨⟨k, ol, hk, rfl, hol, hF, q0, hs2, HA⟩, hb⟩ := hrel
      obtain ⟨a2, c2, rfl, _⟩ := hF.shape
      by_cases hlt : k < cs.length
      · have HN := Lib.hid (addC_next HA.out hlt)
        obtain ⟨htl, htx⟩ := HTR.out k hlt
        obtain ⟨g, off, ap, np, at_, nt, rfl, hc0, hc1, hc2, hpar, hz1, htr⟩ := hs.commit hlt
        obtain ⟨c, hc⟩ : ∃ c, c = cs[k] := ⟨_, rfl⟩
        have htx : ∀ j (hj : j < c.tree.length), c.tree[j].text.length ≤ 10 := by subst hc; exact htx
        rw [← hc] at hc0 hc1 hc2 hpar hz1 htr HN htl
        have HTX := Lib.hid htx
        have HC2 := Lib.hid hc2
        have hlt2 := htr.le
        clear hc htx hc0 hc1 hc2 hpar
        go_wp2
        go_loopw [4, 6] (fun out i wq => (∃ (m : Nat) (ol' : List (List ByteArray)), m ≤ c.tree.length ∧ i = .int .i64 m ∧ ol'.length ≤ 8 * k + m ∧ Fresh (w.heap.size + 1) wq.heap.size wq [out] ol' ∧ wq.cell? ⟨w.heap.size, 0, none⟩ = some (.slice (some ⟨g, off, none⟩) cs.length cap) ∧ w.heap.size + 2 ≤ wq.heap.size ∧ Hid (addF ol c.tree = addF ol' (c.tree.drop m))) ∧ Below w.heap.size w wq) (fun _ i _ => c.tree.length - (intOf i).toNat)
        case atStart => exact ⟨⟨0, ol, by omega, rfl, by omega, hF, q0, hs2, rfl⟩, hb⟩
        case round =>
          clear hF q0 hs2 hb
          obtain ⟨⟨m, ol', hm, rfl, hol', hF, q0, hs2, HI⟩, hb⟩ := hrel
          obtain ⟨a3, c3, rfl, _⟩ := hF.shape
          have hc2 := keepc HC2.out hb
          have hsz := hb.size
          by_cases hlm : m < c.tree.length
          · have HN2 := Lib.hid (addF_next HI.out hlm)
            obtain ⟨g4, off4, a4, c4, rfl, d0, d1, hz4, hft⟩ := (htr.keep hb).file hlm
            have hx10 := HTX.out m hlm
            obtain ⟨t, ht⟩ : ∃ t, t = c.tree[m].text := ⟨_, rfl⟩
            rw [← ht] at d1 hft hx10 HN2
            obtain ⟨wo, rfl⟩ : ∃ wo : World, wo = wr := ⟨_, rfl⟩
            have hfs := hF.rd
            have HFS := Lib.hid hF
            clear ht d0 hz4
            go_wp2
            go_loopw [8, 9] (fun l i wp => (∃ (n : Nat) (lb : Bool), n ≤ ol'.length ∧ i = .int .i64 n ∧ l = .bool lb ∧ Hid (hasT ol' t = (lb || hasT (ol'.drop n) t))) ∧ ∃ x, wp = wo.drewN x) (fun _ i _ => ol'.length - (intOf i).toNat)
            case atStart => exact ⟨⟨0, false, by omega, rfl, rfl, rfl⟩, 0, rfl⟩
            case round =>
              clear hF
              obtain ⟨⟨n, lb, hn, rfl, rfl, HX⟩, nx, rfl⟩ := hrel
              by_cases hln : n < ol'.length
              · have HY := Lib.hid (hasO_next HX.out hln)
                cases lb with
                | true =>
                  go_wp2
                  go_roundw
                  case rel => exact ⟨⟨n + 1, true, by omega, by go_num, rfl, by show _ = _; rw [HY.out]; rfl⟩, nx, by first | rfl | trivial⟩
                  case measure => simp [intOf] <;> omega
                | false =>
                  obtain ⟨g5, off5, a5, c5, he5, e1, hx5⟩ := elem_SS ((rd_slice_of hfs).2) hln
                  subst he5
                  obtain ⟨y, hy⟩ : ∃ y, y = ol'[n] := ⟨_, rfl⟩
                  rw [← hy] at e1 hx5 HY
                  clear hy
                  cases hd : decide (y = t) with
                  | true =>
                    rw [hd] at HY
                    go_wp2_with fail
                    refine (l1Same_is _ _ y t _ (hx5.drewN _).rd (hft.drewN _).rd hd).mono ?_
                    rintro e w3 ⟨rfl, x3, rfl⟩
                    go_wp2
                    go_roundw
                    case rel => exact ⟨⟨n + 1, true, by omega, by go_num, rfl, HY.out⟩, _, rfl⟩
                    case measure => simp [intOf] <;> omega
                  | false =>
                    rw [hd] at HY
                    go_wp2_with fail
                    refine (l1Same_is _ _ y t _ (hx5.drewN _).rd (hft.drewN _).rd hd).mono ?_
                    rintro e w3 ⟨rfl, x3, rfl⟩
                    go_wp2
                    go_roundw
                    case rel => exact ⟨⟨n + 1, false, by omega, by go_num, rfl, HY.out⟩, _, rfl⟩
                    case measure => simp [intOf] <;> omega
              · have HY := Lib.hid (hasO_end HX.out hln)
                have hF := HFS.out.drewN nx
                have hb := below_drewN hb nx
                have q0 : (wo.drewN nx).cell? ⟨w.heap.size, 0, none⟩ = _ := q0
                have hft := hft.drewN nx
                cases lb with
                | true =>
                  have HN2 : Hid (addF ol c.tree = addF ol' (c.tree.drop (m + 1))) := by show _ = _; rw [HN2.out, addT_t HY.out]
                  go_wp2
                  go_roundw
                  case rel => exact ⟨⟨m + 1, ol', by omega, by go_num, by omega, hF, q0, hs2, HN2.out⟩, hb⟩
                  case measure => simp [intOf] <;> omega
                | false =>
                  have HN2 : Hid (addF ol c.tree = addF (ol' ++ [t]) (c.tree.drop (m + 1))) := by show _ = _; rw [HN2.out, addT_f HY.out]
                  have hse : (wo.drewN nx).heap.size = wo.heap.size := rfl
                  have hEm := Fresh.empty (β := ByteArray) Nat.one_pos (wo.drewN nx).heap.size (wo.drewN nx) (Nat.le_refl _)
                  have hmx : t.length * 16 ≤ 140737488355328 := by omega
                  go_wp2_with (first
                    | (at_builtin; (refine wpList_app_leaf slz_string.slt rfl (.tmp 60) (.tmp 61) rfl rfl hEm (by simp) rfl rfl (hft.alloc _) (by simp; omega) (by unfold maxLen; simp; omega) ?_); intro a6 c6 w6 hG6; have hC6 := hG6.fresh; rw [List.nil_append, List.length_nil, Nat.zero_add] at hC6; have hF6 := (hF.alloc (.cells #[] (Tid.tid ByteArray))).belowm (Nat.le_refl _) hG6.below; have hs6 := hG6.below.size; simp at hs6)
                    | (at_builtin; go_must (refine wpList_app_one slz_SS.slt rfl (.tmp 59) (.tmp 63) rfl rfl (hF6.alloc _) (by first | omega | (simp; omega)) rfl (heap_alloc_new _ _) (hC6.alloc _) (by first | omega | (simp; omega)) (by omega) (by unfold maxLen; omega) ?_); intro a7 c7 w7 hG7))
                  have q6 : w6.cell? ⟨w.heap.size, 0, none⟩ = some (.slice (some ⟨g, off, none⟩) cs.length cap) := by rw [hG6.below.cell (p := ⟨w.heap.size, 0, none⟩) (by simp; omega)]; exact keepc q0 ((Below.refl _ _).alloc (Nat.le_refl _) _)
                  have q7 : w7.cell? ⟨w.heap.size, 0, none⟩ = some (.slice (some ⟨g, off, none⟩) cs.length cap) := by rw [hG7.below.cell (p := ⟨w.heap.size, 0, none⟩) (Nat.lt_succ_self _)]; exact keepc q6 ((Below.refl _ _).alloc (Nat.le_refl _) _)
                  have hb6 := (hb.alloc hb.size (.cells #[] (Tid.tid ByteArray))).trans (hG6.below.mono hb.size)
                  have hb7 := (hb6.alloc hb6.size _).trans (hG7.below.mono (Nat.le_succ _))
                  have hs7 : w.heap.size + 2 ≤ w7.heap.size := by have := hG7.below.size; simp at this; omega
                  go_roundw
                  case rel => exact ⟨⟨m + 1, ol' ++ [t], by omega, by go_num, by simp; omega, by have := hG7.fresh; simpa using this, q7, hs7, HN2.out⟩, hb7⟩
                  case measure => simp [intOf] <;> omega
          · have HE := Lib.hid (addF_end HI.out hlm)
            go_wp2
            go_roundw
            case rel => exact ⟨⟨k + 1, ol', by omega, by go_num, by omega, hF, q0, hs2, by show _ = _; rw [HN.out, HE.out]⟩, hb⟩
            case measure => simp [intOf] <;> omega
      · have HE := Lib.hid (addC_end HA.out hlt)
        by_cases h12 : ol.length ≤ 12
        · have d12 : decide ((12 : Int) < ol.length) = false := decide_eq_false (by omega)
          have HK : Hid (keepTB r = true) := by show _ = _; rw [HB1.out, HE.out]; exact decide_eq_true h12
          have HR : Hid (keepTexts r = ol) := by show _ = _; rw [HKT.out, HK.out, HE.out]; rfl
          clear h12
          go_wp2
          go_ret2
          exact ⟨_, by rw [HK.out]; rfl, by rw [HR.out]; exact hF.mono (Nat.le_succ _) (Nat.le_refl _), hb⟩
        · have d12 : decide ((12 : Int) < ol.length) = true := decide_eq_true (by omega)
          have HK : Hid (keepTB r = false) := by show _ = _; rw [HB1.out, HE.out]; exact decide_eq_false h12
          have HR : Hid (keepTexts r = []) := by show _ = _; rw [HKT.out, HK.out]; rfl
          clear h12
          go_wp2
          go_ret2
          exact ⟨.slice none 0 0, by rw [HK.out]; rfl, by rw [HR.out]; exact Fresh.nil _ _ _ (by decide), hb⟩
end Go.Proofs.YtmblockojnaffaaDoor
