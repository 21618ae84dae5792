/-
  Walks: lines that refer to files that are not there.
-/
import Derived.Test.YtegknjcifmenpaaDoorVGR
import Derived.Test.YtegknjcifmenpaaDoorVTR
import Derived.Test.YtegknjcifmenpaaDoorWTreeS
import Derived.Test.YtegknjcifmenpaaDoorVI
set_option linter.unusedVariables false
namespace Go.Proofs.YtegknjcifmenpaaDoor
open Go.RowKit Go.Vc
open Go.Vc.Rep (rd)
open Go.Vc.Own (own)

set_option maxHeartbeats 4000000 in
set_option maxRecDepth 100000 in
theorem lost_any {S T : Nat → Prop} (v : Value) (t : List File) (p : ByteArray) (tv : Value) (xs : List ByteArray) (w : World) (hv : rd S w [v] t) (hx : ∀ f, f ∈ t → f.text.length ≤ 10) (hp : p.size ≤ maxLen) (ht : rd T w [tv] xs) (hl : xs.length ≤ 10) :
    Calls Tryd.prog 44 #[v, .agg #[.string p, tv]] w fun e w' => ∃ v', e = .returned v' ∧ Fresh w.heap.size w'.heap.size w' [v'] (lostL t p xs 0) ∧ Below w.heap.size w w' := by
  have hv := Rep.lt hv
  obtain ⟨a, cap, rfl, hs⟩ := rd_slice_elim (Rep.lt ht)
  have hle := hs.le
  obtain ⟨wb, hwb⟩ : ∃ wb, wb = w.alloc (.cells #[.string p, .slice a xs.length cap] 51) := ⟨_, rfl⟩
  obtain ⟨hB0, hsb, hq⟩ := boxed (vs := [.string p, .slice a xs.length cap]) hwb
  have q0 := hq 0 _ rfl
  have q1 := hq 1 _ rfl
  have HW := Lib.hid hwb
  clear hq hwb
  go_enter Tryd.func44, Tryd.ntmps44
  go_wp2
  rw [← HW.out]
  go_loopw [5, 15] (fun out i wr => (∃ (k : Nat) (ol : List Lost), k ≤ xs.length ∧ i = .int .i64 k ∧ ol.length ≤ k ∧ Fresh wb.heap.size wr.heap.size wr [out] ol ∧ Hid (lostL t p xs 0 ++ [] = ol ++ (lostL t p (xs.drop k) k ++ []))) ∧ Below wb.heap.size wb wr) (fun _ i _ => xs.length - (intOf i).toNat)
  case atStart => exact ⟨⟨0, [], by omega, rfl, by simp, Fresh.nil _ _ _ (by decide), rfl⟩, Below.refl _ _⟩
  case round =>
    obtain ⟨⟨k, ol, hk, rfl, hol, hF, HA⟩, hbr⟩ := hrel
    obtain ⟨a2, c2, rfl, _⟩ := hF.shape
    have hsr := hbr.size
    have hb := hB0.trans (hbr.mono hB0.size)
    have hsz := hb.size
    have q0 := keepc q0 hbr
    by_cases hlt : k < xs.length
    · obtain ⟨g, off, rfl, hc, hz⟩ := (hs.keep hb).str hlt
      obtain ⟨s, hs'⟩ : ∃ s, s = xs[k] := ⟨_, rfl⟩
      have HY := Lib.hid (show badB t s = true → lostL t p xs 0 ++ [] = (ol ++ [⟨p, k, refT s⟩]) ++ (lostL t p (xs.drop (k + 1)) (k + 1) ++ []) from fun hb => by subst hs'; exact lost_yes HA.out hlt hb)
      have HN := Lib.hid (show badB t s = false → lostL t p xs 0 ++ [] = ol ++ (lostL t p (xs.drop (k + 1)) (k + 1) ++ []) from fun hb => by subst hs'; exact lost_no HA.out hlt hb)
      rw [← hs'] at hc hz
      clear hs'
      by_cases he : refT s = ⟨#[]⟩
      · have HN2 := Lib.hid (HN.out (bad_none he))
        go_wp2_with fail
        refine (refers_none _ _ hz he).mono ?_
        rintro e w3 ⟨u, rfl, rfl⟩
        clear he
        go_wp2
        go_roundw
        case rel => exact ⟨⟨k + 1, ol, by omega, by go_num, by omega, hF, HN2.out⟩, hbr⟩
        case measure => simp [intOf] <;> omega
      · cases hg : getT t (refT s) with
        | some x =>
          have HN2 := Lib.hid (HN.out (by rw [bad_some he hg]; rfl))
          go_wp2_with fail
          refine (refers_some _ _ hz he).mono ?_
          rintro e w3 ⟨rfl, rfl⟩
          go_wp2_with fail
          refine (get_some _ t _ _ (Rep.keep hv hb) hx hg).mono ?_
          rintro e w4 ⟨vg, rfl, _, hb4⟩
          have hF := (hF.below (Nat.le_refl _) hb4).now
          have hbr := hbr.trans (hb4.mono hsr)
          clear he hg
          go_wp2
          go_roundw
          case rel => exact ⟨⟨k + 1, ol, by omega, by go_num, by omega, hF, HN2.out⟩, hbr⟩
          case measure => simp [intOf] <;> omega
        | none =>
          have HN2 := Lib.hid (HY.out (by rw [bad_some he hg]; rfl))
          have hzr : (refT s).size ≤ maxLen := Nat.le_trans (refT_size s) hz
          have hik : I64 ((k : Nat) : Int) := i64_nat (by omega)
          go_wp2_with fail
          refine (refers_some _ _ hz he).mono ?_
          rintro e w3 ⟨rfl, rfl⟩
          go_wp2_with fail
          refine (get_none _ t _ _ (Rep.keep hv hb) hx hg).mono ?_
          rintro e w4 ⟨vg, rfl, hb4⟩
          have hF := (hF.below (Nat.le_refl _) hb4).now
          have hbr := hbr.trans (hb4.mono hsr)
          have hsr := hbr.size
          have q0 := keepc q0 hb4
          clear he hg
          obtain ⟨r, hr⟩ : ∃ r, r = refT s := ⟨_, rfl⟩
          rw [← hr] at HN2 hzr
          try rw [← hr]
          clear hr
          go_wp2_with (at_builtin; go_must (refine wpList_app_one slz_lost.slt rfl (.tmp 35) (.tmp 41) rfl rfl (hF.alloc _) (le_alloc hsr _) rfl (heap_alloc_new _ _) (Fresh.leaf (m := w4.heap.size) (own_lost (p := ⟨p, k, r⟩) hp hik hzr)) hsr (by omega) (by unfold maxLen; omega) ?_); intro a5 c5 w5 hG5)
          go_roundw
          case rel => exact ⟨⟨k + 1, ol ++ [(⟨p, k, r⟩ : Lost)], by omega, by go_num, by simp; omega, by have := hG5.fresh; simpa using this, HN2.out⟩, (hbr.alloc hsr _).trans hG5.below⟩
          case measure => simp [intOf] <;> omega
    · have HN := Lib.hid (lost_end HA.out hlt)
      go_wp2
      go_ret
      exact ⟨_, rfl, by have h := HN.out; rw [List.append_nil, List.append_nil] at h; rw [h]; exact hF.mono (by omega) (Nat.le_refl _), hb⟩

set_option maxHeartbeats 4000000 in
set_option maxRecDepth 100000 in
theorem implRuleLost {S : Nat → Prop} (v : Value) (t : List File) (w : World) (hv : rd S w [v] t) (hS : ∀ f, f ∈ t → ShortS f.path) (hM : ML w) :
    Calls Tryd.prog 15 #[v] w fun e w' => ∃ v', e = .returned v' ∧ Fresh w.heap.size w'.heap.size w' [v'] (ruleLost t) ∧ Below w.heap.size w w' := by
  have hv := Rep.lt hv
  cases hb : treeB t with
  | false =>
    have HD := Lib.hid (show ruleLost t = [] by rw [ruleLost, hb]; rfl)
    go_enter Tryd.func15, Tryd.ntmps15
    go_wp2_with fail
    refine (treeOk_is _ t _ hv hS hM hb).mono ?_
    rintro e w1 ⟨rfl, hb1⟩
    go_wp2
    go_ret
    exact ⟨_, rfl, by rw [HD.out]; exact Fresh.nil _ _ _ (by decide), hb1⟩
  | true =>
    have HD := Lib.hid (show ruleLost t = lostA t t by rw [ruleLost, hb]; rfl)
    obtain ⟨h8, h10⟩ := tree_files hb
    have H10 := Lib.hid h10
    obtain ⟨a, cap, rfl, hs⟩ := rd_slice_elim hv
    go_enter Tryd.func15, Tryd.ntmps15
    go_wp2_with fail
    refine (treeOk_is _ t _ hv hS hM hb).mono ?_
    rintro e w1 ⟨rfl, hb1⟩
    have hs1 := hb1.size
    clear h10 hb
    go_wp2
    go_loopw [3, 11] (fun out i wr => (∃ (k : Nat) (ol : List Lost), k ≤ t.length ∧ i = .int .i64 k ∧ ol.length ≤ 10 * k ∧ Fresh w1.heap.size wr.heap.size wr [out] ol ∧ Hid (lostA t t = ol ++ lostA t (t.drop k))) ∧ Below w1.heap.size w1 wr) (fun _ i _ => t.length - (intOf i).toNat)
    case atStart => exact ⟨⟨0, [], by omega, rfl, by simp, Fresh.nil _ _ _ (by decide), rfl⟩, Below.refl _ _⟩
    case round =>
      obtain ⟨⟨k, ol, hk, rfl, hol, hF, HA⟩, hbr⟩ := hrel
      obtain ⟨a2, c2, rfl, _⟩ := hF.shape
      have hsr := hbr.size
      have hb := hb1.trans (hbr.mono hs1)
      by_cases hlt : k < t.length
      · have HN := Lib.hid (lostA_next HA.out hlt)
        obtain ⟨g, off, a1, c1, rfl, hc1, hc2, hz1, hft⟩ := (hs.keep hb).file hlt
        have hx10 := H10.out t[k] (List.getElem_mem hlt)
        have hll := lostL_len t t[k].path t[k].text 0
        obtain ⟨f, hf⟩ : ∃ f, f = t[k] := ⟨_, rfl⟩
        rw [← hf] at hc1 hc2 hz1 hft hx10 HN hll
        clear hf
        have hB1 := (Below.refl wr.heap.size wr).alloc (Nat.le_refl _) (.cells #[.string f.path, .slice a1 f.text.length c1] 51)
        go_wp2_with fail
        refine (lost_any _ t f.path _ f.text _ (hs.keep (hb.trans (hB1.mono hb.size))).rd H10.out hz1 (hft.keep (hB1.mono hb.size)).rd hx10).mono ?_
        rintro e w3 ⟨vl, rfl, hL, hb3⟩
        have hb3 := hB1.trans (hb3.mono hB1.size)
        have hF := (hF.below (Nat.le_refl _) hb3).now
        have hbr := hbr.trans (hb3.mono hsr)
        have hsr := hbr.size
        obtain ⟨a3, c3, rfl, hLs⟩ := hL.shape
        go_wp2_with (at_builtin; go_must (refine wpList_app_leaf slz_lost.slt rfl (.tmp 15) (.tmp 18) rfl rfl hF hsr rfl rfl hLs (by omega) (by unfold maxLen; omega) ?_); intro a5 c5 w5 hG5)
        have hG := hG5.fresh
        go_roundw
        case rel => exact ⟨⟨k + 1, ol ++ lostL t f.path f.text 0, by omega, by go_num, by rw [List.length_append]; omega, by simpa using hG, by show _ = _; rw [HN.out, List.append_assoc]⟩, hbr.trans hG5.below⟩
        case measure => simp [intOf] <;> omega
      · have HN := Lib.hid (lostA_end HA.out hlt)
        go_wp2
        go_ret
        exact ⟨_, rfl, by rw [HD.out, HN.out]; exact hF.mono hs1 (Nat.le_refl _), hb⟩
end Go.Proofs.YtegknjcifmenpaaDoor
