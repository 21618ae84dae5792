/-
  Walks: lines that refer to files that are not there, as the reference has them.
-/
import Derived.Test.YtfpneepnnoldeaaDoorWLost
set_option linter.unusedVariables false
namespace Go.Proofs.YtfpneepnnoldeaaDoor
open Go.RowKit Go.Vc
open Go.Vc.Rep (rd)
open Go.Vc.Own (own)

set_option maxHeartbeats 4000000 in
set_option maxRecDepth 100000 in
theorem l16Lost_any {S : Nat → Prop} (v : Value) (t : List File) (w : World) (hv : rd S w [v] t) (h8 : t.length ≤ 8) (hx : ∀ f, f ∈ t → f.text.length ≤ 10) :
    Calls Tryd.prog 91 #[v] w fun e w' => ∃ v', e = .returned v' ∧ Fresh w.heap.size w'.heap.size w' [v'] (lostA t t) ∧ Below w.heap.size w w' := by
  have hv := Rep.lt hv
  obtain ⟨a, cap, rfl, hs⟩ := rd_slice_elim hv
  have hE := Fresh.empty (β := Lost) (by decide) w.heap.size w (Nat.le_refl _)
  have H10 := Lib.hid hx
  clear hx
  go_enter Tryd.func91, Tryd.ntmps91
  go_wp2
  go_loopw [3, 4] (fun out i wr => (∃ (k : Nat) (ol : List Lost), k ≤ t.length ∧ i = .int .i64 k ∧ ol.length ≤ 10 * k ∧ Fresh w.heap.size wr.heap.size wr [out] ol ∧ Hid (lostA t t = ol ++ lostA t (t.drop k))) ∧ Below w.heap.size w wr) (fun _ i _ => t.length - (intOf i).toNat)
  case atStart => exact ⟨⟨0, [], by omega, rfl, by simp, hE.now, rfl⟩, (Below.refl _ _).alloc (Nat.le_refl _) _⟩
  case round =>
    clear hE
    obtain ⟨⟨k, ol, hk, rfl, hol, hF, HA⟩, hbr⟩ := hrel
    have hsr := hbr.size
    by_cases hlt : k < t.length
    · have HN := Lib.hid (lostA_next HA.out hlt)
      obtain ⟨g, off, a1, c1, rfl, hc1, hc2, hz1, hft⟩ := hs.file hlt
      have hx10 := H10.out t[k] (List.getElem_mem hlt)
      obtain ⟨f, hf⟩ : ∃ f, f = t[k] := ⟨_, rfl⟩
      rw [← hf] at hc1 hc2 hz1 hft hx10 HN
      clear hf
      obtain ⟨wo, hwo⟩ : ∃ wo : World, wo = wr := ⟨_, rfl⟩
      rw [← hwo] at hbr hF hsr
      rw [← hwo]
      clear hwo
      go_wp2
      go_loopw [3, 5] (fun out j wr => (∃ (m : Nat) (pl : List Lost), m ≤ f.text.length ∧ j = .int .i64 m ∧ pl.length ≤ 10 * k + m ∧ Fresh w.heap.size wr.heap.size wr [out] pl ∧ Hid (lostA t t = pl ++ (lostL t f.path (f.text.drop m) m ++ lostA t (t.drop (k + 1))))) ∧ Below w.heap.size w wr) (fun _ j _ => f.text.length - (intOf j).toNat)
      case atStart => exact ⟨⟨0, ol, by omega, rfl, by omega, hF, HN.out⟩, hbr⟩
      case round =>
        obtain ⟨⟨m, pl, hm, rfl, hpl, hF, HA⟩, hbr⟩ := hrel
        obtain ⟨a2, c2, rfl, _⟩ := hF.shape
        have hsr := hbr.size
        have hc1 := keepc hc1 hbr
        have hc2 := keepc hc2 hbr
        by_cases hlm : m < f.text.length
        · obtain ⟨g2, off2, rfl, hc, hz⟩ := (hft.keep hbr).str hlm
          obtain ⟨s, hs'⟩ : ∃ s, s = f.text[m] := ⟨_, rfl⟩
          have HY := Lib.hid (show badB t s = true → lostA t t = (pl ++ [⟨f.path, m, refT s⟩]) ++ (lostL t f.path (f.text.drop (m + 1)) (m + 1) ++ lostA t (t.drop (k + 1))) from fun hb => by subst hs'; exact lost_yes HA.out hlm hb)
          have HNo := Lib.hid (show badB t s = false → lostA t t = pl ++ (lostL t f.path (f.text.drop (m + 1)) (m + 1) ++ lostA t (t.drop (k + 1))) from fun hb => by subst hs'; exact lost_no HA.out hlm hb)
          rw [← hs'] at hc hz
          clear hs'
          obtain ⟨r, hr⟩ : ∃ r, refT s = r := ⟨_, rfl⟩
          have hzr : r.size ≤ maxLen := by rw [← hr]; exact Nat.le_trans (refT_size s) hz
          have hik : I64 ((m : Nat) : Int) := i64_nat (by omega)
          have HR := Lib.hid hr
          rw [hr] at HY
          cases hg : getT t r with
          | some x =>
            have hbb : badB t s = false := by
              by_cases he : refT s = ⟨#[]⟩
              · exact bad_none he
              · rw [bad_some (M := some x) he (by rw [hr]; exact hg)]; rfl
            have HN2 := Lib.hid (HNo.out hbb)
            clear hbb
            go_wp2_with fail
            refine (l16Ref_is _ _ hz HR.out).mono ?_
            rintro e w3 ⟨rfl, rfl⟩
            clear hr
            go_wp2_with fail
            refine (l4Get_some _ t _ _ (hs.keep hbr).rd hg).mono ?_
            rintro e w4 ⟨vg, rfl, _, rfl⟩
            clear hg
            by_cases he : r = ⟨#[]⟩
            · have he2 := empty_t he
              clear he
              go_wp2
              go_roundw
              case rel => exact ⟨⟨m + 1, pl, by omega, by go_num, by omega, hF, HN2.out⟩, hbr⟩
              case measure => simp [intOf] <;> omega
            · have he2 := empty_f he
              clear he
              go_wp2
              go_roundw
              case rel => exact ⟨⟨m + 1, pl, by omega, by go_num, by omega, hF, HN2.out⟩, hbr⟩
              case measure => simp [intOf] <;> omega
          | none =>
            by_cases he : r = ⟨#[]⟩
            · have HN2 := Lib.hid (HNo.out (bad_none (by rw [hr]; exact he)))
              have he2 := empty_t he
              clear he
              go_wp2_with fail
              refine (l16Ref_is _ _ hz HR.out).mono ?_
              rintro e w3 ⟨rfl, rfl⟩
              clear hr
              go_wp2_with fail
              refine (l4Get_none _ t _ _ (hs.keep hbr).rd hg).mono ?_
              rintro e w4 ⟨vg, rfl, _, rfl⟩
              clear hg
              go_wp2
              go_roundw
              case rel => exact ⟨⟨m + 1, pl, by omega, by go_num, by omega, hF, HN2.out⟩, hbr⟩
              case measure => simp [intOf] <;> omega
            · have HN2 := Lib.hid (HY.out (by rw [bad_some (M := none) (by rw [hr]; exact he) (by rw [hr]; exact hg)]; rfl))
              have he2 := empty_f he
              clear he
              go_wp2_with fail
              refine (l16Ref_is _ _ hz HR.out).mono ?_
              rintro e w3 ⟨rfl, rfl⟩
              clear hr
              go_wp2_with fail
              refine (l4Get_none _ t _ _ (hs.keep hbr).rd hg).mono ?_
              rintro e w4 ⟨vg, rfl, _, rfl⟩
              clear hg
              go_wp2_with (at_builtin; go_must (refine wpList_app_one slz_lost.slt rfl (.tmp 47) (.tmp 56) rfl rfl (hF.alloc _) (le_alloc hsr _) rfl (heap_alloc_new _ _) (Fresh.leaf (m := wr.heap.size) (own_lost (p := ⟨f.path, m, r⟩) hz1 hik hzr)) hsr (by omega) (by unfold maxLen; omega) ?_); intro a5 c5 w5 hG5)
              go_roundw
              case rel => exact ⟨⟨m + 1, pl ++ [(⟨f.path, m, r⟩ : Lost)], by omega, by go_num, by simp; omega, by have := hG5.fresh; simpa using this, HN2.out⟩, (hbr.alloc hsr _).trans hG5.below⟩
              case measure => simp [intOf] <;> omega
        · have HE := Lib.hid (lost_end HA.out hlm)
          go_wp2
          go_roundw
          case rel => exact ⟨⟨k + 1, pl, by omega, by go_num, by omega, hF, HE.out⟩, hbr⟩
          case measure => simp [intOf] <;> omega
    · have HN := Lib.hid (lostA_end HA.out hlt)
      go_wp2
      go_ret
      exact ⟨_, rfl, by rw [HN.out]; exact hF, hbr⟩
theorem specRuleLost {S : Nat → Prop} (v : Value) (t : List File) (w : World) (hv : rd S w [v] t) :
    Calls Tryd.prog 50 #[v] w fun e w' => ∃ v', e = .returned v' ∧ Fresh w.heap.size w'.heap.size w' [v'] (ruleLost t) ∧ Below w.heap.size w w' := by
  have hv := Rep.lt hv
  cases hb : treeB t with
  | false =>
    have HD := Lib.hid (show ruleLost t = [] by rw [ruleLost, hb]; rfl)
    go_enter Tryd.func50, Tryd.ntmps50
    go_wp2_with fail
    refine (l4Ok_is _ t _ hv hb).mono ?_
    rintro e w1 ⟨rfl, hb1⟩
    go_wp2
    go_ret
    exact ⟨_, rfl, by rw [HD.out]; exact Fresh.nil _ _ _ (by decide), hb1⟩
  | true =>
    have HD := Lib.hid (show ruleLost t = lostA t t by rw [ruleLost, hb]; rfl)
    obtain ⟨h8, h10⟩ := tree_files hb
    go_enter Tryd.func50, Tryd.ntmps50
    go_wp2_with fail
    refine (l4Ok_is _ t _ hv hb).mono ?_
    rintro e w1 ⟨rfl, hb1⟩
    go_wp2_with fail
    refine (l16Lost_any _ t _ (Rep.keep hv hb1) h8 h10).mono ?_
    rintro e w2 ⟨v2, rfl, hL, hb2⟩
    go_wp2
    go_ret
    exact ⟨_, rfl, by rw [HD.out]; exact hL.mono hb1.size (Nat.le_refl _), hb1.trans (hb2.mono hb1.size)⟩
end Go.Proofs.YtfpneepnnoldeaaDoor
