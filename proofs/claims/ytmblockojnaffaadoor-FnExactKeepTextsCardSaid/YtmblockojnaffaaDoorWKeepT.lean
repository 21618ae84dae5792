/-
  Walks: all different texts of a repository.
-/
import Derived.Test.YtmblockojnaffaaDoorWEq
import Derived.Test.YtmblockojnaffaaDoorWCopy
import Derived.Test.YtmblockojnaffaaDoorHlpSS
import Derived.Test.YtmblockojnaffaaDoorPlKeepT
import Derived.Test.YtmblockojnaffaaDoorPlain4
import Derived.Test.YtmblockojnaffaaDoorWRepo
import Derived.Test.YtmblockojnaffaaDoorWRepoS
set_option linter.unusedVariables false
namespace Go.Proofs.YtmblockojnaffaaDoor
open Go.RowKit Go.Vc
open Go.Vc.Rep (rd)
open Go.Vc.Own (own)

set_option maxHeartbeats 1000000 in
theorem keepTexts1_is {S T : Nat → Prop} (v u : Value) (x t : List ByteArray) (b : Nat) (w : World) (hv : rd S w [v] x) (hc : w.cell? ⟨b, 1, none⟩ = some u) (hu : rd T w [u] t) {c : Bool} (h : decide (x = t) = c) :
    Calls Tryd.prog 73 #[v, .pointer (some ⟨b, 0, none⟩)] w fun e w' => e = .returned (.bool c) ∧ ∃ n, w' = w.drewN n := by
  obtain ⟨a1, c1, rfl, hs⟩ := rd_slice_elim (Rep.lt hv)
  obtain ⟨a2, c2, rfl, ht⟩ := rd_slice_elim (Rep.lt hu)
  go_enter Tryd.func73, Tryd.ntmps73
  go_wp2_with fail
  refine (slicesEqual_is _ _ x t _ hs.rd ht.rd h).mono ?_
  rintro e w3 ⟨rfl, n, rfl⟩
  go_wp2
  go_ret
  exact ⟨rfl, n, rfl⟩

set_option maxHeartbeats 4000000 in
set_option maxRecDepth 100000 in
theorem indexTexts_any {S T : Nat → Prop} (v u : Value) (xs : List (List ByteArray)) (t : List ByteArray) (b : Nat) (w : World) (hv : rd S w [v] xs) (hc : w.cell? ⟨b, 1, none⟩ = some u) (hu : rd T w [u] t) (hl : xs.length ≤ 1000) :
    Calls Tryd.prog 113 #[v, .func (.func 73) #[] #[.pointer (some ⟨b, 0, none⟩)]] w fun e w' => ∃ n : Int, e = .returned (.int .i64 n) ∧ decide (0 ≤ n) = hasT xs t ∧ Below w.heap.size w w' := by
  obtain ⟨a, cap, rfl, hs⟩ := rd_slice_elim (Rep.lt hv)
  have hu := Rep.lt hu
  have hle := hs.le
  go_enter Tryd.func113, Tryd.ntmps113
  go_wp2
  go_loopw [8] (fun i wr => (∃ k : Nat, k ≤ xs.length ∧ i = .int .i64 k ∧ Hid (hasT xs t = hasT (xs.drop k) t)) ∧ Below w.heap.size w wr) (fun i _ => xs.length - (intOf i).toNat)
  case atStart => exact ⟨⟨0, by omega, rfl, rfl⟩, Below.refl _ _⟩
  case round =>
    obtain ⟨⟨k, hk, rfl, HA⟩, hb⟩ := hrel
    have hsz := hb.size
    by_cases hlt : k < xs.length
    · obtain ⟨g, off, a1, c1, rfl, hc1, hx⟩ := elem_SS (hs.keep hb) hlt
      have hcb := keepc hc hb
      cases hd : decide (xs[k] = t) with
      | true =>
        have HN := Lib.hid (hasT_hit HA.out hlt (of_decide_eq_true hd))
        go_wp2_with fail
        refine (keepTexts1_is _ _ xs[k] t b _ hx.rd hcb (Rep.keep hu hb) hd).mono ?_
        rintro e w3 ⟨rfl, n, rfl⟩
        go_wp2
        go_ret
        exact ⟨_, rfl, by rw [HN.out]; exact decide_eq_true (by omega), below_drewN hb n⟩
      | false =>
        have HN := Lib.hid (hasT_next HA.out hlt (of_decide_eq_false hd))
        go_wp2_with fail
        refine (keepTexts1_is _ _ xs[k] t b _ hx.rd hcb (Rep.keep hu hb) hd).mono ?_
        rintro e w3 ⟨rfl, n, rfl⟩
        go_wp2
        go_roundw
        case rel => exact ⟨⟨k + 1, by omega, by go_num, HN.out⟩, below_drewN hb n⟩
        case measure => simp [intOf] <;> omega
    · have HN := Lib.hid (hasT_end HA.out hlt)
      go_wp2
      go_ret
      exact ⟨_, rfl, by rw [HN.out]; rfl, hb⟩

set_option maxHeartbeats 1000000 in
theorem hasTexts_is {S T : Nat → Prop} (v u : Value) (xs : List (List ByteArray)) (t : List ByteArray) (b : Nat) (w : World) (hv : rd S w [v] xs) (hc : w.cell? ⟨b, 1, none⟩ = some u) (hu : rd T w [u] t) (hl : xs.length ≤ 1000) {c : Bool} (h : hasT xs t = c) :
    Calls Tryd.prog 72 #[v, .func (.func 73) #[] #[.pointer (some ⟨b, 0, none⟩)]] w fun e w' => e = .returned (.bool c) ∧ Below w.heap.size w w' := by
  go_enter Tryd.func72, Tryd.ntmps72
  go_wp2_with fail
  refine (indexTexts_any _ _ xs t b _ hv hc hu hl).mono ?_
  rintro e w3 ⟨n, rfl, hn, hb⟩
  rw [h] at hn
  go_wp2
  go_ret
  exact ⟨ret_bool (by rw [← hn]), hb⟩

set_option maxHeartbeats 8000000 in
set_option maxRecDepth 100000 in
theorem implKeepTexts {S T : Nat → Prop} (r : Repo) (v0 v1 : Value) (w : World) (h0 : rd S w [v0] r.commits) (h1 : rd T w [v1] r.heads) (hS : shortR r) (hM : ML w) :
    Calls Tryd.prog 31 #[.agg #[v0, v1]] w fun e w' => ∃ v', e = .returned (.tuple #[v', .bool (keepTB r)]) ∧ Fresh w.heap.size w'.heap.size w' [v'] (keepTexts r) ∧ Below w.heap.size w w' := by
  have h0 := Rep.lt h0
  have h1 := Rep.lt h1
  obtain ⟨a, cap, rfl, hs⟩ := rd_slice_elim h0
  have hle := hs.le
  have hB0 : Below w.heap.size w (w.alloc (.cells #[.slice a r.commits.length cap, v1] 32)) := ((Below.refl _ _).alloc (by simp <;> omega) _)
  have q0 : (w.alloc (.cells #[.slice a r.commits.length cap, v1] 32)).cell? ⟨w.heap.size, 0, none⟩ = some (.slice a r.commits.length cap) := by rw [cell_of_row _ _ 0 _ _ (0, 0) (heap_alloc_new _ _)]; rfl
  have q1 : (w.alloc (.cells #[.slice a r.commits.length cap, v1] 32)).cell? ⟨w.heap.size, 1, none⟩ = some v1 := by rw [cell_of_row _ _ 1 _ _ (0, 0) (heap_alloc_new _ _)]; rfl
  cases hr : repoB r with
  | false =>
    have HB1 : Hid (keepTB r = false) := by show _ = _; unfold keepTB; rw [hr]; rfl
    have HR : Hid (keepTexts r = []) := by show _ = _; unfold keepTexts; rw [HB1.out]; rfl
    go_enter Tryd.func31, Tryd.ntmps31
    go_wp2_with fail
    refine (repoOk_is _ _ r _ (Rep.keep h0 hB0) (Rep.keep h1 hB0) hS (hM.keep hB0) hr).mono ?_
    rintro e w1 ⟨rfl, hb1⟩
    go_wp2
    go_ret2
    exact ⟨.slice none 0 0, by rw [HB1.out]; rfl, by rw [HR.out]; exact Fresh.nil _ _ _ (by decide), hB0.trans (hb1.mono hB0.size)⟩
  | true =>
    have hfew := repo_le hr
    have HTR := Lib.hid (show ∀ k (hk : k < r.commits.length), r.commits[k].tree.length ≤ 8 ∧ ∀ j (hj : j < r.commits[k].tree.length), r.commits[k].tree[j].text.length ≤ 10 from fun k hk => ⟨tree_len (repo_tree hr hk), fun j hj => textB_len (tree_file (repo_tree hr hk) hj).2⟩)
    have HB1 : Hid (keepTB r = decide ((allTexts r).length ≤ 12)) := by show _ = _; unfold keepTB; rw [hr]; rfl
    have HAL : Hid (allTexts r = addC [] r.commits) := rfl
    have HKT : Hid (keepTexts r = if keepTB r = true then allTexts r else []) := rfl
    go_enter Tryd.func31, Tryd.ntmps31
    go_wp2_with fail
    refine (repoOk_is _ _ r _ (Rep.keep h0 hB0) (Rep.keep h1 hB0) hS (hM.keep hB0) hr).mono ?_
    rintro e w1 ⟨rfl, hb1⟩
    have q0 := keepc q0 hb1
    have HB := hB0.trans (hb1.mono hB0.size)
    obtain ⟨cs, hcs⟩ : ∃ cs, cs = r.commits := ⟨_, rfl⟩
    have HTR : Hid (∀ k (hk : k < cs.length), cs[k].tree.length ≤ 8 ∧ ∀ j (hj : j < cs[k].tree.length), cs[k].tree[j].text.length ≤ 10) := by subst hcs; exact HTR
    rw [← hcs] at hs q0 hfew HAL hle
    try rw [← hcs]
    clear hcs hr hb1 q1 h0
    go_wp2
    go_loopw [4, 15] (fun out i wr => (∃ (k : Nat) (ol : List (List ByteArray)), k ≤ cs.length ∧ i = .int .i64 k ∧ ol.length ≤ 8 * k ∧ Fresh w1.heap.size wr.heap.size wr [out] ol ∧ Hid (allTexts r = addC ol (cs.drop k))) ∧ Below w1.heap.size w1 wr) (fun _ i _ => cs.length - (intOf i).toNat)
    case atStart => exact ⟨⟨0, [], by omega, rfl, by simp, Fresh.nil _ _ _ (by decide), by show _ = _; rw [HAL.out]; rfl⟩, Below.refl _ _⟩
    case round =>
      obtain ⟨⟨k, ol, hk, rfl, hol, hF, HA⟩, hbr⟩ := hrel
      obtain ⟨a2, c2, rfl, _⟩ := hF.shape
      have hb := HB.trans (hbr.mono HB.size)
      have hsr := hbr.size
      by_cases hlt : k < cs.length
      · have HN := Lib.hid (addC_next HA.out hlt)
        obtain ⟨htl, htx⟩ := HTR.out k hlt
        have hsk := hs.keep hb
        obtain ⟨g, off, ap, np, at_, nt, rfl, hc0, hc1, hc2, hpar, hz1, htr⟩ := hsk.commit hlt
        obtain ⟨c, hc⟩ : ∃ c, c = cs[k] := ⟨_, rfl⟩
        have htx : ∀ j (hj : j < c.tree.length), c.tree[j].text.length ≤ 10 := by subst hc; exact htx
        rw [← hc] at hc0 hc1 hc2 hpar hz1 htr HN htl
        have HTX := Lib.hid htx
        have hlt2 := htr.le
        obtain ⟨wb, hwb⟩ : ∃ wb, wb = wr.alloc (.cells #[.slice ap c.parents.length np, .string c.who, .slice at_ c.tree.length nt] 74) := ⟨_, rfl⟩
        obtain ⟨hBb, hsb, hq⟩ := boxed (vs := [.slice ap c.parents.length np, .string c.who, .slice at_ c.tree.length nt]) hwb
        have s2 := hq 2 _ rfl
        have hF := (hF.below (Nat.le_refl _) hBb).now
        have hbr := hbr.trans (hBb.mono hsr)
        have htr := htr.keep (hBb.mono hb.size)
        have hb := hb.trans (hBb.mono hb.size)
        have hsr := hbr.size
        clear hq hc htx
        subst hwb
        go_wp2
        clear s2 hc0 hc1 hc2 hpar hsk
        go_loopw [4, 22] (fun out i wq => (∃ (m : Nat) (ol' : List (List ByteArray)), m ≤ c.tree.length ∧ i = .int .i64 m ∧ ol'.length ≤ 8 * k + m ∧ Fresh w1.heap.size wq.heap.size wq [out] ol' ∧ IsSlice (fun b => b < w.heap.size) wq at_ nt c.tree ∧ Hid (addF ol c.tree = addF ol' (c.tree.drop m))) ∧ Below w1.heap.size w1 wq) (fun _ i _ => c.tree.length - (intOf i).toNat)
        case atStart => exact ⟨⟨0, ol, by omega, rfl, by omega, hF, htr, rfl⟩, hbr⟩
        case round =>
          clear hF htr hb hbr hsr
          obtain ⟨⟨m, ol', hm, rfl, hol', hF, htr, HI⟩, hbq⟩ := hrel
          obtain ⟨a3, c3, rfl, _⟩ := hF.shape
          have hb := HB.trans (hbq.mono HB.size)
          have hsq := hbq.size
          by_cases hlm : m < c.tree.length
          · have HN2 := Lib.hid (addF_next HI.out hlm)
            obtain ⟨g4, off4, a4, c4, rfl, d0, d1, hz4, hft⟩ := htr.file hlm
            have hx10 := HTX.out m hlm
            obtain ⟨f, hf⟩ : ∃ f, f = c.tree[m] := ⟨_, rfl⟩
            rw [← hf] at d0 d1 hz4 hft hx10 HN2
            obtain ⟨wf, hwf⟩ : ∃ wf, wf = wr.alloc (.cells #[.string f.path, .slice a4 f.text.length c4] 79) := ⟨_, rfl⟩
            obtain ⟨hBf, hsf, hqf⟩ := boxed (vs := [.string f.path, .slice a4 f.text.length c4]) hwf
            have t1 := hqf 1 _ rfl
            have hF := (hF.below (Nat.le_refl _) hBf).now
            have hbq := hbq.trans (hBf.mono hsq)
            have htr := htr.keep (hBf.mono hb.size)
            have hft := hft.keep (hBf.mono hb.size)
            have hb := hb.trans (hBf.mono hb.size)
            have hsq := hbq.size
            clear hqf hf
            subst hwf
            cases hh : hasT ol' f.text with
            | true =>
              have HN2 : Hid (addF ol c.tree = addF ol' (c.tree.drop (m + 1))) := by show _ = _; rw [HN2.out, addT_t hh]
              go_wp2_with fail
              refine (hasTexts_is _ _ ol' f.text _ _ hF.rd t1 hft.rd (by omega) hh).mono ?_
              rintro e w3 ⟨rfl, hb3⟩
              go_wp2
              go_roundw
              case rel => exact ⟨⟨m + 1, ol', by omega, by go_num, by omega, (hF.below (Nat.le_refl _) hb3).now, htr.keep (hb3.mono hb.size), HN2.out⟩, hbq.trans (hb3.mono hsq)⟩
              case measure => simp [intOf] <;> omega
            | false =>
              have HN2 : Hid (addF ol c.tree = addF (ol' ++ [f.text]) (c.tree.drop (m + 1))) := by show _ = _; rw [HN2.out, addT_f hh]
              go_wp2_with fail
              refine (hasTexts_is _ _ ol' f.text _ _ hF.rd t1 hft.rd (by omega) hh).mono ?_
              rintro e w3 ⟨rfl, hb3⟩
              have t1 := keepc t1 hb3
              have hF := (hF.below (Nat.le_refl _) hb3).now
              have hbq := hbq.trans (hb3.mono hsq)
              have htr := htr.keep (hb3.mono hb.size)
              have hft := hft.keep (hb3.mono hb.size)
              have hb := hb.trans (hb3.mono hb.size)
              have hsq := hbq.size
              go_wp2_with fail
              refine (copyText_any _ f.text _ hft.rd (by omega)).mono ?_
              rintro e w5 ⟨a5, c5, rfl, hC, hb5⟩
              have hF := hF.below (Nat.le_refl _) hb5
              have hbq := hbq.trans (hb5.mono hsq)
              have htr := htr.keep (hb5.mono hb.size)
              have hs5 := hb5.size
              go_wp2_with (at_builtin; go_must (refine wpList_app_one slz_SS.slt rfl (.tmp 30) (.tmp 34) rfl rfl (hF.alloc _) (by simp; omega) rfl (heap_alloc_new _ _) (hC.alloc _) hsq (by omega) (by unfold maxLen; omega) ?_); intro a6 c6 w6 hG6)
              go_roundw
              case rel => exact ⟨⟨m + 1, ol' ++ [f.text], by omega, by go_num, by simp; omega, by have := hG6.fresh; simpa using this, (htr.alloc _).frame (fun b hb' hl => ⟨hG6.below.block b (by have := HB.size; omega), hb'⟩), HN2.out⟩, (hbq.alloc (by omega) _).trans hG6.below⟩
              case measure => simp [intOf] <;> omega
          · have HE := Lib.hid (addF_end HI.out hlm)
            go_wp2
            go_roundw
            case rel => exact ⟨⟨k + 1, ol', by omega, by go_num, by omega, hF, by show _ = _; rw [HN.out, HE.out]⟩, hbq⟩
            case measure => simp [intOf] <;> omega
      · have HE := Lib.hid (addC_end HA.out hlt)
        by_cases h12 : ol.length ≤ 12
        · have d12 : decide ((12 : Int) < ol.length) = false := decide_eq_false (by omega)
          have HK : Hid (keepTB r = true) := by show _ = _; rw [HB1.out, HE.out]; exact decide_eq_true h12
          have HR : Hid (keepTexts r = ol) := by show _ = _; rw [HKT.out, HK.out, HE.out]; rfl
          clear h12
          go_wp2
          go_ret2
          exact ⟨_, by rw [HK.out]; rfl, by rw [HR.out]; exact hF.mono HB.size (Nat.le_refl _), hb⟩
        · have d12 : decide ((12 : Int) < ol.length) = true := decide_eq_true (by omega)
          have HK : Hid (keepTB r = false) := by show _ = _; rw [HB1.out, HE.out]; exact decide_eq_false h12
          have HR : Hid (keepTexts r = []) := by show _ = _; rw [HKT.out, HK.out]; rfl
          clear h12
          go_wp2
          go_ret2
          exact ⟨.slice none 0 0, by rw [HK.out]; rfl, by rw [HR.out]; exact Fresh.nil _ _ _ (by decide), hb⟩
end Go.Proofs.YtmblockojnaffaaDoor
