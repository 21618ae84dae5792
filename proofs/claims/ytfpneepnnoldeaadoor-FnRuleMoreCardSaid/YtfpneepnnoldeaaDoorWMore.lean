/-
  Walks: which lines refer to files that are not there, and did not do so before.
-/
import Derived.Test.YtfpneepnnoldeaaDoorWLost
import Derived.Test.YtfpneepnnoldeaaDoorVPB
import Derived.Test.YtfpneepnnoldeaaDoorWPlace
import Derived.Test.YtfpneepnnoldeaaDoorWM2
import Derived.Test.YtfpneepnnoldeaaDoorVL
set_option linter.unusedVariables false
namespace Go.Vc
open Go.RowKit
open Rep (rd)
open Own (own)
theorem filtZ_yes {α : Type} {P : α → Bool} {M ol xs Z : List α} {k : Nat} (H : M = ol ++ ((xs.drop k).filter P ++ Z)) (h : k < xs.length) (hp : P xs[k] = true) : M = (ol ++ [xs[k]]) ++ ((xs.drop (k + 1)).filter P ++ Z) := by
  rw [H, drop_cons xs k h, List.filter_cons_of_pos hp]; simp
theorem filtZ_no {α : Type} {P : α → Bool} {M ol xs Z : List α} {k : Nat} (H : M = ol ++ ((xs.drop k).filter P ++ Z)) (h : k < xs.length) (hp : P xs[k] = false) : M = ol ++ ((xs.drop (k + 1)).filter P ++ Z) := by
  rw [H, drop_cons xs k h, List.filter_cons_of_neg (by rw [hp]; simp)]
theorem filtZ_end {α : Type} {P : α → Bool} {M ol xs Z : List α} {k : Nat} (H : M = ol ++ ((xs.drop k).filter P ++ Z)) (h : ¬ k < xs.length) : M = ol ++ Z := by
  rw [H, drop_nil xs k h]; rfl
theorem known_next {old now : List ByteArray} {M ol : List Int} {ls : List Lost} {k i : Nat} (H : M = ol ++ knownL old now (ls.drop k)) (h : k < ls.length) (hi : ls[k].line = (i : Int)) (hl : i < (matchT old now).length) : M = (ol ++ [(matchT old now)[i]]) ++ knownL old now (ls.drop (k + 1)) := by
  rw [H, drop_cons ls k h, knownL, List.map_cons, hi, Int.toNat_natCast]
  simp [knownL, List.getD, hl]
theorem known_end {old now : List ByteArray} {M ol : List Int} {ls : List Lost} {k : Nat} (H : M = ol ++ knownL old now (ls.drop k)) (h : ¬ k < ls.length) : M = ol := by
  rw [H, drop_nil ls k h]; simp [knownL]
theorem FreshX.upX {α : Type} [Own α] {H : Nat → Prop} {B m m' : Nat} {w : World} {vs : List Value} {x : α} (h : FreshX H B m w vs x) (hm : m ≤ m') : FreshX H B m' w vs x := by
  obtain ⟨F, ho, hn, hb, hh⟩ := h
  exact ⟨F, ho, hn, fun b hb' => ⟨(hb b hb').1, by have := hb b hb'; omega⟩, hh⟩
/-- a literal of one -/
theorem lit_lost1 {w : World} {g : Nat} {e : TypeId} {x : Lost} (h : w.heap[g]? = some (.cells #[.string x.path, .int .i64 x.line, .string x.ref] e (0, 0))) (h0 : x.path.size ≤ maxLen) (h1 : I64 x.line) (h2 : x.ref.size ≤ maxLen) :
    IsSlice (fun b => b = g) w (some ⟨g, 0, none⟩) 1 [x] := by
  refine ⟨Nat.le_refl _, by unfold maxLen; simp, fun i hi => ?_⟩
  have hi0 : i = 0 := by simpa using hi
  subst hi0
  refine ⟨g, 0, [.string x.path, .int .i64 x.line, .string x.ref], rfl, rfl, fun j u hu => ?_, Rep.mono (fun b hb => by cases hb) (Own.rd_of (own_lost (w := w) h0 h1 h2)), by decide⟩
  rw [cell_of_row w g _ _ e (0, 0) h]
  simpa using hu
end Go.Vc
namespace Go.Proofs.YtfpneepnnoldeaaDoor
open Go.RowKit Go.Vc
open Go.Vc.Rep (rd)
open Go.Vc.Own (own)

set_option maxHeartbeats 1000000 in
theorem contains_is {S : Nat → Prop} (u : Value) (xs : List Int) (n : Int) (w : World) (hu : rd S w [u] xs) (hl : xs.length ≤ 1000000) {b : Bool} (h : lineIn xs n = b) :
    Calls Tryd.prog 94 #[u, .int .i64 n] w fun e w' => e = .returned (.bool b) ∧ w = w' := by
  obtain ⟨p, hp⟩ : ∃ p, place xs n = p := ⟨_, rfl⟩
  have HB : Hid (b = decide (0 ≤ p)) := by show _ = _; rw [← h, ← hp]; rfl
  have HP := Lib.hid hp
  clear hp h
  cases hd : decide (0 ≤ p) with
  | true =>
    rw [hd] at HB
    have hq : 0 ≤ p := of_decide_eq_true hd
    go_enter Tryd.func94, Tryd.ntmps94
    go_wp2_with fail
    refine (index_is _ xs n _ hu hl HP.out).mono ?_
    rintro e w1 ⟨rfl, hw⟩
    subst hw
    go_wp2
    go_ret
    exact ⟨by rw [HB.out]; simp, rfl⟩
  | false =>
    rw [hd] at HB
    have hq : ¬ 0 ≤ p := of_decide_eq_false hd
    go_enter Tryd.func94, Tryd.ntmps94
    go_wp2_with fail
    refine (index_is _ xs n _ hu hl HP.out).mono ?_
    rintro e w1 ⟨rfl, hw⟩
    subst hw
    go_wp2
    go_ret
    exact ⟨by rw [HB.out]; simp, rfl⟩

set_option maxHeartbeats 8000000 in
set_option maxRecDepth 100000 in
theorem implRuleMore {S T : Nat → Prop} (v : Value) (a : List File) (u : Value) (b : List File) (w : World) (hv : rd S w [v] a) (hu : rd T w [u] b) (hSa : ∀ f, f ∈ a → ShortS f.path) (hSb : ∀ f, f ∈ b → ShortS f.path) (hM : ML w) :
    Calls Tryd.prog 52 #[v, u] w fun e w' => ∃ v', e = .returned v' ∧ Fresh w.heap.size w'.heap.size w' [v'] (ruleMore a b) ∧ Below w.heap.size w w' := by
  have hv := Rep.lt hv
  have hu := Rep.lt hu
  cases hb : treeB a with
  | false =>
    have HD := Lib.hid (ruleMore_bad (a := a) (b := b) (by rw [hb]; rfl))
    go_enter Tryd.func52, Tryd.ntmps52
    go_wp2_with fail
    refine (treeOk_is _ a _ hv hSa hM hb).mono ?_
    rintro e w1 ⟨rfl, hb1⟩
    go_wp2
    go_ret
    exact ⟨_, rfl, by rw [HD.out]; exact Fresh.nil _ _ _ (by decide), hb1⟩
  | true =>
    cases hb' : treeB b with
    | false =>
      have HD := Lib.hid (ruleMore_bad (a := a) (b := b) (by rw [hb']; simp))
      go_enter Tryd.func52, Tryd.ntmps52
      go_wp2_with fail
      refine (treeOk_is _ a _ hv hSa hM hb).mono ?_
      rintro e w1 ⟨rfl, hb1⟩
      go_wp2_with fail
      refine (treeOk_is _ b _ (Rep.keep hu hb1) hSb (hM.keep hb1) hb').mono ?_
      rintro e w2 ⟨rfl, hb2⟩
      go_wp2
      go_ret
      exact ⟨_, rfl, by rw [HD.out]; exact Fresh.nil _ _ _ (by decide), hb1.trans (hb2.mono hb1.size)⟩
    | true =>
      have HD := Lib.hid (show ruleMore a b = moreA a b b by rw [ruleMore, hb, hb']; rfl)
      obtain ⟨ha8, ha10⟩ := tree_files hb
      obtain ⟨hb8, hb10⟩ := tree_files hb'
      have HA10 := Lib.hid ha10
      have HO10 := Lib.hid (show ∀ p x, getT a p = some x → x.length ≤ 10 from fun p x hx => by obtain ⟨g, hg, _, rfl⟩ := getT_mem hx; exact ha10 g hg)
      have HB10 := Lib.hid hb10
      obtain ⟨ab, cb, rfl, hs⟩ := rd_slice_elim hu
      have hvv := Lib.hid hv
      go_enter Tryd.func52, Tryd.ntmps52
      go_wp2_with fail
      refine (treeOk_is _ a _ hv hSa hM hb).mono ?_
      rintro e w1 ⟨rfl, hb1⟩
      go_wp2_with fail
      refine (treeOk_is _ b _ (hs.keep hb1).rd hSb (hM.keep hb1) hb').mono ?_
      rintro e w2 ⟨rfl, hb2⟩
      have HB := hb1.trans (hb2.mono hb1.size)
      have hs2 := HB.size
      clear ha10 hb10 hb hb' hb1 hb2 hM hSa hSb
      go_wp2
      go_loopw [5, 26] (fun out i wr => (∃ (k : Nat) (ol : List Lost), k ≤ b.length ∧ i = .int .i64 k ∧ ol.length ≤ 10 * k ∧ Fresh w2.heap.size wr.heap.size wr [out] ol ∧ Hid (moreA a b b = ol ++ moreA a b (b.drop k))) ∧ Below w2.heap.size w2 wr) (fun _ i _ => b.length - (intOf i).toNat)
      case atStart => exact ⟨⟨0, [], by omega, rfl, by simp, Fresh.nil _ _ _ (by decide), rfl⟩, Below.refl _ _⟩
      case round =>
        obtain ⟨⟨k, ol, hk, rfl, hol, hF, HA⟩, hbr⟩ := hrel
        obtain ⟨a2, c2, rfl, _⟩ := hF.shape
        obtain ⟨wo, rfl⟩ : ∃ wo : World, wo = wr := ⟨_, rfl⟩
        have hsr := hbr.size
        have hb := HB.trans (hbr.mono hs2)
        by_cases hlt : k < b.length
        · have HN := Lib.hid (moreA_next HA.out hlt)
          obtain ⟨g, off, a1, c1, rfl, hc1, hc2, hz1, hft⟩ := (hs.keep hb).file hlt
          have hx10 := HB10.out b[k] (List.getElem_mem hlt)
          obtain ⟨f, hf⟩ : ∃ f, f = b[k] := ⟨_, rfl⟩
          rw [← hf] at hc1 hc2 hz1 hft hx10 HN
          clear hf
          obtain ⟨wc, hwc⟩ : ∃ wc, wc = wo.alloc (.cells #[.string f.path, .slice a1 f.text.length c1] 45) := ⟨_, rfl⟩
          obtain ⟨hB1, hsc, hq1⟩ := boxed (vs := [.string f.path, .slice a1 f.text.length c1]) hwc
          have p0 := hq1 0 _ rfl
          have p1 := hq1 1 _ rfl
          have hF := hF.below (Nat.le_refl _) hB1
          have hbr := hbr.trans (hB1.mono hsr)
          have hbc := HB.trans (hbr.mono hs2)
          have hsr' := hbr.size
          have hftc := (hft.keep (hB1.mono hb.size)).lt
          have HWC := Lib.hid hwc
          clear hq1 hwc hsc hft hb hsr
          -- what is known, in whichever world comes
          have hwos : wo.heap.size < wc.heap.size := by rw [HWC.out]; simp
          cases hg : getT a f.path with
          | none =>
            have HK := Lib.hid (known_none hg)
            go_wp2_with fail
            rw [← HWC.out]
            refine (get_none _ a _ _ (Rep.keep hvv.out hbc) HA10.out hg).mono ?_
            rintro e w4 ⟨vg, rfl, hbx⟩
            have hkx : rd (fun b => wo.heap.size ≤ b ∧ b < w4.heap.size) w4 [.slice none 0 0] ([] : List Int) := rd_slice_nil _ _
            clear hg
            have hsx := hbx.size
            have q0 := keepc p0 hbx
            have q1 := keepc p1 hbx
            have hbcx := hbc.trans (hbx.mono hbc.size)
            have hscx := hbcx.size
            go_wp2_with fail
            refine (lost_any _ b f.path _ f.text _ (hs.keep hbcx).rd HB10.out hz1 (hftc.below (Nat.le_refl _) hbx).rd hx10).mono ?_
            rintro e w5 ⟨vl, rfl, hL, hb5⟩
            have hs5 := hb5.size
            obtain ⟨ls, hls⟩ : ∃ ls, ls = lostL b f.path f.text 0 := ⟨_, rfl⟩
            have hll := lostL_len b f.path f.text 0
            have HN : Hid (moreA a b b = ol ++ ((ls.drop 0).filter (fun x => !lineIn ([] : List Int) x.line) ++ moreA a b (b.drop (k + 1)))) := by show _ = _; rw [HN.out, moreF, ← hls, HK.out]; rfl
            rw [← hls] at hL hll
            clear hls
            have hlr : rd (fun b => wo.heap.size ≤ b ∧ b < w5.heap.size) w5 [vl] ls := Rep.mono (fun b hb => ⟨by have := hwos; omega, hb.2⟩) hL.rd2
            obtain ⟨a3, c3, rfl, hls⟩ := rd_slice_elim hlr
            have hkr : rd (fun b => wo.heap.size ≤ b ∧ b < w5.heap.size) w5 [.slice none 0 0] ([] : List Int) := Rep.mono (fun b hb => ⟨hb.1, by omega⟩) (Rep.below hkx (Nat.le_refl _) hb5)
            have hFX : FreshX (fun b => wo.heap.size ≤ b ∧ b < w5.heap.size) w2.heap.size wo.heap.size w5 [.slice a2 ol.length c2] ol := (((hF.belowm (by have := hwos; omega) (hbx.mono (Nat.le_refl _))).belowm (by have := hwos; omega) hb5)).off (fun b hb => .inr hb.1)
            have hB5 : Below w2.heap.size w2 w5 := hbr.trans ((hbx.trans (hb5.mono hsx)).mono hsr')
            have hsB5 := hB5.size
            clear q0 q1 hL hlr hb5
            go_wp2
            go_loopw [5, 66] (fun out i wr => (∃ (m : Nat) (pl : List Lost), m ≤ ls.length ∧ i = .int .i64 m ∧ pl.length ≤ 10 * k + m ∧ FreshX (fun b => wo.heap.size ≤ b ∧ b < w5.heap.size) w2.heap.size wr.heap.size wr [out] pl ∧ (∀ b, wo.heap.size ≤ b ∧ b < w5.heap.size → wr.heap[b]? = w5.heap[b]?) ∧ w5.heap.size ≤ wr.heap.size ∧ Hid (moreA a b b = pl ++ ((ls.drop m).filter (fun x => !lineIn ([] : List Int) x.line) ++ moreA a b (b.drop (k + 1))))) ∧ Below w2.heap.size w2 wr) (fun _ i _ => ls.length - (intOf i).toNat)
            case atStart => exact ⟨⟨0, ol, by omega, rfl, by omega, hFX.upX (by omega), fun _ _ => rfl, Nat.le_refl _, HN.out⟩, hB5⟩
            case round =>
              obtain ⟨⟨m, pl, hm, rfl, hpl, hFX, hold, hszr, HA⟩, hbr⟩ := hrel
              obtain ⟨a44, c44, rfl, _⟩ := hFX.fresh.shape
              have hsr := hbr.size
              by_cases hlm : m < ls.length
              · have hls' : IsSlice (fun b => wo.heap.size ≤ b ∧ b < w5.heap.size) wr a3 c3 ls := hls.frame fun b hb _ => ⟨hold b hb, hb⟩
                have hkr' : rd (fun b => wo.heap.size ≤ b ∧ b < w5.heap.size) wr [.slice none 0 0] ([] : List Int) := Rep.frame (fun b hb _ => ⟨hold b hb, hb⟩) hkr
                obtain ⟨g3, off3, rfl, hd0, hd1, hd2, k0, k1, k2⟩ := hls'.lost hlm
                have hY := fun hp => filtZ_yes (P := fun x : Lost => !lineIn ([] : List Int) x.line) HA.out hlm hp
                have hN := fun hp => filtZ_no (P := fun x : Lost => !lineIn ([] : List Int) x.line) HA.out hlm hp
                obtain ⟨x, hx⟩ : ∃ x, x = ls[m] := ⟨_, rfl⟩
                rw [← hx] at hd0 hd1 hd2 k0 k1 k2 hY hN
                have HY := Lib.hid hY
                have HNo := Lib.hid hN
                clear hx hY hN HA
                obtain ⟨wd, hwd⟩ : ∃ wd, wd = wr.alloc (.cells #[.string x.path, .int .i64 x.line, .string x.ref] 63) := ⟨_, rfl⟩
                obtain ⟨hBd, hsd, hqd⟩ := boxed (vs := [.string x.path, .int .i64 x.line, .string x.ref]) hwd
                have r0 := hqd 0 _ rfl
                have r1 := hqd 1 _ rfl
                have r2 := hqd 2 _ rfl
                have hkd := Rep.below hkr' (Nat.le_refl _) hBd
                have hFd := hFX.below (Nat.le_refl _) hBd
                have hbd := hbr.trans (hBd.mono hsr)
                have hsd2 := hbd.size
                have holdd : ∀ b, wo.heap.size ≤ b ∧ b < w5.heap.size → wd.heap[b]? = w5.heap[b]? := fun b hb => (hBd.block b (by omega)).trans (hold b hb)
                have hszd : w5.heap.size ≤ wd.heap.size := by omega
                have HWD := Lib.hid hwd
                clear hqd hwd hsd
                cases hc : lineIn ([] : List Int) x.line with
                | true =>
                  have HN2 := Lib.hid (HNo.out (by rw [hc]; rfl))
                  go_wp2_with fail
                  rw [← HWD.out]
                  refine (contains_is _ ([] : List Int) _ _ hkd (by simp) hc).mono ?_
                  rintro e w6 ⟨rfl, rfl⟩
                  go_wp2
                  go_roundw
                  case rel => exact ⟨⟨m + 1, pl, by omega, by go_num, by omega, hFd.upX (by have := hBd.size; omega), holdd, hszd, HN2.out⟩, hbd⟩
                  case measure => simp [intOf] <;> omega
                | false =>
                  have HN2 := Lib.hid (HY.out (by rw [hc]; rfl))
                  go_wp2_with fail
                  rw [← HWD.out]
                  refine (contains_is _ ([] : List Int) _ _ hkd (by simp) hc).mono ?_
                  rintro e w6 ⟨rfl, rfl⟩
                  go_wp2_with (at_builtin; go_must (refine wpList_app_leafX slz_lost.slt rfl (.tmp 75) (.tmp 77) rfl rfl (hFd.alloc _) (fun b hb => by simp; omega) (by simp; omega) rfl rfl (lit_lost1 (heap_alloc_new _ _) k0 k1 k2) (by simp; omega) (by unfold maxLen; simp; omega) ?_); intro a6 c6 w6 hG6)
                  have hG := hG6.fresh
                  have hs6 := hG6.below.size
                  go_roundw
                  case rel => exact ⟨⟨m + 1, pl ++ [x], by omega, by go_num, by simp; omega, by simpa using hG, fun b hb => (hG6.holes b (by simp; omega) hb).trans ((Below.heap_alloc wd _ b (by omega)).trans (holdd b hb)), by simp at hs6; omega, HN2.out⟩, (hbd.alloc hsd2 _).trans hG6.below⟩
                  case measure => simp [intOf] <;> omega
              · have HE := Lib.hid (filtZ_end HA.out hlm)
                go_wp2
                go_roundw
                case rel => exact ⟨⟨k + 1, pl, by omega, by go_num, by omega, hFX.fresh, HE.out⟩, hbr⟩
                case measure => simp [intOf] <;> omega
          | some old =>
            have HK := Lib.hid (known_some hg)
            have hol10 := HO10.out _ old hg
            go_wp2_with fail
            rw [← HWC.out]
            refine (get_some _ a _ _ (Rep.keep hvv.out hbc) HA10.out hg).mono ?_
            rintro e w4 ⟨vg, rfl, hO, hb4⟩
            have hs4 := hb4.size
            have q0 := keepc p0 hb4
            have q1 := keepc p1 hb4
            have hbc4 := hbc.trans (hb4.mono hbc.size)
            obtain ⟨a8, c8, rfl, hOs⟩ := hO.shape
            have hOs := hOs.lt
            clear hg
            go_wp2_with fail
            refine (match_any _ _ old f.text _ hOs.rd (hftc.below (Nat.le_refl _) hb4).rd hol10 hx10).mono ?_
            rintro e w6 ⟨vm, rfl, hM, hb6⟩
            have hs6 := hb6.size
            have q0 := keepc q0 hb6
            have q1 := keepc q1 hb6
            have hbc6 := hbc4.trans (hb6.mono hbc4.size)
            obtain ⟨a9, c9, rfl, hMs⟩ := hM.shape
            have hMs := hMs.lt
            have hml := matchT_len old f.text
            go_wp2_with fail
            refine (lost_any _ a f.path _ old _ (Rep.keep hvv.out hbc6) HA10.out hz1 (hOs.keep hb6).rd hol10).mono ?_
            rintro e w7 ⟨vk, rfl, hKL, hb7⟩
            have hs7 := hb7.size
            obtain ⟨a7, c7, rfl, hKs⟩ := hKL.shape
            have hKs := hKs.lt
            have hMs := (hMs.keep hb7).lt
            have hMEM := Lib.hid (show ∀ x, x ∈ lostL a f.path old 0 → ∃ i, i < old.length ∧ x.line = ((i : Nat) : Int) from fun x hx => by
              obtain ⟨_, i, h1, h2⟩ := lostL_mem hx
              exact ⟨i, h1, by rw [h2, Nat.zero_add]⟩)
            have hkll := lostL_len a f.path old 0
            obtain ⟨ks, hks⟩ : ∃ ks, ks = lostL a f.path old 0 := ⟨_, rfl⟩
            rw [← hks] at hKs hMEM hkll HK
            try rw [← hks]
            clear hKL hks hM hO q0 q1
            go_wp2
            go_loopw [8, 49] (fun kn i wr => (∃ (m : Nat) (kl : List Int), m ≤ ks.length ∧ i = .int .i64 m ∧ kl.length ≤ m ∧ Fresh w7.heap.size wr.heap.size wr [kn] kl ∧ Hid (knownL old f.text ks = kl ++ knownL old f.text (ks.drop m))) ∧ Below w7.heap.size w7 wr) (fun _ i _ => ks.length - (intOf i).toNat)
            case atStart => exact ⟨⟨0, [], by omega, rfl, by simp, Fresh.nil _ _ _ (by decide), rfl⟩, Below.refl _ _⟩
            case round =>
              obtain ⟨⟨m, kl, hm, rfl, hkl, hFk, HA⟩, hbk⟩ := hrel
              obtain ⟨a4, c4, rfl, _⟩ := hFk.shape
              have hsk := hbk.size
              by_cases hlm : m < ks.length
              · obtain ⟨g3, off3, rfl, hd0, hd1, hd2, k0, k1, k2⟩ := (hKs.keep hbk).lost hlm
                obtain ⟨i, hi, hline⟩ := hMEM.out _ (List.getElem_mem hlm)
                have HN2 := Lib.hid (known_next HA.out hlm hline (by rw [hml]; exact hi))
                have hil : i < (matchT old f.text).length := by rw [hml]; exact hi
                obtain ⟨g9, off9, rfl, hd9, hI9⟩ := (hMs.keep hbk).int hil
                rw [hline] at hd1
                obtain ⟨n, hn⟩ : ∃ n, n = (matchT old f.text)[i] := ⟨_, rfl⟩
                rw [← hn] at hd9 hI9 HN2
                obtain ⟨x, hx⟩ : ∃ x, x = ks[m] := ⟨_, rfl⟩
                rw [← hx] at hd0 hd2 k0 k1 k2
                clear hx hn
                obtain ⟨wd, hwd⟩ : ∃ wd, wd = wr.alloc (.cells #[.string x.path, .int .i64 (i : Int), .string x.ref] 63) := ⟨_, rfl⟩
                obtain ⟨hBd, hsd, hqd⟩ := boxed (vs := [.string x.path, .int .i64 (i : Int), .string x.ref]) hwd
                have r1 := hqd 1 _ rfl
                have hd9 := keepc hd9 hBd
                have hFd := (hFk.below (Nat.le_refl _) hBd).now
                have hbd := hbk.trans (hBd.mono hsk)
                have hsd2 := hbd.size
                clear hqd hsd
                subst hwd
                have hml2 : (i : Int) < ((matchT old f.text).length : Int) := by omega
                go_wp2_with (at_builtin; go_must (refine wpList_app_one slz_int.slt rfl (.tmp 53) (.tmp 59) rfl rfl (hFd.alloc _) (le_alloc hsd2 _) rfl (heap_new_at (by simp)) (Fresh.leaf (α := Int) (m := wr.heap.size) (own_intm n hI9 _)) hsd2 (by omega) (by unfold maxLen; omega) ?_); intro a5 c5 w5 hG5)
                go_roundw
                case rel => exact ⟨⟨m + 1, kl ++ [n], by omega, by go_num, by simp; omega, by have := hG5.fresh; simpa using this, HN2.out⟩, (hbd.alloc hsd2 _).trans hG5.below⟩
                case measure => simp [intOf] <;> omega
              · have HE := Lib.hid (known_end HA.out hlm)
                have HK : Hid (knownT a f = kl) := by show _ = _; rw [HK.out, HE.out]
                have hbx : Below wc.heap.size wc wr := hb4.trans ((hb6.trans ((hb7.trans (hbk.mono hs7)).mono hs6)).mono hs4)
                have hkx : rd (fun b => wo.heap.size ≤ b ∧ b < wr.heap.size) wr [.slice a4 kl.length c4] kl := Rep.mono (fun b hb => ⟨by omega, hb.2⟩) hFk.rd2
                obtain ⟨wx, hwx⟩ : ∃ wx : World, wx = wr := ⟨_, rfl⟩
                rw [← hwx] at hbx hkx
                rw [← hwx]
                clear hwx hFk hbk HE hsk
                have hsx := hbx.size
                have q0 := keepc p0 hbx
                have q1 := keepc p1 hbx
                have hbcx := hbc.trans (hbx.mono hbc.size)
                have hscx := hbcx.size
                go_wp2_with fail
                refine (lost_any _ b f.path _ f.text _ (hs.keep hbcx).rd HB10.out hz1 (hftc.below (Nat.le_refl _) hbx).rd hx10).mono ?_
                rintro e w5 ⟨vl, rfl, hL, hb5⟩
                have hs5 := hb5.size
                obtain ⟨ls, hls⟩ : ∃ ls, ls = lostL b f.path f.text 0 := ⟨_, rfl⟩
                have hll := lostL_len b f.path f.text 0
                have HN : Hid (moreA a b b = ol ++ ((ls.drop 0).filter (fun x => !lineIn kl x.line) ++ moreA a b (b.drop (k + 1)))) := by show _ = _; rw [HN.out, moreF, ← hls, HK.out]; rfl
                rw [← hls] at hL hll
                clear hls
                have hlr : rd (fun b => wo.heap.size ≤ b ∧ b < w5.heap.size) w5 [vl] ls := Rep.mono (fun b hb => ⟨by have := hwos; omega, hb.2⟩) hL.rd2
                obtain ⟨a3, c3, rfl, hls⟩ := rd_slice_elim hlr
                have hkr : rd (fun b => wo.heap.size ≤ b ∧ b < w5.heap.size) w5 [.slice a4 kl.length c4] kl := Rep.mono (fun b hb => ⟨hb.1, by omega⟩) (Rep.below hkx (Nat.le_refl _) hb5)
                have hFX : FreshX (fun b => wo.heap.size ≤ b ∧ b < w5.heap.size) w2.heap.size wo.heap.size w5 [.slice a2 ol.length c2] ol := (((hF.belowm (by have := hwos; omega) (hbx.mono (Nat.le_refl _))).belowm (by have := hwos; omega) hb5)).off (fun b hb => .inr hb.1)
                have hB5 : Below w2.heap.size w2 w5 := hbr.trans ((hbx.trans (hb5.mono hsx)).mono hsr')
                have hsB5 := hB5.size
                clear q0 q1 hL hlr hb5
                go_wp2
                go_loopw [5, 66] (fun out i wr => (∃ (m : Nat) (pl : List Lost), m ≤ ls.length ∧ i = .int .i64 m ∧ pl.length ≤ 10 * k + m ∧ FreshX (fun b => wo.heap.size ≤ b ∧ b < w5.heap.size) w2.heap.size wr.heap.size wr [out] pl ∧ (∀ b, wo.heap.size ≤ b ∧ b < w5.heap.size → wr.heap[b]? = w5.heap[b]?) ∧ w5.heap.size ≤ wr.heap.size ∧ Hid (moreA a b b = pl ++ ((ls.drop m).filter (fun x => !lineIn kl x.line) ++ moreA a b (b.drop (k + 1))))) ∧ Below w2.heap.size w2 wr) (fun _ i _ => ls.length - (intOf i).toNat)
                case atStart => exact ⟨⟨0, ol, by omega, rfl, by omega, hFX.upX (by omega), fun _ _ => rfl, Nat.le_refl _, HN.out⟩, hB5⟩
                case round =>
                  obtain ⟨⟨m, pl, hm, rfl, hpl, hFX, hold, hszr, HA⟩, hbr⟩ := hrel
                  obtain ⟨a44, c44, rfl, _⟩ := hFX.fresh.shape
                  have hsr := hbr.size
                  by_cases hlm : m < ls.length
                  · have hls' : IsSlice (fun b => wo.heap.size ≤ b ∧ b < w5.heap.size) wr a3 c3 ls := hls.frame fun b hb _ => ⟨hold b hb, hb⟩
                    have hkr' : rd (fun b => wo.heap.size ≤ b ∧ b < w5.heap.size) wr [.slice a4 kl.length c4] kl := Rep.frame (fun b hb _ => ⟨hold b hb, hb⟩) hkr
                    obtain ⟨g3, off3, rfl, hd0, hd1, hd2, k0, k1, k2⟩ := hls'.lost hlm
                    have hY := fun hp => filtZ_yes (P := fun x : Lost => !lineIn kl x.line) HA.out hlm hp
                    have hN := fun hp => filtZ_no (P := fun x : Lost => !lineIn kl x.line) HA.out hlm hp
                    obtain ⟨x, hx⟩ : ∃ x, x = ls[m] := ⟨_, rfl⟩
                    rw [← hx] at hd0 hd1 hd2 k0 k1 k2 hY hN
                    have HY := Lib.hid hY
                    have HNo := Lib.hid hN
                    clear hx hY hN HA
                    obtain ⟨wd, hwd⟩ : ∃ wd, wd = wr.alloc (.cells #[.string x.path, .int .i64 x.line, .string x.ref] 63) := ⟨_, rfl⟩
                    obtain ⟨hBd, hsd, hqd⟩ := boxed (vs := [.string x.path, .int .i64 x.line, .string x.ref]) hwd
                    have r0 := hqd 0 _ rfl
                    have r1 := hqd 1 _ rfl
                    have r2 := hqd 2 _ rfl
                    have hkd := Rep.below hkr' (Nat.le_refl _) hBd
                    have hFd := hFX.below (Nat.le_refl _) hBd
                    have hbd := hbr.trans (hBd.mono hsr)
                    have hsd2 := hbd.size
                    have holdd : ∀ b, wo.heap.size ≤ b ∧ b < w5.heap.size → wd.heap[b]? = w5.heap[b]? := fun b hb => (hBd.block b (by omega)).trans (hold b hb)
                    have hszd : w5.heap.size ≤ wd.heap.size := by omega
                    have HWD := Lib.hid hwd
                    clear hqd hwd hsd
                    cases hc : lineIn kl x.line with
                    | true =>
                      have HN2 := Lib.hid (HNo.out (by rw [hc]; rfl))
                      go_wp2_with fail
                      rw [← HWD.out]
                      refine (contains_is _ kl _ _ hkd (by omega) hc).mono ?_
                      rintro e w6 ⟨rfl, rfl⟩
                      go_wp2
                      go_roundw
                      case rel => exact ⟨⟨m + 1, pl, by omega, by go_num, by omega, hFd.upX (by have := hBd.size; omega), holdd, hszd, HN2.out⟩, hbd⟩
                      case measure => simp [intOf] <;> omega
                    | false =>
                      have HN2 := Lib.hid (HY.out (by rw [hc]; rfl))
                      go_wp2_with fail
                      rw [← HWD.out]
                      refine (contains_is _ kl _ _ hkd (by omega) hc).mono ?_
                      rintro e w6 ⟨rfl, rfl⟩
                      go_wp2_with (at_builtin; go_must (refine wpList_app_leafX slz_lost.slt rfl (.tmp 75) (.tmp 77) rfl rfl (hFd.alloc _) (fun b hb => by simp; omega) (by simp; omega) rfl rfl (lit_lost1 (heap_alloc_new _ _) k0 k1 k2) (by simp; omega) (by unfold maxLen; simp; omega) ?_); intro a6 c6 w6 hG6)
                      have hG := hG6.fresh
                      have hs6 := hG6.below.size
                      go_roundw
                      case rel => exact ⟨⟨m + 1, pl ++ [x], by omega, by go_num, by simp; omega, by simpa using hG, fun b hb => (hG6.holes b (by simp; omega) hb).trans ((Below.heap_alloc wd _ b (by omega)).trans (holdd b hb)), by simp at hs6; omega, HN2.out⟩, (hbd.alloc hsd2 _).trans hG6.below⟩
                      case measure => simp [intOf] <;> omega
                  · have HE := Lib.hid (filtZ_end HA.out hlm)
                    go_wp2
                    go_roundw
                    case rel => exact ⟨⟨k + 1, pl, by omega, by go_num, by omega, hFX.fresh, HE.out⟩, hbr⟩
                    case measure => simp [intOf] <;> omega
        · have HN := Lib.hid (moreA_end HA.out hlt)
          go_wp2
          go_ret
          exact ⟨_, rfl, by rw [HD.out, HN.out]; exact hF.mono hs2 (Nat.le_refl _), hb⟩
end Go.Proofs.YtfpneepnnoldeaaDoor
