/-
  Walks: which lines refer to files that are not there, and did not do so before, as the reference has it.
-/
import Derived.Test.YtfpneepnnoldeaaDoorWMore
import Derived.Test.YtfpneepnnoldeaaDoorWLostS
set_option linter.unusedVariables false
namespace Go.Vc
theorem anyo_both {α : Type} {P : α → Bool} {B c d : Bool} {xs : List α} {k : Nat} (H : B = (c || (xs.drop k).any P)) (h : k < xs.length) (hp : P xs[k] = d) : B = ((c || d) || (xs.drop (k + 1)).any P) := by
  rw [H, drop_cons xs k h, List.any_cons, hp, Bool.or_assoc]
end Go.Vc
namespace Go.Proofs.YtfpneepnnoldeaaDoor
open Go.RowKit Go.Vc
open Go.Vc.Rep (rd)
open Go.Vc.Own (own)

set_option maxHeartbeats 8000000 in
set_option maxRecDepth 100000 in
theorem specRuleMore {S T : Nat → Prop} (v : Value) (a : List File) (u : Value) (b : List File) (w : World) (hv : rd S w [v] a) (hu : rd T w [u] b) :
    Calls Tryd.prog 53 #[v, u] w fun e w' => ∃ v', e = .returned v' ∧ Fresh w.heap.size w'.heap.size w' [v'] (ruleMore a b) ∧ Below w.heap.size w w' := by
  have hv := Rep.lt hv
  have hu := Rep.lt hu
  have hE := Fresh.empty (β := Lost) (by decide) w.heap.size w (Nat.le_refl _)
  have hB0 := (Below.refl w.heap.size w).alloc (Nat.le_refl _) (.cells #[] (Tid.tid Lost))
  cases hb : treeB a with
  | false =>
    have HD := Lib.hid (ruleMore_bad (a := a) (b := b) (by rw [hb]; rfl))
    go_enter Tryd.func53, Tryd.ntmps53
    go_wp2_with fail
    refine (l4Ok_is _ a _ (Rep.keep hv hB0) hb).mono ?_
    rintro e w1 ⟨rfl, hb1⟩
    go_wp2
    go_ret
    exact ⟨_, rfl, by rw [HD.out]; exact Fresh.nil _ _ _ (by decide), hB0.trans (hb1.mono hB0.size)⟩
  | true =>
    cases hb' : treeB b with
    | false =>
      have HD := Lib.hid (ruleMore_bad (a := a) (b := b) (by rw [hb']; simp))
      go_enter Tryd.func53, Tryd.ntmps53
      go_wp2_with fail
      refine (l4Ok_is _ a _ (Rep.keep hv hB0) hb).mono ?_
      rintro e w1 ⟨rfl, hb1⟩
      have HB := hB0.trans (hb1.mono hB0.size)
      go_wp2_with fail
      refine (l4Ok_is _ b _ (Rep.keep hu HB) hb').mono ?_
      rintro e w2 ⟨rfl, hb2⟩
      go_wp2
      go_ret
      exact ⟨_, rfl, by rw [HD.out]; exact Fresh.nil _ _ _ (by decide), HB.trans (hb2.mono HB.size)⟩
    | true =>
      have HD := Lib.hid (ruleMore_spec hb hb')
      obtain ⟨ha8, ha10⟩ := tree_files hb
      obtain ⟨hb8, hb10⟩ := tree_files hb'
      have hda := dist_tree hb
      have hdb := dist_tree hb'
      -- of each that is lost now, what the two files are
      have HF := Lib.hid (show ∀ x, x ∈ lostA b b → ∃ f, f ∈ b ∧ f.path = x.path ∧ getT b x.path = some f.text from fun x hx => by
        obtain ⟨f, hf, hx⟩ := lostA_mem hx
        have := (lostL_mem hx).1
        exact ⟨f, hf, this.symm, by rw [this]; exact getT_of hdb hf⟩)
      have HG := Lib.hid (show ∀ y, y ∈ lostA a a → ∃ (f : File) (i : Nat), getT a y.path = some f.text ∧ i < f.text.length ∧ y.line = (i : Int) from fun y hy => by
        obtain ⟨f, hf, hy⟩ := lostA_mem hy
        obtain ⟨h1, i, h2, h3⟩ := lostL_mem hy
        exact ⟨f, i, by rw [h1]; exact getT_of hda hf, h2, by rw [h3, Nat.zero_add]⟩)
      have HT := Lib.hid (show ∀ p x, getT a p = some x → x.length ≤ 10 from fun p x hx => by obtain ⟨g, hg, _, rfl⟩ := getT_mem hx; exact ha10 g hg)
      have HB10 := Lib.hid hb10
      have hla := lostA_few (t := a) hb
      have hlb := lostA_few (t := b) hb'
      have hvv := Lib.hid hv
      have huu := Lib.hid hu
      go_enter Tryd.func53, Tryd.ntmps53
      go_wp2_with fail
      refine (l4Ok_is _ a _ (Rep.keep hv hB0) hb).mono ?_
      rintro e w1 ⟨rfl, hb1⟩
      have hE1 := hE.below (Nat.le_refl _) hb1
      have HB := hB0.trans (hb1.mono hB0.size)
      go_wp2_with fail
      refine (l4Ok_is _ b _ (Rep.keep hu HB) hb').mono ?_
      rintro e w2 ⟨rfl, hb2⟩
      have hE2 := hE1.below (Nat.le_refl _) hb2
      have HB := HB.trans (hb2.mono HB.size)
      go_wp2_with fail
      refine (l16Lost_any _ a _ (Rep.keep hv HB) ha8 ha10).mono ?_
      rintro e w3 ⟨va, rfl, hA, hb3⟩
      have hE3 := hE2.below (Nat.le_refl _) hb3
      have hsz2 := HB.size
      have HB3 := HB.trans (hb3.mono HB.size)
      have hsz3 := HB3.size
      go_wp2_with fail
      refine (l16Lost_any _ b _ (Rep.keep hu HB3) hb8 hb10).mono ?_
      rintro e w4 ⟨vb, rfl, hBl, hb4⟩
      have hE4 := hE3.below (Nat.le_refl _) hb4
      have hA := hA.below (Nat.le_refl _) hb4
      have HB4 := HB3.trans (hb4.mono HB3.size)
      have hsz4 := HB4.size
      have hs4 := hb4.size
      have hs3 := hb3.size
      have hs1 := hb1.size
      have hs2 := hb2.size
      have hn1 : w.heap.size + 1 ≤ w2.heap.size := by simp at hs1; omega
      obtain ⟨was, hwas⟩ : ∃ was, was = lostA a a := ⟨_, rfl⟩
      obtain ⟨now, hnow⟩ : ∃ now, now = lostA b b := ⟨_, rfl⟩
      rw [← hwas] at hA HG hla HD
      rw [← hnow] at hBl HF hlb HD
      try rw [← hwas]
      try rw [← hnow]
      have hX0 : FreshX (fun k => w2.heap.size ≤ k ∧ k < w4.heap.size) w.heap.size (w.heap.size + 1) w4 _ ([] : List Lost) := hE4.off (fun k hk => .inr (by omega))
      have hAr : rd (fun k => w2.heap.size ≤ k ∧ k < w4.heap.size) w4 [va] was := Rep.mono (fun k hk => ⟨hk.1, by omega⟩) hA.rd2
      have hBr : rd (fun k => w2.heap.size ≤ k ∧ k < w4.heap.size) w4 [vb] now := Rep.mono (fun k hk => ⟨by omega, hk.2⟩) hBl.rd2
      obtain ⟨a1, c1, rfl, hAs⟩ := rd_slice_elim hAr
      obtain ⟨a2, c2, rfl, hBs⟩ := rd_slice_elim hBr
      clear hwas hnow hA hBl hE hE1 hE2 hE3 hE4 hb1 hb2 hb3 hb4 hs1 hs2 ha10 hb10 hda hdb HB HB3 hAr hBr hb hb' hv hu hB0 hsz2 hsz3
      go_wp2
      go_loopw [5, 8] (fun out i wr => (∃ (k : Nat) (ol : List Lost), k ≤ now.length ∧ i = .int .i64 k ∧ ol.length ≤ k ∧ FreshX (fun k => w2.heap.size ≤ k ∧ k < w4.heap.size) w.heap.size wr.heap.size wr [out] ol ∧ (∀ k, w2.heap.size ≤ k ∧ k < w4.heap.size → wr.heap[k]? = w4.heap[k]?) ∧ w4.heap.size ≤ wr.heap.size ∧ Hid (ruleMore a b = ol ++ (now.drop k).filter (fun x => !knownS a b was x))) ∧ Below w.heap.size w wr) (fun _ i _ => now.length - (intOf i).toNat)
      case atStart => exact ⟨⟨0, [], by omega, rfl, by simp, hX0.upX (by omega), fun _ _ => rfl, Nat.le_refl _, HD.out⟩, HB4⟩
      case round =>
        clear hX0
        obtain ⟨⟨k, ol, hk, rfl, hol, hFX, hold, hszr, HA⟩, hbr⟩ := hrel
        obtain ⟨wo, rfl⟩ : ∃ wo : World, wo = wr := ⟨_, rfl⟩
        obtain ⟨a3, c3, rfl, _⟩ := hFX.fresh.shape
        have hsr := hbr.size
        by_cases hlt : k < now.length
        · have hBs' : IsSlice (fun k => w2.heap.size ≤ k ∧ k < w4.heap.size) wo a2 c2 now := hBs.frame fun k hk _ => ⟨hold k hk, hk⟩
          obtain ⟨g2, off2, rfl, hd0, hd1, hd2, k0, k1, k2⟩ := hBs'.lost hlt
          obtain ⟨fb, hfb, hfp, hgb⟩ := HF.out _ (List.getElem_mem hlt)
          have hfl := HB10.out fb hfb
          have hY := fun hp => filt_yes (P := fun x : Lost => !knownS a b was x) HA.out hlt hp
          have hN := fun hp => filt_no (P := fun x : Lost => !knownS a b was x) HA.out hlt hp
          obtain ⟨x, hx⟩ : ∃ x, x = now[k] := ⟨_, rfl⟩
          rw [← hx] at hd0 hd1 hd2 k0 k1 k2 hY hN hgb
          have HY := Lib.hid hY
          have HNo := Lib.hid hN
          clear hx hY hN HA hfp
          obtain ⟨tb, htb⟩ : ∃ tb, tb = fb.text := ⟨_, rfl⟩
          rw [← htb] at hfl hgb
          clear htb hfb
          obtain ⟨oa, hoa⟩ : ∃ oa, getT a x.path = oa := ⟨_, rfl⟩
          have HOA := Lib.hid hoa
          have HOL := Lib.hid (show (oa.getD []).length ≤ 10 from by
            cases oa with
            | none => simp
            | some q => exact HT.out _ q hoa)
          have HKS : Hid (knownS a b was x = (false || (was.drop 0).any (fun y => decide (y.path = x.path) && decide ((matchT (oa.getD []) tb).getD y.line.toNat 0 = x.line)))) := by
            show _ = _
            rw [Bool.false_or, knownS, hoa, hgb]; rfl
          clear hoa
          go_wp2_with fail
          refine (l4Get_any _ a _ _ (Rep.keep hvv.out hbr) HOA.out).mono ?_
          rintro e w5 ⟨v5, rfl, hO, hw⟩
          subst hw
          go_wp2_with fail
          refine (l4Get_some _ b _ _ (Rep.keep huu.out hbr) hgb).mono ?_
          rintro e w6 ⟨v6, rfl, hTb, rfl⟩
          clear hgb
          go_wp2_with fail
          refine (l1Match_any _ _ (oa.getD []) tb _ hO hTb HOL.out hfl).mono ?_
          rintro e w7 ⟨v7, rfl, hM, hb7⟩
          have hs7 := hb7.size
          have hml := matchT_len (oa.getD []) tb
          obtain ⟨mt, hmt⟩ : ∃ mt, mt = matchT (oa.getD []) tb := ⟨_, rfl⟩
          rw [← hmt] at hM hml HKS
          obtain ⟨a7, c7, rfl, hMs⟩ := hM.shape
          have hMs := hMs.lt
          have HGX := Lib.hid (show ∀ y, y ∈ was → y.path = x.path → ∃ i : Nat, i < mt.length ∧ y.line = (i : Int) from fun y hy he => by
            obtain ⟨f, i, h1, h2, h3⟩ := HG.out y hy
            refine ⟨i, ?_, h3⟩
            rw [he, HOA.out] at h1
            rw [hml, h1]
            exact h2)
          have hAs7 : IsSlice (fun k => w2.heap.size ≤ k ∧ k < w4.heap.size) w7 a1 c1 was := hAs.frame fun k hk _ => ⟨(hb7.block k (by omega)).trans (hold k hk), hk⟩
          have hd0 := keepc hd0 hb7
          have hd1 := keepc hd1 hb7
          have hd2 := keepc hd2 hb7
          have hFX := hFX.below (Nat.le_refl _) hb7
          have hold7 : ∀ k, w2.heap.size ≤ k ∧ k < w4.heap.size → w7.heap[k]? = w4.heap[k]? := fun k hk => (hb7.block k (by omega)).trans (hold k hk)
          have hbr7 := hbr.trans (hb7.mono hsr)
          have HML := Lib.hid hml
          clear hmt hM hold hb7 hml hO hTb
          go_wp2
          go_loopw [14, 15] (fun u j wr => (∃ (m : Nat) (c : Bool), m ≤ was.length ∧ j = .int .i64 m ∧ u = .bool c ∧ Hid (knownS a b was x = (c || (was.drop m).any (fun y => decide (y.path = x.path) && decide (mt.getD y.line.toNat 0 = x.line))))) ∧ Below w7.heap.size w7 wr) (fun _ j _ => was.length - (intOf j).toNat)
          case atStart => exact ⟨⟨0, false, by omega, rfl, rfl, HKS.out⟩, Below.refl _ _⟩
          case round =>
            obtain ⟨⟨m, c, hm, rfl, rfl, HA⟩, hbi⟩ := hrel
            have hsi := hbi.size
            by_cases hlm : m < was.length
            · obtain ⟨g1, off1, rfl, e0, e1, e2, _, i1, _⟩ := (hAs7.below (Nat.le_refl _) hbi).lost hlm
              have hT := fun d => anyo_hit (P := fun y : Lost => decide (y.path = x.path) && decide (mt.getD y.line.toNat 0 = x.line)) HA.out hlm d
              have hF := fun d => anyo_next (P := fun y : Lost => decide (y.path = x.path) && decide (mt.getD y.line.toNat 0 = x.line)) HA.out hlm d
              have hgx := HGX.out _ (List.getElem_mem hlm)
              obtain ⟨y, hy⟩ : ∃ y, y = was[m] := ⟨_, rfl⟩
              rw [← hy] at e0 e1 e2 i1 hT hF hgx
              clear hy
              have HTT := Lib.hid hT
              have HFF := Lib.hid hF
              clear hT hF
              have e0 := BW.cell e0
              have e1 := BW.cell e1
              have d0 := BW.cell (keepc hd0 hbi)
              have d1 := BW.cell (keepc hd1 hbi)
              cases c with
              | true =>
                have HN2 := Lib.hid (anyo_yes HA.out)
                clear HTT HFF hgx
                go_wp2
                refine wp_region_bw (by kernel_rfl) (by kernel_rfl) ?_
                repeat (go_big_quiet_step (fail))
                refine wpQuiet_nil ?_
                rintro w1 ⟨⟨_, hbw⟩, rfl⟩
                go_wp2
                go_roundw
                case rel => exact ⟨⟨m + 1, true, by omega, by go_num, rfl, HN2.out⟩, hbi.trans (hbw.mono hsi)⟩
                case measure => simp [intOf] <;> omega
              | false =>
                by_cases he : y.path = x.path
                · obtain ⟨i, hi, hline⟩ := hgx he
                  obtain ⟨g7, off7, rfl, hc7, hI7⟩ := (hMs.keep hbi).int hi
                  have hc7 := BW.cell hc7
                  have HGD : Hid (mt.getD y.line.toNat 0 = mt[i]) := by show _ = _; rw [hline, Int.toNat_natCast]; simp [List.getD, hi]
                  rw [hline] at e1
                  have hd : decide (y.path = x.path) = true := decide_eq_true he
                  obtain ⟨n, hn⟩ : ∃ n, n = mt[i] := ⟨_, rfl⟩
                  rw [← hn] at hc7 HGD
                  have hil : (i : Int) < (mt.length : Int) := by omega
                  clear hn hline he
                  by_cases hq : n = x.line
                  · have hq2 : (n == x.line) = true := by simp [hq]
                    have HN2 := Lib.hid (HTT.out (by rw [hd, HGD.out, decide_eq_true hq]; rfl))
                    clear hq HTT HFF
                    go_wp2
                    refine wp_region_bw (by kernel_rfl) (by kernel_rfl) ?_
                    repeat (go_big_quiet_step (fail))
                    refine wpQuiet_nil ?_
                    rintro w1 ⟨⟨_, hbw⟩, rfl⟩
                    go_wp2
                    go_roundw
                    case rel => exact ⟨⟨m + 1, true, by omega, by go_num, rfl, HN2.out⟩, hbi.trans (hbw.mono hsi)⟩
                    case measure => simp [intOf] <;> omega
                  · have hq2 : (n == x.line) = false := by simp [hq]
                    have HN2 := Lib.hid (HFF.out (by rw [hd, HGD.out, decide_eq_false hq]; rfl))
                    clear hq HTT HFF
                    go_wp2
                    refine wp_region_bw (by kernel_rfl) (by kernel_rfl) ?_
                    repeat (go_big_quiet_step (fail))
                    refine wpQuiet_nil ?_
                    rintro w1 ⟨⟨_, hbw⟩, rfl⟩
                    go_wp2
                    go_roundw
                    case rel => exact ⟨⟨m + 1, false, by omega, by go_num, rfl, HN2.out⟩, hbi.trans (hbw.mono hsi)⟩
                    case measure => simp [intOf] <;> omega
                · have hd : decide (y.path = x.path) = false := decide_eq_false he
                  have HN2 := Lib.hid (HFF.out (by rw [hd]; rfl))
                  clear he HTT HFF hgx
                  go_wp2
                  refine wp_region_bw (by kernel_rfl) (by kernel_rfl) ?_
                  repeat (go_big_quiet_step (fail))
                  refine wpQuiet_nil ?_
                  rintro w1 ⟨⟨_, hbw⟩, rfl⟩
                  go_wp2
                  go_roundw
                  case rel => exact ⟨⟨m + 1, false, by omega, by go_num, rfl, HN2.out⟩, hbi.trans (hbw.mono hsi)⟩
                  case measure => simp [intOf] <;> omega
            · have HE := Lib.hid (anyo_end HA.out hlm)
              have hFX := (hFX.below (Nat.le_refl _) hbi)
              have holdi : ∀ k, w2.heap.size ≤ k ∧ k < w4.heap.size → wr.heap[k]? = w4.heap[k]? := fun k hk => (hbi.block k (by omega)).trans (hold7 k hk)
              have hbr := hbr7.trans (hbi.mono hbr7.size)
              have hd0 := keepc hd0 hbi
              have hd1 := keepc hd1 hbi
              have hd2 := keepc hd2 hbi
              have hsr2 := hbr.size
              have hszi : w4.heap.size ≤ wr.heap.size := by omega
              cases c with
              | true =>
                have HN2 := Lib.hid (HNo.out (by rw [HE.out]; rfl))
                go_wp2
                go_roundw
                case rel => exact ⟨⟨k + 1, ol, by omega, by go_num, by omega, hFX.upX (by omega), holdi, hszi, HN2.out⟩, hbr⟩
                case measure => simp [intOf] <;> omega
              | false =>
                have HN2 := Lib.hid (HY.out (by rw [HE.out]; rfl))
                go_wp2_with (at_builtin; go_must (refine wpList_app_leafX slz_lost.slt rfl (.tmp 96) (.tmp 101) rfl rfl (hFX.alloc _) (fun b hb => by simp; omega) (by simp; omega) rfl rfl (lit_lost1 (heap_alloc_new _ _) k0 k1 k2) (by simp; omega) (by unfold maxLen; simp; omega) ?_); intro a6 c6 w6 hG6)
                have hG := hG6.fresh
                have hs6 := hG6.below.size
                have hs66 := (hG6.below.mono (Nat.zero_le _)).size
                go_roundw
                case rel => exact ⟨⟨k + 1, ol ++ [x], by omega, by go_num, by simp; omega, by simpa using hG, fun b hb => (hG6.holes b (by simp; omega) hb).trans ((Below.heap_alloc wr _ b (by omega)).trans (holdi b hb)), by simp at hs6; omega, HN2.out⟩, (hbr.alloc hsr2 _).trans hG6.below⟩
                case measure => simp [intOf] <;> omega
        · have HE := Lib.hid (filt_end HA.out hlt)
          go_wp2
          go_ret
          exact ⟨_, rfl, by rw [HE.out]; exact hFX.fresh, hbr⟩
end Go.Proofs.YtfpneepnnoldeaaDoor
