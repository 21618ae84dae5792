/-
  Walks: files moved in a tree, as the program does it.
-/
import Derived.Test.YtegknjcifmenpaaDoorWTSet
import Derived.Test.YtegknjcifmenpaaDoorVUM
import Derived.Test.YtegknjcifmenpaaDoorVL
set_option linter.unusedVariables false
namespace Go.Proofs.YtegknjcifmenpaaDoor
open Go.RowKit Go.Vc
open Go.Vc.Rep (rd)
open Go.Vc.Own (own)
set_option maxHeartbeats 8000000 in
set_option maxRecDepth 100000 in
theorem implTreeMove {S : Nat → Prop} (v : Value) (t : List File) (path dst : ByteArray) (w : World) (hv : rd S w [v] t) (hzp : path.size ≤ 1048576) (hzd : dst.size ≤ 1048576) (hZ : ∀ f, f ∈ t → f.path.size ≤ 1048576) (hM : ML w) {b : Bool} (hbb : moveB t path dst = b) {x : List File} (hxx : treeMove t path dst = x) :
    Calls Tryd.prog 6 #[v, .string path, .string dst] w fun e w' => ∃ v', e = .returned (.tuple #[v', .bool b]) ∧ Fresh w.heap.size w'.heap.size w' [v'] x ∧ Below w.heap.size w w' := by
  have hv := Rep.lt hv
  obtain ⟨a0, cap0, rfl, hs0⟩ := rd_slice_elim hv
  have hle := hs0.le
  have hS : ∀ f, f ∈ t → ShortS f.path := fun f hf => short_of (hZ f hf)
  cases hb : treeB t with
  | false =>
    have HX : Hid (x = []) := by show _ = _; rw [← hxx, move_bad hb]
    have HB_ : Hid (b = false) := by show _ = _; rw [← hbb, moveB_bad hb]
    clear hbb hxx
    go_enter Tryd.func6, Tryd.ntmps6
    go_wp2_with fail
    refine (treeOk_is _ t _ hs0.rd hS hM hb).mono ?_
    rintro e w1 ⟨rfl, hb1⟩
    go_wp2
    go_ret2
    exact ⟨.slice none 0 0, by rw [HB_.out]; rfl, by rw [HX.out]; exact Fresh.nil _ _ _ (by decide), hb1⟩
  | true =>
    have HXB : Hid (x = if b = true then movedT t path dst else t) := by show _ = _; rw [← hxx, ← hbb, move_ok hb]
    have HT := Lib.hid hb
    have HBB := Lib.hid hbb
    obtain ⟨h8, h10⟩ := tree_files hb
    have HAD := Lib.hid (drop_asc (asc_tree hb) path)
    have HTX : Hid (∀ g, g ∈ dropT t path → g.text.length ≤ 10) := fun g hg => h10 g (List.mem_filter.1 hg).1
    clear hbb hxx
    go_enter Tryd.func6, Tryd.ntmps6
    go_wp2_with fail
    refine (treeOk_is _ t _ hs0.rd hS hM hb).mono ?_
    rintro e w1 ⟨rfl, hb1⟩
    have hs1 := hb1.size
    have hM := hM.keep hb1
    clear hb
    go_wp2
    go_loopw [8, 21] (fun out i wr => (∃ (k : Nat) (ol : List File), k ≤ t.length ∧ i = .int .i64 k ∧ ol.length ≤ k ∧ Fresh w.heap.size wr.heap.size wr [out] ol ∧ Hid (dropT t path = ol ++ (t.drop k).filter (fun f => !isAtB path f.path))) ∧ Below w1.heap.size w1 wr) (fun _ i _ => t.length - (intOf i).toNat)
    case atStart => exact ⟨⟨0, [], by omega, rfl, by simp, Fresh.nil _ _ _ (by decide), rfl⟩, Below.refl _ _⟩
    case round =>
      obtain ⟨⟨k, ol, hk, rfl, hol, hF, HA⟩, hbr⟩ := hrel
      obtain ⟨a2, c2, rfl, _⟩ := hF.shape
      obtain ⟨wx, rfl⟩ : ∃ wx : World, wx = wr := ⟨_, rfl⟩
      have hsr := hbr.size
      have hBB := hb1.trans (hbr.mono hs1)
      by_cases hlt : k < t.length
      · obtain ⟨g, off, a1, c1, rfl, hc1, hc2, hz1, hft⟩ := (hs0.keep hBB).file hlt
        have hxk := h10 _ (List.getElem_mem hlt)
        have HYY := fun hp => filt_yes (P := fun f : File => !isAtB path f.path) HA.out hlt hp
        have HNN := fun hp => filt_no (P := fun f : File => !isAtB path f.path) HA.out hlt hp
        have HOT : ∀ g, g ∈ ol → g.text.length ≤ 10 := fun g hg => HTX.out g (by rw [HA.out]; exact List.mem_append.2 (.inl hg))
        obtain ⟨f, hf⟩ : ∃ f, f = t[k] := ⟨_, rfl⟩
        rw [← hf] at hc1 hc2 hz1 hft hxk HYY HNN
        have HY := Lib.hid HYY
        have HN := Lib.hid HNN
        clear hf HYY HNN HA
        have hft9 := hft.rd
        have hB1 : Below wx.heap.size wx (wx.alloc (.cells #[.string f.path, .slice a1 f.text.length c1] 51)) := (Below.refl _ _).alloc (Nat.le_refl _) _
        have q0 : (wx.alloc (.cells #[.string f.path, .slice a1 f.text.length c1] 51)).cell? ⟨wx.heap.size, 0, none⟩ = some (.string f.path) := by rw [cell_of_row _ _ 0 _ _ (0, 0) (heap_alloc_new _ _)]; rfl
        have q1 : (wx.alloc (.cells #[.string f.path, .slice a1 f.text.length c1] 51)).cell? ⟨wx.heap.size, 1, none⟩ = some (.slice a1 f.text.length c1) := by rw [cell_of_row _ _ 1 _ _ (0, 0) (heap_alloc_new _ _)]; rfl
        cases hp : isAtB path f.path with
        | true =>
          have HN2 := Lib.hid (HN.out (by rw [hp]; rfl))
          go_wp2_with fail
          refine (isAt_is _ _ _ _ hz1 hzp hp).mono ?_
          rintro e w3 ⟨rfl, hb3⟩
          have hb3 := hB1.trans (hb3.mono hB1.size)
          go_wp2
          go_roundw
          case rel => exact ⟨⟨k + 1, ol, by omega, by go_num, by omega, (hF.below (Nat.le_refl _) hb3).now, HN2.out⟩, hbr.trans (hb3.mono hsr)⟩
          case measure => simp [intOf] <;> omega
        | false =>
          have hdn := HY.out (by rw [hp]; rfl)
          have hla := tset_last (f := f) (by rw [← hdn]; exact HAD.out)
          have HN2 := Lib.hid hdn
          have HLA := Lib.hid hla.1
          have hAo := hla.2
          clear hdn hla
          go_wp2_with fail
          refine (isAt_is _ _ _ _ hz1 hzp hp).mono ?_
          rintro e w3 ⟨rfl, hb3⟩
          have q0 := keepc q0 hb3
          have q1 := keepc q1 hb3
          have hb3 := hB1.trans (hb3.mono hB1.size)
          have hF := (hF.below (Nat.le_refl _) hb3).now
          have hbr := hbr.trans (hb3.mono hsr)
          have hsr := hbr.size
          have hft9 := Rep.below hft9 (Nat.le_refl _) hb3
          go_wp2_with fail
          refine (implPut _ ol f.path _ f.text _ hF.rd hAo (by omega) HOT hz1 hft9 (by omega)).mono ?_
          rintro e w4 ⟨v4, rfl, hO, hb4⟩
          have hO := hO
          rw [show (⟨f.path, f.text⟩ : File) = f from rfl, HLA.out] at hO
          obtain ⟨a4, c4, rfl, _⟩ := hO.shape
          have hln : (ol ++ [f]).length ≤ k + 1 := by simp; omega
          have hO9 : Fresh w.heap.size w4.heap.size w4 [.slice a4 (ol.length + 1) c4] (ol ++ [f]) := by have := hO.mono (B' := w.heap.size) (by omega) (Nat.le_refl _); simpa using this
          go_wp2
          go_roundw
          case rel => exact ⟨⟨k + 1, ol ++ [f], by omega, by go_num, hln, hO9, HN2.out⟩, hbr.trans (hb4.mono hsr)⟩
          case measure => simp [intOf] <;> omega
      · have hol9 := filt_end HA.out hlt
        have HS0 := Lib.hid (mvInv_start (path := path) HT.out hZ)
        have HM0 : Hid (movedT t path dst = movG path dst (dropT t path) (t.drop 0)) := rfl
        rw [hol9] at HS0 HM0
        have HOL := Lib.hid hol9
        clear hol9 HA HAD HTX hol
        have hM := hM.keep hbr
        have hB1 := hBB
        have hsB := hB1.size
        clear hbr hb1 hBB
        have hFD := hF.mono (B' := w.heap.size) (Nat.le_refl _) (Nat.le_refl _)
        clear hF
        go_wp2
        go_loopw [8, 9, 38] (fun out fd i wr => (∃ (k : Nat) (cur : List File) (c : Bool), k ≤ t.length ∧ i = .int .i64 k ∧ fd = .bool c ∧ Fresh w.heap.size wr.heap.size wr [out] cur ∧ Hid (movedT t path dst = movG path dst cur (t.drop k)) ∧ Hid (MvInv t path ol.length k cur c)) ∧ Below wx.heap.size wx wr) (fun _ _ i _ => t.length - (intOf i).toNat)
        case atStart => exact ⟨⟨0, ol, false, by omega, rfl, rfl, hFD, HM0.out, HS0.out⟩, Below.refl _ _⟩
        case round =>
          clear HM0 HS0 hFD
          obtain ⟨⟨k, cur, c, hk, rfl, rfl, hF, HA, HI⟩, hbr⟩ := hrel
          obtain ⟨a2, c2, rfl, _⟩ := hF.shape
          obtain ⟨wy, rfl⟩ : ∃ wy : World, wy = wr := ⟨_, rfl⟩
          have hsr := hbr.size
          have hBB := hB1.trans (hbr.mono hsB)
          have hcur : cur.length ≤ t.length := by have := HI.out.cnt; omega
          by_cases hlt : k < t.length
          · obtain ⟨g, off, a1, c1, rfl, hc1, hc2, hz1, hft⟩ := (hs0.keep hBB).file hlt
            have hxk := h10 _ (List.getElem_mem hlt)
            have hzk := hZ _ (List.getElem_mem hlt)
            have HYY := fun hp hz hl => mvInv_yes (dst := dst) HI.out hlt hp HT.out hz hl
            have HNN := fun hp => mvInv_no HI.out hlt hp
            have HBD := fun hp hl => mvInv_bad (dst := dst) HI.out hlt hp HA.out hl
            have HMY := fun hp => mov_yes HA.out hlt hp
            have HMN := fun hp => mov_no HA.out hlt hp
            have HOT : ∀ g, g ∈ cur → g.text.length ≤ 10 := fun g hg => (HI.out.txt g hg).1
            have hAo := HI.out.asc
            obtain ⟨f, hf⟩ : ∃ f, f = t[k] := ⟨_, rfl⟩
            rw [← hf] at hc1 hc2 hz1 hft hxk hzk HYY HNN HBD HMY HMN
            have HY := Lib.hid HYY
            have HN := Lib.hid HNN
            have HD := Lib.hid HBD
            have HMYY := Lib.hid HMY
            have HMNN := Lib.hid HMN
            have hft9 := hft.rd
            clear hf HYY HNN HBD HMY HMN hft
            have hB1x : Below wy.heap.size wy (wy.alloc (.cells #[.string f.path, .slice a1 f.text.length c1] 51)) := (Below.refl _ _).alloc (Nat.le_refl _) _
            have q0 : (wy.alloc (.cells #[.string f.path, .slice a1 f.text.length c1] 51)).cell? ⟨wy.heap.size, 0, none⟩ = some (.string f.path) := by rw [cell_of_row _ _ 0 _ _ (0, 0) (heap_alloc_new _ _)]; rfl
            have q1 : (wy.alloc (.cells #[.string f.path, .slice a1 f.text.length c1] 51)).cell? ⟨wy.heap.size, 1, none⟩ = some (.slice a1 f.text.length c1) := by rw [cell_of_row _ _ 1 _ _ (0, 0) (heap_alloc_new _ _)]; rfl
            cases hp : isAtB path f.path with
            | false =>
              have HN2 := Lib.hid (HN.out hp)
              have HM2 := Lib.hid (HMNN.out hp)
              go_wp2_with fail
              refine (isAt_is _ _ _ _ hz1 hzp hp).mono ?_
              rintro e w3 ⟨rfl, hb3⟩
              have hb3 := hB1x.trans (hb3.mono hB1x.size)
              go_wp2
              go_roundw
              case rel => exact ⟨⟨k + 1, cur, c, by omega, by go_num, rfl, (hF.below (Nat.le_refl _) hb3).now, HM2.out, HN2.out⟩, hbr.trans (hb3.mono hsr)⟩
              case measure => simp [intOf] <;> omega
            | true =>
              have hps := isAt_size hp
              have hms := mvP_size (dst := dst) hps
              have hz2 : (mvP path dst f.path).size ≤ 2097152 := by omega
              have hzn : (mvP path dst f.path).size ≤ maxLen := by unfold maxLen; omega
              have hes : (f.path.extract path.size f.path.size).size = f.path.size - path.size := by simp
              have hno : ¬ 9223372036854775807 < dst.size + (f.path.extract path.size f.path.size).size := by rw [hes]; omega
              have hno2 : ¬ 9223372036854775807 < dst.size + (f.path.size - path.size) := by omega
              have HY2 := Lib.hid (fun hl => HY.out hp hz2 hl)
              have HD2 := Lib.hid (fun hl => HD.out hp hl)
              have HM2 := Lib.hid (HMYY.out hp)
              clear hms hes HY HD HMYY HMNN HN
              go_wp2_with fail
              refine (isAt_is _ _ _ _ hz1 hzp hp).mono ?_
              rintro e w3 ⟨rfl, hb3⟩
              have q0 := keepc q0 hb3
              have q1 := keepc q1 hb3
              have hb3 := hB1x.trans (hb3.mono hB1x.size)
              have hF := (hF.below (Nat.le_refl _) hb3).now
              have hbr := hbr.trans (hb3.mono hsr)
              have hsr := hbr.size
              have hft9 := Rep.below hft9 (Nat.le_refl _) hb3
              have hFr := hF.rd
              clear hp hc1 hc2
              go_wp2_with fail
              go_region_held3 (fun w' => w'.cell? ⟨wy.heap.size, 0, none⟩ = some (.string f.path) ∧ w'.cell? ⟨wy.heap.size, 1, none⟩ = some (.slice a1 f.text.length c1))
                (first | go_keep | exact ⟨q0, q1⟩ | exact K9)
                (first
                  | (go_at_call 23; refine (implPut _ cur (mvP path dst f.path) _ f.text _ (Rep.drew hFr) hAo (by omega) HOT hzn (Rep.drew hft9) (by omega)).mono ?_; rintro e w4 ⟨v4, rfl, hO, hb4⟩; obtain ⟨a4, c4, hv4, _⟩ := hO.shape; subst hv4; have K9 := And.intro (BW.cell (w := w3.drew) q0 ⟨w4, hb4⟩) (BW.cell (w := w3.drew) q1 ⟨w4, hb4⟩)))
              all_goals
                have hb5 : Below w3.heap.size w3 w4 := (Below.refl _ _).drew.trans (hb4.mono (by simp))
                have hbr := hbr.trans (hb5.mono hsr)
                have hs3 : w3.heap.size ≤ w3.drew.heap.size := Nat.le_refl _
                have hO9 := hO.mono (B' := w.heap.size) (by omega) (Nat.le_refl _)
                obtain ⟨fr, hfr⟩ : ∃ fr, fr = decide ((setT cur ⟨mvP path dst f.path, f.text⟩).length = cur.length + 1) := ⟨_, rfl⟩
                rw [← hfr]
                clear K9 hO hb4
                cases fr with
                | false =>
                  have hl9 : ¬ (setT cur (mvF path dst f)).length = cur.length + 1 := of_decide_eq_false hfr.symm
                  have hbf : b = false := by rw [← HBB.out]; exact moveB_len (HD2.out hl9)
                  have hxt : x = t := by rw [HXB.out, hbf]; rfl
                  have H1 := Lib.hid hbf
                  have H2 := Lib.hid hxt
                  have HBC := hB1.trans (hbr.mono hsB)
                  clear hbf hxt hl9 hfr
                  go_wp2_with fail
                  refine (copyTree_any _ t _ (hs0.keep HBC).rd (by omega) h10).mono ?_
                  rintro e w9 ⟨vc, rfl, hC, hb9⟩
                  go_wp2
                  go_ret2
                  exact ⟨vc, by rw [H1.out]; rfl, by rw [H2.out]; exact hC.mono HBC.size (Nat.le_refl _), HBC.trans (hb9.mono HBC.size)⟩
                | true =>
                  have hl9 : (setT cur (mvF path dst f)).length = cur.length + 1 := of_decide_eq_true hfr.symm
                  have HN2 := Lib.hid (HY2.out hl9)
                  clear hl9 hfr
                  go_wp2
                  go_roundw
                  case rel => exact ⟨⟨k + 1, setT cur (mvF path dst f), true, by omega, by go_num, rfl, hO9, HM2.out, HN2.out⟩, hbr⟩
                  case measure => simp [intOf] <;> omega
          · have hmc : movedT t path dst = cur := mov_end HA.out hlt
            have hlen := mvInv_end HI.out hlt
            have HMC := Lib.hid hmc
            have HLEN := Lib.hid hlen
            have hM := hM.keep hbr
            clear hmc hlen
            cases c with
            | false =>
              have hnd : ¬ (dropT t path).length < t.length := by
                rw [HOL.out, ← HLEN.out]
                exact of_decide_eq_false HI.out.fnd.symm
              have hbf : b = false := by rw [← HBB.out]; exact moveB_none hnd
              have hxt : x = t := by rw [HXB.out, hbf]; rfl
              have H1 := Lib.hid hbf
              have H2 := Lib.hid hxt
              have HBC := hBB
              clear hbf hxt hnd
              go_wp2_with fail
              refine (copyTree_any _ t _ (hs0.keep HBC).rd (by omega) h10).mono ?_
              rintro e w9 ⟨vc, rfl, hC, hb9⟩
              go_wp2
              go_ret2
              exact ⟨vc, by rw [H1.out]; rfl, by rw [H2.out]; exact hC.mono HBC.size (Nat.le_refl _), HBC.trans (hb9.mono HBC.size)⟩
            | true =>
              have hnd : (dropT t path).length < t.length := by
                rw [HOL.out, ← HLEN.out]
                exact of_decide_eq_true HI.out.fnd.symm
              have HND := Lib.hid hnd
              clear hnd
              cases hpd : pathB dst with
              | false =>
                have hbf : b = false := by rw [← HBB.out]; exact moveB_path hpd
                have hxt : x = t := by rw [HXB.out, hbf]; rfl
                have H1 := Lib.hid hbf
                have H2 := Lib.hid hxt
                clear hbf hxt
                go_wp2_with fail
                refine (pathOk_is dst _ (short_of hzd) hM hpd).mono ?_
                rintro e w8 ⟨rfl, hb8⟩
                have HBC := hBB.trans (hb8.mono hBB.size)
                go_wp2_with fail
                refine (copyTree_any _ t _ (hs0.keep HBC).rd (by omega) h10).mono ?_
                rintro e w9 ⟨vc, rfl, hC, hb9⟩
                go_wp2
                go_ret2
                exact ⟨vc, by rw [H1.out]; rfl, by rw [H2.out]; exact hC.mono HBC.size (Nat.le_refl _), HBC.trans (hb9.mono HBC.size)⟩
              | true =>
                have hbf : b = treeB cur := by rw [← HBB.out, moveB_is HT.out HND.out hpd (by rw [HMC.out]; exact HLEN.out), HMC.out]
                have hxt : (if b = true then cur else t) = x := by rw [HXB.out, HMC.out]
                have H1 := Lib.hid hbf
                have H2 := Lib.hid hxt
                have hSc : ∀ g, g ∈ cur → ShortS g.path := fun g hg => by have := (HI.out.txt g hg).2; unfold ShortS; omega
                clear hbf hxt
                go_wp2_with fail
                refine (pathOk_is dst _ (short_of hzd) hM hpd).mono ?_
                rintro e w8 ⟨rfl, hb8⟩
                have HBC := hBB.trans (hb8.mono hBB.size)
                have hF := (hF.below (Nat.le_refl _) hb8).now
                have hM := hM.keep hb8
                go_wp2_with fail
                refine (implChanged _ _ t cur _ (hs0.keep HBC).rd hF (by omega) h10 hSc hM HBC.size H1.out.symm (x := x) H2.out).mono ?_
                rintro e w9 ⟨v9, rfl, hR, hb9⟩
                obtain ⟨a9, c9, rfl, _⟩ := hR.shape
                go_wp2
                go_ret2
                exact ⟨_, rfl, hR, HBC.trans (hb9.mono HBC.size)⟩
end Go.Proofs.YtegknjcifmenpaaDoor
