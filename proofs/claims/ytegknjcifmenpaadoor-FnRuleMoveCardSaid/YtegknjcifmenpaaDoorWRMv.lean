/-
  Walks: a file moved, and all lines that refer to it, as the program does it.
-/
import Derived.Test.YtegknjcifmenpaaDoorWMoveI
import Derived.Test.YtegknjcifmenpaaDoorVGR
import Derived.Test.YtegknjcifmenpaaDoorVRM
set_option linter.unusedVariables false
namespace Go.Proofs.YtegknjcifmenpaaDoor
open Go.RowKit Go.Vc
open Go.Vc.Rep (rd)
open Go.Vc.Own (own)
set_option maxHeartbeats 8000000 in
set_option maxRecDepth 100000 in
theorem implRuleMove {S : Nat → Prop} (v : Value) (t : List File) (path dst : ByteArray) (w : World) (hv : rd S w [v] t) (hzp : path.size ≤ 1048576) (hzd : dst.size ≤ 1048576) (hZ : ∀ f, f ∈ t → f.path.size ≤ 1048576) (hM : ML w) {b : Bool} (hbb : ruleMoveB t path dst = b) {x : List File} (hxx : ruleMove t path dst = x) :
    Calls Tryd.prog 12 #[v, .string path, .string dst] w fun e w' => ∃ v', e = .returned (.tuple #[v', .bool b]) ∧ Fresh w.heap.size w'.heap.size w' [v'] x ∧ Below w.heap.size w w' := by
  have hv := Rep.lt hv
  have hM0 := hM
  obtain ⟨a0, cap0, rfl, hs0⟩ := rd_slice_elim hv
  have hle := hs0.le
  have hS : ∀ f, f ∈ t → ShortS f.path := fun f hf => short_of (hZ f hf)
  cases hb : treeB t with
  | false =>
    have HX : Hid (x = []) := by show _ = _; rw [← hxx, ruleMove_bad hb]
    have HB_ : Hid (b = false) := by show _ = _; rw [← hbb, ruleMoveB_bad hb]
    clear hbb hxx
    go_enter Tryd.func12, Tryd.ntmps12
    go_wp2_with fail
    refine (treeOk_is _ t _ hs0.rd hS hM hb).mono ?_
    rintro e w1 ⟨rfl, hb1⟩
    go_wp2
    go_ret2
    exact ⟨.slice none 0 0, by rw [HB_.out]; rfl, by rw [HX.out]; exact Fresh.nil _ _ _ (by decide), hb1⟩
  | true =>
    have HXB : Hid (x = if b = true then treeM path dst (movedT t path dst) else t) := by show _ = _; rw [← hxx, ← hbb, ruleMove_ok hb]
    have HT := Lib.hid hb
    have HBB := Lib.hid hbb
    obtain ⟨h8, h10⟩ := tree_files hb
    clear hbb hxx
    cases hg : getT t path with
    | none =>
      have hbf : b = false := by rw [← HBB.out]; exact ruleMoveB_none hg
      have hxt : x = t := by rw [HXB.out, hbf]; rfl
      have H1 := Lib.hid hbf
      have H2 := Lib.hid hxt
      clear hbf hxt
      go_enter Tryd.func12, Tryd.ntmps12
      go_wp2_with fail
      refine (treeOk_is _ t _ hs0.rd hS hM hb).mono ?_
      rintro e w1 ⟨rfl, hb1⟩
      have hs1 := hb1.size
      go_wp2_with fail
      refine (get_none _ t path _ (hs0.keep hb1).rd h10 hg).mono ?_
      rintro e w2 ⟨v2, rfl, hb2⟩
      have HB := hb1.trans (hb2.mono hs1)
      go_wp2_with fail
      refine (copyTree_any _ t _ (hs0.keep HB).rd (by omega) h10).mono ?_
      rintro e w3 ⟨vc, rfl, hC, hb3⟩
      go_wp2
      go_ret2
      exact ⟨vc, by rw [H1.out]; rfl, by rw [H2.out]; exact hC.mono HB.size (Nat.le_refl _), HB.trans (hb3.mono HB.size)⟩
    | some px =>
      obtain ⟨mb, hmb⟩ : ∃ mb, moveB t path dst = mb := ⟨_, rfl⟩
      obtain ⟨y, hy⟩ : ∃ y, treeMove t path dst = y := ⟨_, rfl⟩
      have HG := Lib.hid hg
      have HMB := Lib.hid hmb
      have HY := Lib.hid hy
      clear hmb hy
      go_enter Tryd.func12, Tryd.ntmps12
      go_wp2_with fail
      refine (treeOk_is _ t _ hs0.rd hS hM hb).mono ?_
      rintro e w1 ⟨rfl, hb1⟩
      have hs1 := hb1.size
      have hM := hM.keep hb1
      go_wp2_with fail
      refine (get_some _ t path _ (hs0.keep hb1).rd h10 hg).mono ?_
      rintro e w2 ⟨v2, rfl, hG2, hb2⟩
      obtain ⟨ag, cg, hgv, _⟩ := hG2.shape
      subst hgv
      have HB := hb1.trans (hb2.mono hs1)
      have hs2 := HB.size
      have hM := hM.keep hb2
      clear hG2 hb2 hb1 hg hb
      go_wp2_with fail
      refine (implTreeMove _ t path dst _ (hs0.keep HB).rd hzp hzd hZ hM HMB.out HY.out).mono ?_
      rintro e w3 ⟨v3, rfl, hO, hb3⟩
      obtain ⟨ao, co, hov, _⟩ := hO.shape
      subst hov
      have HB := HB.trans (hb3.mono hs2)
      have hs3 := HB.size
      have hM := hM.keep hb3
      have hO := hO.mono (B' := w.heap.size) hs2 (Nat.le_refl _)
      clear hb3
      cases mb with
      | false =>
        have hbf : b = false := by rw [← HBB.out]; exact ruleMoveB_not HMB.out
        have hxt : x = t := by rw [HXB.out, hbf]; rfl
        have hyt : y = t := by rw [← HY.out, move_ok HT.out, HMB.out]; rfl
        have H1 := Lib.hid hbf
        have H2 := Lib.hid (hxt.trans hyt.symm)
        clear hbf hxt hyt
        go_wp2
        go_ret2
        exact ⟨.slice ao y.length co, by rw [H1.out]; rfl, by rw [H2.out]; exact hO, HB⟩
      | true =>
        have hyt : y = movedT t path dst := by rw [← HY.out, move_ok HT.out, HMB.out]; rfl
        have HYT := Lib.hid hyt
        have hTy : treeB y = true := (move_law' HT.out HMB.out HY.out).1
        have hy10 := (tree_files hTy).2
        have hyZ : ∀ f, f ∈ y → ShortS f.path := fun f hf => by
          have := (move_law' HT.out HMB.out HY.out).2 f hf
          obtain ⟨g, hg, h⟩ := this
          have h1 := hZ g hg
          unfold ShortS
          omega
        have H0 : Hid (MapTo (fileM path dst) y y 0) := mapTo_start _ _
        have hylen : y.length ≤ 8 := (tree_files hTy).1
        clear hyt hTy
        go_wp2
        go_loopw [43] (fun i wr => (∃ (k : Nat) (cur : List File), k ≤ y.length ∧ i = .int .i64 k ∧ Fresh w.heap.size wr.heap.size wr [.slice ao y.length co] cur ∧ Hid (MapTo (fileM path dst) y cur k)) ∧ Below w.heap.size w wr) (fun i _ => y.length - (intOf i).toNat)
        case atStart => exact ⟨⟨0, y, by omega, rfl, hO, H0.out⟩, HB⟩
        case round =>
          clear H0 hO
          obtain ⟨⟨k, cur, hk, rfl, hF, HA⟩, hbr⟩ := hrel
          obtain ⟨wo, rfl⟩ : ∃ wo : World, wo = wr := ⟨_, rfl⟩
          have hcl : cur.length = y.length := HA.out.1
          have hsr := hbr.size
          by_cases hlt : k < y.length
          · obtain ⟨hk', hck⟩ := mapTo_at HA.out hlt
            obtain ⟨g, hag, hgB, hgm⟩ := hF.addr (by omega)
            subst hag
            obtain ⟨g9, off, a1, c1, he, hc1, hc2, hz1, _⟩ := (rd_slice_of hF.rd2).2.file hk'
            obtain ⟨rfl, rfl⟩ : g = g9 ∧ 0 = off := by simpa using he
            rw [Nat.zero_add] at hc1 hc2
            have HNX := fun (z : File) (hz : z = fileM path dst y[k]) => mapTo_next HA.out hlt hz
            have hxk := hy10 _ (List.getElem_mem hlt)
            have hcs : cur.set k ⟨y[k].path, y[k].text⟩ = cur := by
              rw [show (⟨y[k].path, y[k].text⟩ : File) = cur[k] from hck.symm]
              exact List.set_getElem_self hk'
            obtain ⟨f, hf⟩ : ∃ f, f = y[k] := ⟨_, rfl⟩
            rw [hck] at hc1 hc2 hz1
            rw [← hf] at hc1 hc2 hz1 HNX hxk hcs
            have HNX := Lib.hid HNX
            obtain ⟨wb, hwb⟩ : ∃ wb, wb = wo.alloc (.cells #[.string f.path, .slice a1 f.text.length c1] 51) := ⟨_, rfl⟩
            obtain ⟨hB1, hsb, hq⟩ := boxed (vs := [.string f.path, .slice a1 f.text.length c1]) hwb
            have q1 := hq 1 _ rfl
            have hFb : Fresh w.heap.size wo.heap.size wb [.slice (some ⟨g, 0, none⟩) y.length co] (cur.set k ⟨f.path, f.text⟩) := by rw [hcs]; exact hF.below (Nat.le_refl _) hB1
            have hc2b := keepc hc2 hB1
            have hbb := hbr.trans (hB1.mono hsr)
            have hszb : wo.heap.size < wb.heap.size := by omega
            have HW := Lib.hid hwb
            have HM0 : Hid (MapTo (lineM path dst) f.text f.text 0) := mapTo_start _ _
            clear hq hwb hsb hf hck hcs hF
            go_wp2
            rw [← HW.out]
            go_loopw [50] (fun i wr => (∃ (j : Nat) (tx : List ByteArray), j ≤ f.text.length ∧ i = .int .i64 j ∧ Fresh w.heap.size wo.heap.size wr [.slice (some ⟨g, 0, none⟩) y.length co] (cur.set k ⟨f.path, tx⟩) ∧ Hid (MapTo (lineM path dst) f.text tx j) ∧ wr.cell? ⟨wo.heap.size, 1, none⟩ = some (.slice a1 f.text.length c1) ∧ wr.cell? ⟨g, k * 2 + 1, none⟩ = some (.slice a1 f.text.length c1) ∧ wo.heap.size < wr.heap.size) ∧ Below w.heap.size w wr) (fun i _ => f.text.length - (intOf i).toNat)
            case atStart => exact ⟨⟨0, f.text, by omega, rfl, hFb, HM0.out, q1, hc2b, hszb⟩, hbb⟩
            case round =>
              clear hFb HM0 q1 hc2b hszb hbb HW
              obtain ⟨⟨j, tx, hj, rfl, hF, HI, q1, hc2b, hszb⟩, hbq⟩ := hrel
              obtain ⟨wq, rfl⟩ : ∃ wq : World, wq = wr := ⟨_, rfl⟩
              have hkl : k < (cur.set k ⟨f.path, tx⟩).length := by rw [List.length_set]; exact hk'
              have hek : (cur.set k ⟨f.path, tx⟩)[k] = ⟨f.path, tx⟩ := List.getElem_set_self hkl
              have htl : tx.length = f.text.length := HI.out.1
              by_cases hjl : j < f.text.length
              · obtain ⟨hj', hej⟩ := mapTo_at HI.out hjl
                have hSL := hF.setLine (by omega) hkl (ad := a1) (c2 := c1) (by rw [hek]; show _ = some (Value.slice a1 tx.length c1); rw [htl]; exact hc2b) (j := j) (by rw [hek]; exact hj') (s := ⟨#[115, 101, 101, 32]⟩ ++ dst) (by rw [append_size]; unfold maxLen; show 4 + dst.size ≤ _; omega)
                obtain ⟨g2, hg2, hgb2, hgm2, hgne, hcl2, hfz2, hFN⟩ := hSL
                have hcl3 : wq.cell? ⟨g2, j, none⟩ = some (.string f.text[j]) := by
                  rw [hcl2]
                  congr 2
                  rw [← hej]
                  simp only [hek]
                have hset : (cur.set k ⟨f.path, tx⟩).set k ⟨(cur.set k ⟨f.path, tx⟩)[k].path, (cur.set k ⟨f.path, tx⟩)[k].text.set j (⟨#[115, 101, 101, 32]⟩ ++ dst)⟩ = cur.set k ⟨f.path, tx.set j (⟨#[115, 101, 101, 32]⟩ ++ dst)⟩ := by
                  rw [hek, List.set_set]
                rw [hset] at hFN
                have hzs : f.text[j].size ≤ maxLen := by
                  have h1 := (rd_slice_of hF.rd2).2.file hkl
                  obtain ⟨_, _, a8, c8, _, _, _, _, h8⟩ := h1
                  have h9 := h8.str (i := j) (by rw [hek]; exact hj')
                  obtain ⟨_, _, _, _, h10⟩ := h9
                  rw [← hej]
                  simp only [hek] at h10
                  exact h10
                have HI' := HI.out
                obtain ⟨s, hs⟩ : ∃ s, s = f.text[j] := ⟨_, rfl⟩
                rw [← hs] at hcl3 hzs
                have HNY : hitB path s = true → MapTo (lineM path dst) f.text (tx.set j (⟨#[115, 101, 101, 32]⟩ ++ dst)) (j + 1) := fun hp => mapTo_next HI' hjl (by rw [← hs]; exact (lineM_yes hp).symm)
                have HNN : hitB path s = false → MapTo (lineM path dst) f.text tx (j + 1) := fun hp => mapTo_skip HI' hjl (by rw [← hs]; exact lineM_no hp)
                have HY := Lib.hid HNY
                have HN := Lib.hid HNN
                have hno : ¬ 9223372036854775807 < 4 + dst.size := by omega
                subst hg2
                clear hs HNY HNN HI' hset hcl2 hek hej
                by_cases hr0 : refT s = ⟨#[]⟩
                · have HN2 := Lib.hid (HN.out (hit_none hr0))
                  go_wp2_with fail
                  refine (refers_none s _ hzs hr0).mono ?_
                  rintro e w8 ⟨u, rfl, rfl⟩
                  clear hr0
                  go_wp2
                  go_roundw
                  case rel => exact ⟨⟨j + 1, tx, by omega, by go_num, hF, HN2.out, q1, hc2b, hszb⟩, hbq⟩
                  case measure => simp [intOf] <;> omega
                · by_cases hrp : refT s = path
                  · have hd : decide (refT s = path) = true := decide_eq_true hrp
                    have HN2 := Lib.hid (HY.out (by rw [hit_some hr0]; exact hd))
                    go_wp2_with fail
                    refine (refers_some s _ hzs hr0).mono ?_
                    rintro e w8 ⟨rfl, rfl⟩
                    clear hr0 hrp
                    go_wp2
                    go_roundw
                    case rel => exact ⟨⟨j + 1, _, by omega, by go_num, hFN, HN2.out, by rw [World.cell?_of_block (w := wq) (Below.heap_setCell _ _ _ _ (by show wo.heap.size ≠ g2; omega))]; exact q1, by rw [World.cell?_of_block (w := wq) (Below.heap_setCell _ _ _ _ (by show g ≠ g2; omega))]; exact hc2b, by simpa using hszb⟩, hbq.setCell hgb2 _⟩
                    case measure => simp [intOf] <;> omega
                  · have hd : decide (refT s = path) = false := decide_eq_false hrp
                    have HN2 := Lib.hid (HN.out (by rw [hit_some hr0]; exact hd))
                    go_wp2_with fail
                    refine (refers_some s _ hzs hr0).mono ?_
                    rintro e w8 ⟨rfl, rfl⟩
                    clear hr0 hrp
                    go_wp2
                    go_roundw
                    case rel => exact ⟨⟨j + 1, tx, by omega, by go_num, hF, HN2.out, q1, hc2b, hszb⟩, hbq⟩
                    case measure => simp [intOf] <;> omega
              · have hte := mapTo_end HI.out hjl
                have hN := HNX.out ⟨f.path, tx⟩ (by rw [hte]; rfl)
                have HN2 := Lib.hid hN
                clear hte hN
                go_wp2
                go_roundw
                case rel => exact ⟨⟨k + 1, cur.set k ⟨f.path, tx⟩, by omega, by go_num, hF.now, HN2.out⟩, hbq⟩
                case measure => simp [intOf] <;> omega
          · have hce := mapTo_end HA.out hlt
            have hbf : b = treeB cur := by rw [← HBB.out, ruleMoveB_is HT.out HG.out HMB.out, ← HYT.out, hce]; rfl
            have hxt : (if b = true then cur else t) = x := by rw [HXB.out, ← HYT.out, hce]; rfl
            have hSc : ∀ g, g ∈ cur → ShortS g.path := fun g hg => by
              rw [hce] at hg
              obtain ⟨f, hf, rfl⟩ := List.mem_map.1 hg
              exact hyZ f hf
            have H1 := Lib.hid hbf
            have H2 := Lib.hid hxt
            have hMw := hM0.keep hbr
            clear hbf hxt hce
            go_wp2_with fail
            refine (implChanged _ _ t cur _ (hs0.keep hbr).rd hF (by omega) h10 hSc hMw hbr.size H1.out.symm (x := x) H2.out).mono ?_
            rintro e w9 ⟨v9, rfl, hR, hb9⟩
            obtain ⟨a9, c9, rfl, _⟩ := hR.shape
            go_wp2
            go_ret2
            exact ⟨_, rfl, hR, hbr.trans (hb9.mono hbr.size)⟩
end Go.Proofs.YtegknjcifmenpaaDoor
