/-
  Walks: a file moved, and all lines that refer to it, as the reference does it.
-/
import Derived.Test.YtegknjcifmenpaaDoorWMoveO
import Derived.Test.YtegknjcifmenpaaDoorVGR
import Derived.Test.YtegknjcifmenpaaDoorVRM
set_option linter.unusedVariables false
namespace Go.Vc
theorem path_ne {t : List File} {p : ByteArray} (hT : treeB t = true) {x : List ByteArray} (h : getT t p = some x) : ¬ p = ⟨#[]⟩ := fun e => by
  obtain ⟨f, hf, hp⟩ : ∃ f, f ∈ t ∧ f.path = p := by
    clear hT
    induction t with
    | nil => cases h
    | cons g r ih =>
      rw [getT] at h
      split at h
      · rename_i hg
        exact ⟨g, List.mem_cons_self .., hg⟩
      · obtain ⟨f, h1, h2⟩ := ih h
        exact ⟨f, List.mem_cons_of_mem _ h1, h2⟩
  have h1 := (((tree_iff t).1 hT).2.1 f hf).1
  rw [hp, e] at h1
  exact absurd h1 (by decide)
theorem lineM_path {path dst s : ByteArray} (h : ¬ path = ⟨#[]⟩) : lineM path dst s = if refT s = path then seeT ++ dst else s := by
  unfold lineM
  rw [hit_path h]
  by_cases e : refT s = path
  · rw [decide_eq_true e, if_pos rfl, if_pos e]
  · rw [decide_eq_false e, if_neg (by simp), if_neg e]
end Go.Vc
namespace Go.Proofs.YtegknjcifmenpaaDoor
open Go.RowKit Go.Vc
open Go.Vc.Rep (rd)
open Go.Vc.Own (own)
theorem l16Line_is (s path dst : ByteArray) (w : World) (hs : s.size ≤ maxLen) (hd : dst.size ≤ 1048576) {r : ByteArray} (hr : (if refT s = path then seeT ++ dst else s) = r) :
    Calls Tryd.prog 41 #[.string s, .string path, .string dst] w fun e w' => e = .returned (.string r) ∧ w = w' := by
  have hno : ¬ 9223372036854775807 < 4 + dst.size := by omega
  by_cases h : refT s = path
  · have hd2 : decide (refT s = path) = true := decide_eq_true h
    rw [if_pos h] at hr
    subst hr
    clear h
    go_enter Tryd.func41, Tryd.ntmps41
    go_wp2_with fail
    refine (l16Ref_is s _ hs rfl).mono ?_
    rintro e w1 ⟨rfl, rfl⟩
    go_wp2
    go_ret
    exact ⟨rfl, rfl⟩
  · have hd2 : decide (refT s = path) = false := decide_eq_false h
    rw [if_neg h] at hr
    subst hr
    clear h
    go_enter Tryd.func41, Tryd.ntmps41
    go_wp2_with fail
    refine (l16Ref_is s _ hs rfl).mono ?_
    rintro e w1 ⟨rfl, rfl⟩
    go_wp2
    go_ret
    exact ⟨rfl, rfl⟩
set_option maxHeartbeats 8000000 in
set_option maxRecDepth 100000 in
theorem specRuleMove {S : Nat → Prop} (v : Value) (t : List File) (path dst : ByteArray) (w : World) (hv : rd S w [v] t) (hzp : path.size ≤ 1048576) (hzd : dst.size ≤ 1048576) (hZ : ∀ f, f ∈ t → f.path.size ≤ 1048576) {b : Bool} (hbb : ruleMoveB t path dst = b) {x : List File} (hxx : ruleMove t path dst = x) :
    Calls Tryd.prog 13 #[v, .string path, .string dst] w fun e w' => ∃ v', e = .returned (.tuple #[v', .bool b]) ∧ Fresh w.heap.size w'.heap.size w' [v'] x ∧ Below w.heap.size w w' := by
  have hv := Rep.lt hv
  obtain ⟨a0, cap0, rfl, hs0⟩ := rd_slice_elim hv
  have hle := hs0.le
  have hzp9 : path.size ≤ maxLen := by unfold maxLen; omega
  obtain ⟨G, hg⟩ : ∃ G, getT t path = G := ⟨_, rfl⟩
  cases hb : treeB t with
  | false =>
    have HX : Hid (x = []) := by show _ = _; rw [← hxx, ruleMove_bad hb]
    have HB_ : Hid (b = false) := by show _ = _; rw [← hbb, ruleMoveB_bad hb]
    clear hbb hxx
    go_enter Tryd.func13, Tryd.ntmps13
    go_wp2_with fail
    refine (l4Get_any _ t path _ hv hg).mono ?_
    rintro e w1 ⟨v1, rfl, hG1, rfl⟩
    obtain ⟨ag, cg, hgv, _⟩ := rd_slice_elim hG1
    subst hgv
    go_wp2_with fail
    refine (l4Ok_is _ t _ hv hb).mono ?_
    rintro e w2 ⟨rfl, hb2⟩
    go_wp2
    go_ret2
    exact ⟨.slice none 0 0, by rw [HB_.out]; rfl, by rw [HX.out]; exact Fresh.nil _ _ _ (by decide), hb2⟩
  | true =>
    have HXB : Hid (x = if b = true then treeM path dst (movedT t path dst) else t) := by show _ = _; rw [← hxx, ← hbb, ruleMove_ok hb]
    have HT := Lib.hid hb
    have HBB := Lib.hid hbb
    have HG := Lib.hid hg
    obtain ⟨h8, h10⟩ := tree_files hb
    obtain ⟨mb, hmb⟩ : ∃ mb, moveB t path dst = mb := ⟨_, rfl⟩
    obtain ⟨y, hy⟩ : ∃ y, treeMove t path dst = y := ⟨_, rfl⟩
    have HMB := Lib.hid hmb
    have HY := Lib.hid hy
    clear hbb hxx hmb hy
    go_enter Tryd.func13, Tryd.ntmps13
    go_wp2_with fail
    refine (l4Get_any _ t path _ hv hg).mono ?_
    rintro e w1 ⟨v1, rfl, hG1, hw1⟩
    obtain ⟨ag, cg, hgv, _⟩ := rd_slice_elim hG1
    subst hgv
    subst hw1
    go_wp2_with fail
    refine (l4Ok_is _ t _ hv hb).mono ?_
    rintro e w2 ⟨rfl, HB⟩
    have hs2 := HB.size
    clear hG1 hg hb
    go_wp2_with fail
    refine (specTreeMove_own _ t path dst _ (hs0.keep HB).rd hzp hzd hZ HMB.out HY.out).mono ?_
    rintro e w3 ⟨v3, rfl, hO, hb3⟩
    obtain ⟨ao, co, hov, _⟩ := hO.shape
    subst hov
    have HB := HB.trans (hb3.mono hs2)
    have hs3 := HB.size
    have hO := hO.mono (B' := w1.heap.size) hs2 (Nat.le_refl _)
    clear hb3
    cases hgm : (G.isSome && mb) with
    | false =>
      have hbf : b = false := by
        rw [← HBB.out]
        cases G with
        | none => exact ruleMoveB_none HG.out
        | some px =>
          cases mb with
          | false => exact ruleMoveB_not HMB.out
          | true => cases hgm
      have hxt : x = t := by rw [HXB.out, hbf]; rfl
      have H1 := Lib.hid hbf
      have H2 := Lib.hid hxt
      clear hbf hxt
      cases G with
      | none =>
        go_wp2_with fail
        refine (l4Copy_any _ t _ (hs0.keep HB).rd (by omega) h10).mono ?_
        rintro e w4 ⟨vc, rfl, hC, hb4⟩
        go_wp2
        go_ret2
        exact ⟨vc, by rw [H1.out]; rfl, by rw [H2.out]; exact hC.mono hs3 (Nat.le_refl _), HB.trans (hb4.mono hs3)⟩
      | some px =>
        cases mb with
        | true => cases hgm
        | false =>
          go_wp2_with fail
          refine (l4Copy_any _ t _ (hs0.keep HB).rd (by omega) h10).mono ?_
          rintro e w4 ⟨vc, rfl, hC, hb4⟩
          go_wp2
          go_ret2
          exact ⟨vc, by rw [H1.out]; rfl, by rw [H2.out]; exact hC.mono hs3 (Nat.le_refl _), HB.trans (hb4.mono hs3)⟩
    | true =>
      rw [Bool.and_eq_true] at hgm
      obtain ⟨hgs, hmt⟩ := hgm
      subst hmt
      obtain ⟨px, hpx⟩ := Option.isSome_iff_exists.1 hgs
      subst hpx
      have hyt : y = movedT t path dst := by rw [← HY.out, move_ok HT.out, HMB.out]; rfl
      have HYT := Lib.hid hyt
      have hTy : treeB y = true := (move_law' HT.out HMB.out HY.out).1
      have hy10 := (tree_files hTy).2
      have hpne := path_ne HT.out HG.out
      have HLM := Lib.hid (fun (s : ByteArray) => (lineM_path (dst := dst) (s := s) hpne).symm)
      have H0 : Hid (MapTo (fileM path dst) y y 0) := mapTo_start _ _
      have hylen : y.length ≤ 8 := (tree_files hTy).1
      clear hyt hTy hpne hgs
      go_wp2
      go_loopw [12] (fun i wr => (∃ (k : Nat) (cur : List File), k ≤ y.length ∧ i = .int .i64 k ∧ Fresh w1.heap.size wr.heap.size wr [.slice ao y.length co] cur ∧ Hid (MapTo (fileM path dst) y cur k)) ∧ Below w1.heap.size w1 wr) (fun i _ => y.length - (intOf i).toNat)
      case atStart => exact ⟨⟨0, y, by omega, rfl, hO, H0.out⟩, HB⟩
      case round =>
        clear H0 hO HB
        obtain ⟨⟨k, cur, hk, rfl, hF, HA⟩, hbr⟩ := hrel
        obtain ⟨wo, rfl⟩ : ∃ wo : World, wo = wr := ⟨_, rfl⟩
        have hcl : cur.length = y.length := HA.out.1
        have hsr := hbr.size
        by_cases hlt : k < y.length
        · obtain ⟨hk', hck⟩ := mapTo_at HA.out hlt
          obtain ⟨g, hag, hgB, hgm⟩ := hF.addr (by omega)
          subst hag
          obtain ⟨g9, off, a1, c1, he, hc1, hc2, hz1, _⟩ := (rd_slice_of hF.rd2).2.file hk'
          obtain ⟨rfl, rfl⟩ : g = g9 ∧ 0 = off := by simpa using he
          rw [Nat.zero_add] at hc1 hc2
          have HNX := fun (z : File) (hz : z = fileM path dst y[k]) => mapTo_next HA.out hlt hz
          have hxk := hy10 _ (List.getElem_mem hlt)
          have hcs : cur.set k ⟨y[k].path, y[k].text⟩ = cur := by
            rw [show (⟨y[k].path, y[k].text⟩ : File) = cur[k] from hck.symm]
            exact List.set_getElem_self hk'
          obtain ⟨f, hf⟩ : ∃ f, f = y[k] := ⟨_, rfl⟩
          rw [hck] at hc1 hc2 hz1
          rw [← hf] at hc1 hc2 hz1 HNX hxk hcs
          have HNX := Lib.hid HNX
          have hFb : Fresh w1.heap.size wo.heap.size wo [.slice (some ⟨g, 0, none⟩) y.length co] (cur.set k ⟨f.path, f.text⟩) := by rw [hcs]; exact hF
          have HM0 : Hid (MapTo (lineM path dst) f.text f.text 0) := mapTo_start _ _
          clear hf hck hcs hF
          go_wp2
          go_loopw [13] (fun i wr => (∃ (j : Nat) (tx : List ByteArray), j ≤ f.text.length ∧ i = .int .i64 j ∧ Fresh w1.heap.size wo.heap.size wr [.slice (some ⟨g, 0, none⟩) y.length co] (cur.set k ⟨f.path, tx⟩) ∧ Hid (MapTo (lineM path dst) f.text tx j) ∧ wr.cell? ⟨g, k * 2 + 1, none⟩ = some (.slice a1 f.text.length c1) ∧ wo.heap.size ≤ wr.heap.size) ∧ Below w1.heap.size w1 wr) (fun i _ => f.text.length - (intOf i).toNat)
          case atStart => exact ⟨⟨0, f.text, by omega, rfl, hFb, HM0.out, hc2, Nat.le_refl _⟩, hbr⟩
          case round =>
            clear hFb HM0
            obtain ⟨⟨j, tx, hj, rfl, hF, HI, hc2b, hszb⟩, hbq⟩ := hrel
            obtain ⟨wq, rfl⟩ : ∃ wq : World, wq = wr := ⟨_, rfl⟩
            have hkl : k < (cur.set k ⟨f.path, tx⟩).length := by rw [List.length_set]; exact hk'
            have hek : (cur.set k ⟨f.path, tx⟩)[k] = ⟨f.path, tx⟩ := List.getElem_set_self hkl
            have htl : tx.length = f.text.length := HI.out.1
            by_cases hjl : j < f.text.length
            · obtain ⟨hj', hej⟩ := mapTo_at HI.out hjl
              obtain ⟨s, hs⟩ : ∃ s, s = f.text[j] := ⟨_, rfl⟩
              have hzs : s.size ≤ maxLen := by
                have h1 := (rd_slice_of hF.rd2).2.file hkl
                obtain ⟨_, _, a8, c8, _, _, _, _, h8⟩ := h1
                have h9 := h8.str (i := j) (by rw [hek]; exact hj')
                obtain ⟨_, _, _, _, h10⟩ := h9
                rw [hs, ← hej]
                simp only [hek] at h10
                exact h10
              obtain ⟨r, hr⟩ : ∃ r, r = lineM path dst s := ⟨_, rfl⟩
              have hrz : r.size ≤ maxLen := by
                rw [hr]
                unfold lineM
                split
                · rw [append_size]; unfold maxLen; show 4 + dst.size ≤ _; omega
                · exact hzs
              have hdr : wq.drew.cell? ⟨g, k * 2 + 1, none⟩ = some (.slice a1 f.text.length c1) := hc2b
              have hSL := hF.drew.setLine (by show wo.heap.size ≤ wq.heap.size; omega) hkl (ad := a1) (c2 := c1) (by rw [hek]; show _ = some (Value.slice a1 tx.length c1); rw [htl]; exact hdr) (j := j) (by rw [hek]; exact hj') (s := r) hrz
              obtain ⟨g2, hg2, hgb2, hgm2, hgne, hcl2, hfz2, hFN⟩ := hSL
              have hcl3 : wq.cell? ⟨g2, j, none⟩ = some (.string s) := by
                have : wq.drew.cell? ⟨g2, j, none⟩ = some (.string s) := by
                  rw [hcl2]
                  congr 2
                  rw [hs, ← hej]
                  simp only [hek]
                exact this
              have hset : (cur.set k ⟨f.path, tx⟩).set k ⟨(cur.set k ⟨f.path, tx⟩)[k].path, (cur.set k ⟨f.path, tx⟩)[k].text.set j r⟩ = cur.set k ⟨f.path, tx.set j r⟩ := by
                rw [hek, List.set_set]
              rw [hset] at hFN
              have HN2 := Lib.hid (mapTo_next HI.out hjl (y := r) (by rw [hr, hs]))
              have hrr := (HLM.out s).trans hr.symm
              have hfzq : wq.frozen? ⟨g2, j, none⟩ = false := hfz2
              have hcell9 : (wq.drew.setCell ⟨g2, j, none⟩ (.string r)).cell? ⟨g, k * 2 + 1, none⟩ = some (.slice a1 f.text.length c1) := by
                rw [World.cell?_of_block (w := wq.drew) (Below.heap_setCell _ _ _ _ (by show g ≠ g2; omega))]
                exact hdr
              have hcl3d : wq.drew.cell? ⟨g2, j, none⟩ = some (.string s) := hcl3
              subst hg2
              clear hs hr hset hcl2 hek hej hrz
              go_wp2_with fail
              go_region_law (first | (go_simp; go_at_call 41; refine (l16Line_is s path dst _ hzs hzd hrr).mono ?_; rintro e wA ⟨rfl, hwA⟩; subst hwA))
              all_goals
                go_wp2
                go_roundw
                case rel => exact ⟨⟨j + 1, _, by omega, by go_num, hFN, HN2.out, hcell9, by simpa using hszb⟩, hbq.drew.setCell hgb2 _⟩
                case measure => simp [intOf] <;> omega
            · have hte := mapTo_end HI.out hjl
              have hN := HNX.out ⟨f.path, tx⟩ (by rw [hte]; rfl)
              have HN2 := Lib.hid hN
              clear hte hN
              go_wp2
              go_roundw
              case rel => exact ⟨⟨k + 1, cur.set k ⟨f.path, tx⟩, by omega, by go_num, hF.now, HN2.out⟩, hbq⟩
              case measure => simp [intOf] <;> omega
        · have hce := mapTo_end HA.out hlt
          have hbf : b = treeB cur := by rw [← HBB.out, ruleMoveB_is HT.out HG.out HMB.out, ← HYT.out, hce]; rfl
          have hxt : x = if b = true then cur else t := by rw [HXB.out, ← HYT.out, hce]; rfl
          have H1 := Lib.hid hbf
          have H2 := Lib.hid hxt
          clear hbf hxt hce
          cases b with
          | false =>
            go_wp2_with fail
            refine (l4Ok_is _ cur _ hF.rd H1.out.symm).mono ?_
            rintro e w5 ⟨rfl, hb5⟩
            have HB5 := hbr.trans (hb5.mono hsr)
            go_wp2_with fail
            refine (l4Copy_any _ t _ (hs0.keep HB5).rd (by omega) h10).mono ?_
            rintro e w6 ⟨vc, rfl, hC, hb6⟩
            go_wp2
            go_ret2
            exact ⟨vc, rfl, by rw [H2.out]; exact hC.mono HB5.size (Nat.le_refl _), HB5.trans (hb6.mono HB5.size)⟩
          | true =>
            go_wp2_with fail
            refine (l4Ok_is _ cur _ hF.rd H1.out.symm).mono ?_
            rintro e w5 ⟨rfl, hb5⟩
            have HB5 := hbr.trans (hb5.mono hsr)
            go_wp2
            go_ret2
            exact ⟨_, rfl, by rw [H2.out]; exact (hF.below (Nat.le_refl _) hb5).now, HB5⟩
end Go.Proofs.YtegknjcifmenpaaDoor
