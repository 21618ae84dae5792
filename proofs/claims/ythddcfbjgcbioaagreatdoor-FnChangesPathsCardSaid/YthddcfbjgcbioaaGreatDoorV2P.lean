/-
  Walks: patches put in. / Walks: patches put in, as the reference does. / Walks: what is read of a tree.
-/
import Derived.Test.YthddcfbjgcbioaaGreatDoorVCK
import Derived.Test.YthddcfbjgcbioaaGreatDoorVSM
import Derived.Test.YthddcfbjgcbioaaGreatDoorVM3
import Derived.Test.YthddcfbjgcbioaaGreatDoorVB
import Derived.Test.YthddcfbjgcbioaaGreatDoorVL
import Derived.Test.YthddcfbjgcbioaaGreatDoorVUM
import Derived.Test.YthddcfbjgcbioaaGreatDoorVGR
import Derived.Test.YthddcfbjgcbioaaGreatDoorVTR
import Derived.Test.YthddcfbjgcbioaaGreatDoorVCT
import Derived.Test.YthddcfbjgcbioaaGreatDoorVPB
set_option linter.unusedVariables false
namespace Go.Proofs.YthddcfbjgcbioaaGreatDoor
open Go.RowKit Go.Vc
open Go.Vc.Rep (rd)
open Go.Vc.Own (own)

set_option maxHeartbeats 4000000 in
set_option maxRecDepth 100000 in
theorem implPatchDo {S T : Nat → Prop} (v : Value) (t : List ByteArray) (u : Value) (d : List Hunk) (w : World) (hv : rd S w [v] t) (hu : rd T w [u] d) :
    Calls Tryz.prog 25 #[v, u] w fun e w' => ∃ v', e = .returned (.tuple #[v', .bool (pDo t d).2]) ∧ Fresh w.heap.size w'.heap.size w' [v'] (pDo t d).1 ∧ Below w.heap.size w w' := by
  obtain ⟨a, cap, rfl, hs⟩ := rd_slice_elim (Rep.lt hv)
  obtain ⟨b, cbp, rfl, ht⟩ := rd_slice_elim (Rep.lt hu)
  have hcap := hs.1
  cases h1 : textB t with
  | false =>
    have HD := Lib.hid (pDo_bad1 (d := d) h1)
    go_enter Tryz.func25, Tryz.ntmps25
    go_wp2_with fail
    refine (textOk_is _ _ _ hs.rd h1).mono ?_
    rintro e w' ⟨rfl, rfl⟩
    go_wp2
    go_ret2
    exact ⟨.slice none 0 0, by rw [HD.out]; rfl, by rw [HD.out]; exact Fresh.nil _ _ _ (by decide), Below.refl _ _⟩
  | true =>
    cases h2 : patchB d with
    | false =>
      have HD := Lib.hid (pDo_bad2 (t := t) h2)
      go_enter Tryz.func25, Tryz.ntmps25
      go_wp2_with fail
      refine (textOk_is _ _ _ hs.rd h1).mono ?_
      rintro e w' ⟨rfl, rfl⟩
      go_wp2_with fail
      refine (patchOk_is _ _ _ ht.rd h2).mono ?_
      rintro e w1 ⟨rfl, hb1⟩
      go_wp2
      go_ret2
      exact ⟨.slice none 0 0, by rw [HD.out]; rfl, by rw [HD.out]; exact Fresh.nil _ _ _ (by decide), hb1⟩
    | true =>
      have HD := Lib.hid (pDo_ok h1 h2)
      have htl := text_len10 h1
      have hdl := patch_len h2
      have HP := Lib.hid h2
      go_enter Tryz.func25, Tryz.ntmps25
      go_wp2_with fail
      refine (textOk_is _ _ _ hs.rd h1).mono ?_
      rintro e w' ⟨rfl, rfl⟩
      go_wp2_with fail
      refine (patchOk_is _ _ _ ht.rd h2).mono ?_
      rintro e w0 ⟨rfl, hb0⟩
      clear h1 h2
      go_wp2
      go_loopw [6, 7, 20] (fun out fr i wr => (∃ (k f : Nat) (ol : List ByteArray), k ≤ d.length ∧ f ≤ t.length ∧ i = .int .i64 k ∧ fr = .int .i64 f ∧ Fresh w.heap.size wr.heap.size wr [out] ol ∧ ol.length ≤ 20 * k ∧ Hid (∀ (h : k < d.length), (f : Int) ≤ d[k].at_) ∧ Hid (doF t d 0 [] = doF t (d.drop k) f ol)) ∧ Below w.heap.size w wr) (fun _ _ i _ => d.length - (intOf i).toNat)
      case atStart => exact ⟨⟨0, 0, [], by omega, by omega, rfl, rfl, Fresh.nil _ _ _ (by decide), by simp, by show ∀ _, _; intro h; exact (patch_at HP.out h).1, rfl⟩, hb0⟩
      case round =>
        obtain ⟨⟨k, f, ol, hk, hf, rfl, rfl, hF, hol, HG, HA⟩, hb⟩ := hrel
        obtain ⟨a2, c2, rfl, _⟩ := hF.shape
        have hsize := hb.size
        by_cases hlt : k < d.length
        · obtain ⟨g, off, a1, c1, a3, c3, rfl, q0, q1, q2, hi0, hl1, hl2⟩ := (ht.keep hb).hunk hlt
          obtain ⟨p0, p1, p2, p3, p4⟩ := patch_at HP.out hlt
          have hg := HG.out hlt
          have HN := Lib.hid (show ∀ (h : k + 1 < d.length), d[k].at_ + d[k].less.length < d[k + 1].at_ from fun h => patch_gap HP.out (i := k + 1) (by omega) h)
          have HL := Lib.hid (doF_long (R := doF t d 0 []) HA.out hlt)
          have HO := Lib.hid (doF_other (R := doF t d 0 []) HA.out hlt)
          have HX := Lib.hid (doF_next (R := doF t d 0 []) HA.out hlt)
          have hml := text_len10 p2
          have hmm := text_len10 p3
          obtain ⟨hh, hhe⟩ : ∃ hh, hh = d[k] := ⟨_, rfl⟩
          rw [← hhe] at q0 q1 q2 hi0 hl1 hl2 p0 p1 p2 p3 p4 hg HN HL HO HX hml hmm
          clear hhe p2 p3 p4
          obtain ⟨n, hn⟩ : ∃ n : Nat, hh.at_ = (n : Int) := ⟨hh.at_.toNat, by omega⟩
          have hnt : hh.at_.toNat = n := by omega
          rw [hnt] at HL HO HX
          rw [hn] at q0 p1 hg
          obtain ⟨wb, hwb⟩ : ∃ wb, wb = wr.alloc (.cells #[.int .i64 (n : Int), .slice a1 hh.less.length c1, .slice a3 hh.more.length c3] 73) := ⟨_, rfl⟩
          obtain ⟨hB0, hwz, hq⟩ := boxed (vs := [.int .i64 (n : Int), .slice a1 hh.less.length c1, .slice a3 hh.more.length c3]) hwb
          have Q0 := Lib.hid (hq 0 _ rfl)
          have Q1 := Lib.hid (hq 1 _ rfl)
          have Q2 := Lib.hid (hq 2 _ rfl)
          have q0 := BW.cell Q0.out
          have q1 := BW.cell Q1.out
          have q2 := BW.cell Q2.out
          have hl1 := hl1.keep (hB0.mono hsize)
          have hl2 := hl2.keep (hB0.mono hsize)
          have hbb := hb.trans (hB0.mono hsize)
          have HW := Lib.hid hwb
          clear hwb hq
          have hsb := hs.keep hbb
          have hpa : -1000000 ≤ hh.at_ ∧ hh.at_ ≤ 1000000 := by omega
          have hpl : hh.less.length ≤ 1000000 := by omega
          have hEnd := fun (n : BW wb) => hunkEnd_any hh (.slice a3 hh.more.length c3) (a1 := a1) (c1 := c1) n.w hpl hpa
          rw [hn] at hEnd
          by_cases hc : t.length < n + hh.less.length
          · have hcd : decide ((t.length : Int) < (n : Int) + (hh.less.length : Int)) = true := decide_eq_true (by omega)
            have HZ := Lib.hid (pDoF_none (HL.out hc) rfl)
            go_wp2
            rw [← HW.out]
            refine wp_region_bw (by kernel_rfl) (by kernel_rfl) ?_
            repeat (go_big_quiet_step ((go_at_call 51; exact Calls.bw (hEnd _))))
            refine wpQuiet_nil ?_
            rintro w1 ⟨⟨_, hbw⟩, rfl⟩
            go_wp2
            go_ret2
            exact ⟨.slice none 0 0, by rw [HD.out, HZ.out]; rfl, by rw [HD.out, HZ.out]; exact Fresh.nil _ _ _ (by decide), hbb.trans (hbw.mono hbb.size)⟩
          · have hcd : decide ((t.length : Int) < (n : Int) + (hh.less.length : Int)) = false := decide_eq_false (by omega)
            have hct := cut_int a t.length cap n hh.less.length (by omega) (by omega) (by omega) hcap
            rw [Int.toNat_natCast, Int.toNat_natCast] at hct
            have hcs := (cutS hsb (f := n) (by omega)).take hh.less.length
            have hcl : ((t.drop n).take hh.less.length).length = hh.less.length := by simp; omega
            obtain ⟨ys, hys⟩ : ∃ ys, ys = (t.drop n).take hh.less.length := ⟨_, rfl⟩
            rw [← hys] at hcs hcl HO HX
            by_cases he : ys = hh.less
            · have he2 : decide (ys = hh.less) = true := decide_eq_true he
              have HZ := Lib.hid (HX.out hc he)
              have hcr := hcs.rd
              rw [hcl] at hcr
              have hF1 := hF.below (Nat.le_refl _) hB0
              clear he
              go_wp2
              rw [← HW.out]
              refine wp_region_bw (by kernel_rfl) (by kernel_rfl) ?_
              repeat (go_big_quiet_step ((first | (go_at_call 51; exact Calls.bw (hEnd _)) | (go_at_call 23; exact Calls.bw_drew (slicesEqual_is _ _ _ _ _ (Rep.below hcr (Nat.le_refl _) (BW.below _)) (hl1.bw _).rd he2)))))
              refine wpQuiet_nil ?_
              rintro w1 ⟨⟨_, hbw⟩, rfl⟩
              have hF2 := hF1.below (Nat.le_refl _) hbw
              have hb2 := hbb.trans (hbw.mono hbb.size)
              have hs2 := hs.keep hb2
              have hl2 := hl2.keep (hbw.mono hbb.size)
              have q0 := keepc Q0.out hbw
              have q1 := keepc Q1.out hbw
              have q2 := keepc Q2.out hbw
              have hsz2 := hbw.size
              have hszb := hb2.size
              clear hbw hct hcd hcs hcr hcl he2
              obtain ⟨wo, rfl⟩ : ∃ wo : World, wo = w1 := ⟨_, rfl⟩
              obtain ⟨zs, hzs⟩ : ∃ zs, zs = cutF t f n := ⟨_, rfl⟩
              have hzl : zs.length = n - f := by rw [hzs]; exact cutF_len (by omega) (by omega)
              have hcz := (cutS hs2 (f := f) (by omega)).take (n - f)
              rw [show (t.drop f).take (n - f) = zs from hzs.symm] at hcz
              rw [← hzs] at HZ
              have hct := cut_nat a t.length cap f n (by omega) (by omega) hcap
              have HZL := Lib.hid hzl
              have hzb : zs.length ≤ 10 := by omega
              clear hzs hzl
              go_wp2_with fail
              have hFX := hF2.off (H := fun b => b = wr.heap.size) (fun b hb => by omega)
              go_region_law (first
                | (refine step_app_leafX slz_string.slt rfl (.tmp 41) (.tmp 46) rfl rfl (by exact hFX.drew) (by intro b hb; simp <;> omega) (by simp <;> omega) rfl HZL.out.symm (by exact hcz.drew) (by omega) (by unfold maxLen; omega) ?_; intro a5 c5 w5 hG5; have hF5 := hG5.fresh; have hb5 := hb2.drew.trans hG5.below; have hz5 := hG5.below.size; have q0 := hG5.cell (show wo.drew.cell? _ = _ from q0) rfl; have q1 := hG5.cell (show wo.drew.cell? _ = _ from q1) rfl; have q2 := hG5.cell (show wo.drew.cell? _ = _ from q2) rfl; have hl5 := hl2.drew.keep hG5.below)
                | (refine step_app_leafX slz_string.slt rfl (.tmp 47) (.tmp 49) rfl rfl hF5 (by intro b hb; simp at hz5; omega) hb5.size rfl rfl hl5 (by simp <;> omega) (by unfold maxLen; simp <;> omega) ?_; intro a9 c9 w9 hG9))
              all_goals
                have hF9 := hG9.fresh.fresh
                have hb9 := hb5.trans hG9.below
                have q0 := hG9.cell q0 rfl
                have q1 := hG9.cell q1 rfl
                have q2 := hG9.cell q2 rfl
                have hEnd9 := hunkEnd_any hh (.slice a3 hh.more.length c3) (a1 := a1) (c1 := c1) w9 hpl hpa
                rw [hn] at hEnd9
                go_wp2_with fail
                refine hEnd9.mono ?_
                rintro e w10 ⟨rfl, hb10⟩
                have hF10 := hF9.below (Nat.le_refl _) hb10
                go_wp2
                go_roundw
                case rel => exact ⟨⟨k + 1, n + hh.less.length, ol ++ zs ++ hh.more, by omega, by omega, by go_num, by go_num, by have := hF10.now; simpa only [List.length_append, HZL.out] using this, by simp; omega, by show ∀ _, _; intro h; have := HN.out h; omega, HZ.out⟩, hb9.trans (hb10.mono hb9.size)⟩
                case measure => simp [intOf]; omega
            · have he2 : decide (ys = hh.less) = false := decide_eq_false he
              have HZ := Lib.hid (pDoF_none (HO.out he) rfl)
              have hcr := hcs.rd
              rw [hcl] at hcr
              go_wp2
              rw [← HW.out]
              refine wp_region_bw (by kernel_rfl) (by kernel_rfl) ?_
              repeat (go_big_quiet_step ((first | (go_at_call 51; exact Calls.bw (hEnd _)) | (go_at_call 23; exact Calls.bw_drew (slicesEqual_is _ _ _ _ _ (Rep.below hcr (Nat.le_refl _) (BW.below _)) (hl1.bw _).rd he2)))))
              refine wpQuiet_nil ?_
              rintro w1 ⟨⟨_, hbw⟩, rfl⟩
              go_wp2
              go_ret2
              exact ⟨.slice none 0 0, by rw [HD.out, HZ.out]; rfl, by rw [HD.out, HZ.out]; exact Fresh.nil _ _ _ (by decide), hbb.trans (hbw.mono hbb.size)⟩
        · have HE := Lib.hid (doF_end (R := doF t d 0 []) HA.out hlt)
          have hct := cut_from a t.length cap f hf
          have hcs := cutS (hs.keep hb) (f := f) hf
          have hcl : (t.drop f).length = t.length - f := by simp
          obtain ⟨zs, hzs⟩ : ∃ zs, zs = t.drop f := ⟨_, rfl⟩
          rw [← hzs] at hcs hcl HE
          have HC := Lib.hid hcl
          have hzl : zs.length ≤ 10 := by omega
          clear hcl hzs
          go_wp2_with (at_builtin; go_must (refine wpList_app_leaf slz_string.slt rfl (.tmp 54) (.tmp 57) rfl rfl hF hsize rfl HC.out.symm hcs (by omega) (by unfold maxLen; omega) ?_); intro a4 c4 w4 hG4)
          have hF4 := hG4.fresh
          have hb4 := hb.trans hG4.below
          obtain ⟨zz, hzz⟩ : ∃ zz, zz = ol ++ zs := ⟨_, rfl⟩
          rw [← hzz] at hF4 HE
          cases htx : textB zz with
          | false =>
            have HZ := Lib.hid (pDoF_long HE.out htx)
            go_wp2_with fail
            refine (textOk_is _ _ _ hF4.rd htx).mono ?_
            rintro e w' ⟨rfl, rfl⟩
            clear htx
            go_wp2
            go_ret2
            exact ⟨.slice none 0 0, by rw [HD.out, HZ.out]; rfl, by rw [HD.out, HZ.out]; exact Fresh.nil _ _ _ (by decide), hb4⟩
          | true =>
            have HZ := Lib.hid (pDoF_some HE.out htx)
            go_wp2_with fail
            refine (textOk_is _ _ _ hF4.rd htx).mono ?_
            rintro e w' ⟨rfl, rfl⟩
            clear htx
            go_wp2
            go_ret2
            exact ⟨_, by rw [HD.out, HZ.out]; rfl, by rw [HD.out, HZ.out]; exact hF4, hb4⟩
end Go.Proofs.YthddcfbjgcbioaaGreatDoor
namespace Go.Proofs.YthddcfbjgcbioaaGreatDoor
open Go.RowKit Go.Vc
open Go.Vc.Rep (rd)
open Go.Vc.Own (own)

theorem keepB {B : Nat} {w w' : World} {p : Addr} {v : Value} (h : w.cell? p = some v) (hb : Below B w w') (hp : p.block < B) : w'.cell? p = some v := by
  rw [hb.cell (p := p) hp]; exact h
theorem block_of {α : Type} [Rep α] {B : Nat} {w : World} {a : Option Addr} {cap : Nat} {xs : List α} (h : IsSlice (fun b => b < B) w a cap xs) {i : Nat} (hi : i < xs.length) {g off : Nat} (e : a = some ⟨g, off, none⟩) : g < B := by
  obtain ⟨g', off', us, h1, h2, _⟩ := h.elem hi
  rw [e] at h1
  simp only [Option.some.injEq, Addr.mk.injEq, and_true] at h1
  rw [h1.1]; exact h2

end Go.Proofs.YthddcfbjgcbioaaGreatDoor
namespace Go.Proofs.YthddcfbjgcbioaaGreatDoor
open Go.RowKit Go.Vc
open Go.Vc.Rep (rd)
open Go.Vc.Own (own)

set_option maxHeartbeats 1000000 in
theorem implTreeGet {S : Nat → Prop} (v : Value) (t : List File) (path : ByteArray) (w : World) (hv : rd S w [v] t) (hS : ∀ f, f ∈ t → ShortS f.path) (hM : ML w) {M : Option (List ByteArray)} (h : treeGet t path = M) :
    Calls Tryz.prog 11 #[v, .string path] w fun e w' => ∃ v', e = .returned (.tuple #[v', .bool M.isSome]) ∧ Fresh w.heap.size w'.heap.size w' [v'] (M.getD []) ∧ Below w.heap.size w w' := by
  have hv := Rep.lt hv
  cases hb : treeB t with
  | false =>
    rw [treeGet_bad hb] at h
    subst h
    go_enter Tryz.func11, Tryz.ntmps11
    go_wp2_with fail
    refine (treeOk_is _ t _ hv hS hM hb).mono ?_
    rintro e w1 ⟨rfl, hb1⟩
    go_wp2
    go_ret2
    exact ⟨.slice none 0 0, rfl, Fresh.nil _ _ _ (by decide), hb1⟩
  | true =>
    rw [treeGet_ok hb] at h
    have HH := Lib.hid h
    clear h
    obtain ⟨h8, h10⟩ := tree_files hb
    go_enter Tryz.func11, Tryz.ntmps11
    go_wp2_with fail
    refine (treeOk_is _ t _ hv hS hM hb).mono ?_
    rintro e w1 ⟨rfl, hb1⟩
    go_wp2_with fail
    refine (get_any _ t path _ (Rep.keep hv hb1) h10 HH.out).mono ?_
    rintro e w2 ⟨v2, rfl, hF, hb2⟩
    go_wp2
    go_ret2
    exact ⟨v2, rfl, hF.mono hb1.size (Nat.le_refl _), hb1.trans (hb2.mono hb1.size)⟩
end Go.Proofs.YthddcfbjgcbioaaGreatDoor
