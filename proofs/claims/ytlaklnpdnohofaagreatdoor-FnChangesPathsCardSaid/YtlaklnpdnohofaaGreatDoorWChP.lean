/-
  Walks: changes that are ok, and their paths, as the reference has it, all of them.
-/
import Derived.Test.YtlaklnpdnohofaaGreatDoorWChP0
set_option linter.unusedVariables false
namespace Go.Proofs.YtlaklnpdnohofaaGreatDoor
open Go.RowKit Go.Vc
open Go.Vc.Rep (rd)
open Go.Vc.Own (own)
theorem okAll_bad {l : List Change} {k : Nat} {R : Bool} (H : R = (okAll (l.take k) (l.drop k) && decide (l.length ≤ 16))) (hk : k < l.length) (h : okC (l.take k) l[k] = false) : R = false := by
  rw [H, drop_cons l k hk, okAll, h]; rfl
theorem okAll_next {l : List Change} {k : Nat} {R : Bool} (H : R = (okAll (l.take k) (l.drop k) && decide (l.length ≤ 16))) (hk : k < l.length) (h : okC (l.take k) l[k] = true) : R = (okAll (l.take (k + 1)) (l.drop (k + 1)) && decide (l.length ≤ 16)) := by
  rw [H, drop_cons l k hk, okAll, h, Bool.true_and, List.take_succ_eq_append_getElem hk]
theorem okAll_end {l : List Change} {k : Nat} {R : Bool} (H : R = (okAll (l.take k) (l.drop k) && decide (l.length ≤ 16))) (hk : ¬ k < l.length) : R = decide (l.length ≤ 16) := by
  rw [H, drop_nil l k hk, okAll, Bool.true_and]
theorem okC_is (l : List Change) (c : Change) : okC l c = (changeB c && (freeC l c.path && (decide (c.dst = ⟨#[]⟩) || freeC l c.dst))) := rfl
set_option maxHeartbeats 8000000 in
set_option maxRecDepth 100000 in
theorem l5Ok_is {S : Nat → Prop} (v : Value) (l : List Change) (w : World) (hv : rd S w [v] l) {R : Bool} (hR : changesB l = R) :
    Calls Tryz.prog 44 #[v] w fun e w' => e = .returned (.bool R) ∧ Below w.heap.size w w' := by
  obtain ⟨a, cap, rfl, hs⟩ := rd_slice_elim (Rep.lt hv)
  have hle := hs.le
  have hcap := hs.1
  have HR : Hid (R = (okAll (l.take 0) (l.drop 0) && decide (l.length ≤ 16))) := by show _ = _; rw [← hR, List.take_zero, List.drop_zero, okAll_changes]
  clear hv hR
  go_enter Tryz.func44, Tryz.ntmps44
  go_wp2
  go_loopw [3] (fun i wr => (∃ k : Nat, k ≤ l.length ∧ i = .int .i64 k ∧ Hid (R = (okAll (l.take k) (l.drop k) && decide (l.length ≤ 16)))) ∧ Below w.heap.size w wr) (fun i _ => l.length - (intOf i).toNat)
  case atStart => exact ⟨⟨0, by omega, rfl, HR.out⟩, Below.refl _ _⟩
  case round =>
    obtain ⟨⟨k, hk, rfl, HA⟩, hb⟩ := hrel
    obtain ⟨wx, hwx⟩ : ∃ wx : World, wx = wr := ⟨_, rfl⟩
    subst hwx
    by_cases hlt : k < l.length
    · have hsr := hs.keep hb
      obtain ⟨g, off, a3, c3, a4, c4, hag, e0, e1, e2, e3, e4, hi0, hz1, hz2, h3, h4⟩ := hsr.change hlt
      subst hag
      have HBD := Lib.hid (fun h => okAll_bad HA.out hlt h)
      have HNX := Lib.hid (fun h => okAll_next HA.out hlt h)
      have HOC := Lib.hid (okC_is (l.take k) l[k])
      obtain ⟨c, hc⟩ : ∃ c, c = l[k] := ⟨_, rfl⟩
      rw [← hc] at e0 e1 e2 e3 e4 hi0 hz1 hz2 h3 h4 HBD HNX HOC
      obtain ⟨oc, hoc⟩ : ∃ oc, oc = okC (l.take k) c := ⟨_, rfl⟩
      rw [← hoc] at HBD HNX HOC
      obtain ⟨lt, hlte⟩ : ∃ lt, lt = l.take k := ⟨_, rfl⟩
      have hkl : Hid (k = lt.length) := by show _ = _; rw [hlte]; simp; omega
      have htk : IsSlice (fun b => b < w.heap.size) wx (some ⟨g, off, none⟩) cap lt := by rw [hlte]; exact hsr.take k
      rw [← hlte] at HOC
      have HLT := Lib.hid hlte
      have hct := run_cut0 slz_change.slt (some ⟨g, off, none⟩) l.length cap k (by omega)
      have z0 := BW.cell e0
      have z1 := BW.cell e1
      have z2 := BW.cell e2
      have z3 := BW.cell e3
      have z4 := BW.cell e4
      have HTK : Hid (∀ n : BW wx, rd (fun b => b < w.heap.size) n.w [.slice (some ⟨g, off, none⟩) k cap] lt) := fun n => by have := (htk.bw n).rd; rw [← hkl.out] at this; exact this
      clear hc hoc HA hlte e0 e1 e2 e3 e4 hi0
      obtain ⟨f1, hf1⟩ : ∃ f1, freeC lt c.path = f1 := ⟨_, rfl⟩
      obtain ⟨f2, hf2⟩ : ∃ f2, freeC lt c.dst = f2 := ⟨_, rfl⟩
      obtain ⟨o1, ho1⟩ : ∃ o1, changeB c = o1 := ⟨_, rfl⟩
      have LO := fun (n : BW wx) => l5One_any c n.w (h3.bw n) (h4.bw n) hz1 hz2 ho1
      have LF1 := fun (n : BW wx) => l5Free_any (.slice (some ⟨g, off, none⟩) k cap) lt c.path n.w (HTK.out n) hf1
      have LF2 := fun (n : BW wx) => l5Free_any (.slice (some ⟨g, off, none⟩) k cap) lt c.dst n.w (HTK.out n) hf2
      rw [ho1, hf1, hf2] at HOC
      clear ho1 hf1 hf2 h3 h4 hz1 hz2 htk
      cases o1 with
      | false =>
        have HZ := Lib.hid (HBD.out (by rw [HOC.out]; rfl))
        go_wp2
        refine wp_region_bw (by kernel_rfl) (by kernel_rfl) ?_
        repeat (go_big_quiet_step ((first | (go_at_call 90; with_reducible exact Calls.bw (LO _)) | (go_at_call 91; with_reducible exact Calls.bw_same (LF1 _)) | (go_at_call 91; with_reducible exact Calls.bw_same (LF2 _)))))
        refine wpQuiet_nil ?_
        rintro w1 ⟨⟨_, hbw⟩, rfl⟩
        go_wp2
        go_ret
        exact ⟨ret_bool HZ.out.symm, hb.trans (hbw.mono hb.size)⟩
      | true =>
        cases f1 with
        | false =>
          have HZ := Lib.hid (HBD.out (by rw [HOC.out]; rfl))
          go_wp2
          refine wp_region_bw (by kernel_rfl) (by kernel_rfl) ?_
          repeat (go_big_quiet_step ((first | (go_at_call 90; with_reducible exact Calls.bw (LO _)) | (go_at_call 91; with_reducible exact Calls.bw_same (LF1 _)) | (go_at_call 91; with_reducible exact Calls.bw_same (LF2 _)))))
          refine wpQuiet_nil ?_
          rintro w1 ⟨⟨_, hbw⟩, rfl⟩
          go_wp2
          go_ret
          exact ⟨ret_bool HZ.out.symm, hb.trans (hbw.mono hb.size)⟩
        | true =>
          by_cases hd : c.dst = ⟨#[]⟩
          · have hd0 := empty_t hd
            have HZ := Lib.hid (HNX.out (by rw [HOC.out, decide_eq_true hd]; rfl))
            clear hd
            go_wp2
            refine wp_region_bw (by kernel_rfl) (by kernel_rfl) ?_
            repeat (go_big_quiet_step ((first | (go_at_call 90; with_reducible exact Calls.bw (LO _)) | (go_at_call 91; with_reducible exact Calls.bw_same (LF1 _)) | (go_at_call 91; with_reducible exact Calls.bw_same (LF2 _)))))
            refine wpQuiet_nil ?_
            rintro w1 ⟨⟨_, hbw⟩, rfl⟩
            go_wp2
            go_roundw
            case rel => exact ⟨⟨k + 1, by omega, by go_num, HZ.out⟩, hb.trans (hbw.mono hb.size)⟩
            case measure => simp [intOf] <;> omega
          · have hd0 := empty_f hd
            cases f2 with
            | false =>
              have HZ := Lib.hid (HBD.out (by rw [HOC.out, decide_eq_false hd]; rfl))
              clear hd
              go_wp2
              refine wp_region_bw (by kernel_rfl) (by kernel_rfl) ?_
              repeat (go_big_quiet_step ((first | (go_at_call 90; with_reducible exact Calls.bw (LO _)) | (go_at_call 91; with_reducible exact Calls.bw_same (LF1 _)) | (go_at_call 91; with_reducible exact Calls.bw_same (LF2 _)))))
              refine wpQuiet_nil ?_
              rintro w1 ⟨⟨_, hbw⟩, rfl⟩
              go_wp2
              go_ret
              exact ⟨ret_bool HZ.out.symm, hb.trans (hbw.mono hb.size)⟩
            | true =>
              have HZ := Lib.hid (HNX.out (by rw [HOC.out, decide_eq_false hd]; rfl))
              clear hd
              go_wp2
              refine wp_region_bw (by kernel_rfl) (by kernel_rfl) ?_
              repeat (go_big_quiet_step ((first | (go_at_call 90; with_reducible exact Calls.bw (LO _)) | (go_at_call 91; with_reducible exact Calls.bw_same (LF1 _)) | (go_at_call 91; with_reducible exact Calls.bw_same (LF2 _)))))
              refine wpQuiet_nil ?_
              rintro w1 ⟨⟨_, hbw⟩, rfl⟩
              go_wp2
              go_roundw
              case rel => exact ⟨⟨k + 1, by omega, by go_num, HZ.out⟩, hb.trans (hbw.mono hb.size)⟩
              case measure => simp [intOf] <;> omega
    · have HZ := Lib.hid (okAll_end HA.out hlt)
      by_cases h16 : l.length ≤ 16
      · have hd : decide ((l.length : Int) ≤ 16) = true := decide_eq_true (by omega)
        have HZ2 := Lib.hid (HZ.out.trans (decide_eq_true h16))
        go_wp2
        go_ret
        exact ⟨ret_bool HZ2.out.symm, hb⟩
      · have hd : decide ((l.length : Int) ≤ 16) = false := decide_eq_false (by omega)
        have HZ2 := Lib.hid (HZ.out.trans (decide_eq_false h16))
        go_wp2
        go_ret
        exact ⟨ret_bool HZ2.out.symm, hb⟩
theorem specChangesOk {S : Nat → Prop} (v : Value) (l : List Change) (w : World) (hv : rd S w [v] l) {R : Bool} (hR : changesB l = R) :
    Calls Tryz.prog 27 #[v] w fun e w' => e = .returned (.bool R) ∧ Below w.heap.size w w' := by
  obtain ⟨a, cap, rfl, hs⟩ := rd_slice_elim (Rep.lt hv)
  go_enter Tryz.func27, Tryz.ntmps27
  go_wp2_with fail
  refine (l5Ok_is _ l _ hv hR).mono ?_
  rintro e w1 ⟨rfl, hb⟩
  go_wp2
  go_ret
  exact ⟨rfl, hb⟩
set_option maxHeartbeats 4000000 in
set_option maxRecDepth 100000 in
theorem specChangesPaths {S : Nat → Prop} (v : Value) (l : List Change) (w : World) (hv : rd S w [v] l) :
    Calls Tryz.prog 25 #[v] w fun e w' => ∃ v', e = .returned v' ∧ Fresh w.heap.size w'.heap.size w' [v'] (changesPathsI l) ∧ Below w.heap.size w w' := by
  obtain ⟨a, cap, rfl, hs⟩ := rd_slice_elim (Rep.lt hv)
  have hle := hs.le
  have hvl := Rep.lt hv
  have hE := Fresh.empty (β := ByteArray) Nat.one_pos w.heap.size w (Nat.le_refl _)
  obtain ⟨wE, hwE⟩ : ∃ wE, wE = w.alloc (.cells #[] 9) := ⟨_, rfl⟩
  have hbE : Below w.heap.size w wE := by rw [hwE]; exact (Below.refl _ _).alloc (Nat.le_refl _) _
  have hE2 := hE.now
  have HWE := Lib.hid hwE
  cases hcb : changesB l with
  | false =>
    have HR : Hid (changesPathsI l = []) := by show _ = _; unfold changesPathsI; rw [hcb]; rfl
    clear hwE
    go_enter Tryz.func25, Tryz.ntmps25
    go_wp2_with fail
    rw [← HWE.out]
    refine (l5Ok_is _ l _ (Rep.keep hvl hbE) hcb).mono ?_
    rintro e w1 ⟨rfl, hb1⟩
    go_wp2
    go_ret
    exact ⟨_, rfl, by rw [HR.out]; exact Fresh.nil (β := ByteArray) _ _ _ Nat.one_pos, hbE.trans (hb1.mono hbE.size)⟩
  | true =>
    have HR : Hid (changesPathsI l = foldC [] (l.drop 0)) := by show _ = _; unfold changesPathsI; rw [hcb, if_pos rfl, List.drop_zero, foldC_paths hcb]
    have h16 := ((changesB_iff l).1 hcb).1
    have hF0 : Fresh w.heap.size wE.heap.size wE [.slice (some ⟨w.heap.size, 0, none⟩) 0 0] ([] : List ByteArray) := by rw [hwE]; exact hE2
    obtain ⟨R, hRe⟩ : ∃ R, R = changesPathsI l := ⟨_, rfl⟩
    rw [← hRe] at HR ⊢
    clear hwE hE hE2 hRe
    go_enter Tryz.func25, Tryz.ntmps25
    go_wp2_with fail
    rw [← HWE.out]
    refine (l5Ok_is _ l _ (Rep.keep hvl hbE) hcb).mono ?_
    rintro e w1 ⟨rfl, hb1⟩
    have hb2 := hbE.trans (hb1.mono hbE.size)
    have hF1 := Fresh.below hF0 (Nat.le_refl _) hb1
    clear hcb HWE hF0 hbE hb1
    go_wp2
    go_loopw [3, 4] (fun out i wr => (∃ (k : Nat) (cur : List ByteArray), k ≤ l.length ∧ i = .int .i64 k ∧ cur.length ≤ 2 * k ∧ Fresh w.heap.size wr.heap.size wr [out] cur ∧ Hid (R = foldC cur (l.drop k))) ∧ Below w.heap.size w wr) (fun _ i _ => l.length - (intOf i).toNat)
    case atStart => exact ⟨⟨0, ([] : List ByteArray), by omega, rfl, by simp, hF1.now, HR.out⟩, hb2⟩
    case round =>
      obtain ⟨⟨k, cur, hk, rfl, hcl, hF, HA⟩, hb⟩ := hrel
      have hsz := hb.size
      by_cases hlt : k < l.length
      · obtain ⟨g, off, a3, c3, a4, c4, hag, e0, e1, e2, e3, e4, hi0, hz1, hz2, h3, h4⟩ := (hs.keep hb).change hlt
        subst hag
        have HN := Lib.hid (foldC_next HA.out hlt)
        obtain ⟨c, hc⟩ : ∃ c, c = l[k] := ⟨_, rfl⟩
        rw [← hc] at e1 e2 hz1 hz2 HN
        have hl1 := putP_len cur c.path
        have hl2 := putP_len (putP cur c.path) c.dst
        clear hc h3 h4 e0 e3 e4 hi0 HA
        go_wp2_with fail
        refine (l5Put_any _ cur c.path _ hF hsz (by omega) hz1).mono ?_
        rintro e w3 ⟨v3, rfl, hF3, hb3⟩
        have e2 := keepc e2 hb3
        have hb4 := hb.trans (hb3.mono hsz)
        by_cases hd : c.dst = ⟨#[]⟩
        · have hd0 := empty_t hd
          have HN2 := Lib.hid (show R = foldC (putP cur c.path) (l.drop (k + 1)) from by rw [HN.out, putC2_one hd])
          go_wp2
          go_roundw
          case rel => exact ⟨⟨k + 1, _, by omega, by go_num, by omega, hF3, HN2.out⟩, hb4⟩
          case measure => simp [intOf] <;> omega
        · have hd0 := empty_f hd
          have HN2 := Lib.hid (show R = foldC (putP (putP cur c.path) c.dst) (l.drop (k + 1)) from by rw [HN.out, putC2_two hd])
          go_wp2_with fail
          refine (l5Put_any _ (putP cur c.path) c.dst _ hF3 hb4.size (by omega) hz2).mono ?_
          rintro e w5 ⟨v5, rfl, hF5, hb5⟩
          go_wp2
          go_roundw
          case rel => exact ⟨⟨k + 1, _, by omega, by go_num, by omega, hF5, HN2.out⟩, hb4.trans (hb5.mono hb4.size)⟩
          case measure => simp [intOf] <;> omega
      · have HN := Lib.hid (foldC_end HA.out hlt)
        go_wp2
        go_ret
        exact ⟨_, rfl, by rw [HN.out]; exact hF, hb⟩
end Go.Proofs.YtlaklnpdnohofaaGreatDoor
