/-
  Walks: who wrote how many lines, as the program counts them. / Walks: who wrote how many lines, as the reference counts them. / Plain: how many marks a list of shares takes. No program is in sight here.
-/
import Derived.Test.YthhmaclhggmneaaGreatDoorVBB
import Derived.Test.YthhmaclhggmneaaGreatDoorIterK
import Derived.Test.YthhmaclhggmneaaGreatDoorVW1
import Derived.Test.YthhmaclhggmneaaGreatDoorVSH
import Derived.StringKeys
import Derived.Test.YthhmaclhggmneaaGreatDoorSetL
set_option linter.unusedVariables false
namespace Go.Proofs.YthhmaclhggmneaaGreatDoor
open Go.RowKit Go.Vc Go.Maps Go.WideMaps
open Go.Vc.Rep (rd)
open Go.Vc.Own (own)
theorem ownsMap_at {P : Program} {k : TypeId} {R : Value → Option (DataW Unit × List MemPlace)} {w w' : World} {b n : Nat} {D : DataW Unit} (h : w.ownsMap P k R b n D) (hb : w'.heap[b]? = w.heap[b]?) : w'.ownsMap P k R b n D := by
  obtain ⟨es, clock, h0, F, hs, hD⟩ := h
  exact ⟨es, clock, hb.trans h0, F, hs, hD⟩
theorem who_alloc (w : World) (o : Obj) : (w.alloc o).heap.size = w.heap.size + 1 := by simp
set_option maxHeartbeats 16000000 in
set_option maxRecDepth 100000 in
theorem implBlameWho {S T : Nat → Prop} (r : Repo) (v0 v1 : Value) (at_ : Int) (path : ByteArray) (w : World) (h0 : rd S w [v0] r.commits) (h1 : rd T w [v1] r.heads) (hi : I64 at_) (hz : path.size ≤ 1048576) (hS : shortR r) (hM : ML w) :
    Calls Tryz.prog 7 #[.agg #[v0, v1], .int .i64 at_, .string path] w fun e w' => ∃ v', e = .returned v' ∧ Fresh w.heap.size w'.heap.size w' [v'] (blameWho r at_ path) ∧ Below w.heap.size w w' := by
  have h0 := Rep.lt h0
  have h1 := Rep.lt h1
  obtain ⟨a, cap, rfl, hs⟩ := rd_slice_elim h0
  have hle := hs.le
  have hmm := @run_makeMap Tryz.prog
  have hxl := blameOf_len r at_ path
  have HIN := Lib.hid (blameOf_in r at_ path)
  have HW : Hid (blameWho r at_ path = whoF [] (namesOf r (blameOf r at_ path))) := rfl
  obtain ⟨xs, hxs⟩ : ∃ xs, xs = blameOf r at_ path := ⟨_, rfl⟩
  obtain ⟨wb, hwb⟩ : ∃ wb, wb = (w.alloc (.cells #[.slice a r.commits.length cap, v1] 32)).alloc (.map #[] 0) := ⟨_, rfl⟩
  have hB0 : Below w.heap.size w wb := by rw [hwb]; exact (((Below.refl _ _).alloc (by simp <;> omega) _).alloc (by simp <;> omega) _)
  have hx0 : wb.heap[w.heap.size]? = some (.cells #[.slice a r.commits.length cap, v1] 32 (0, 0)) := by rw [hwb]; exact (Below.heap_alloc _ _ _ (by simp)).trans (heap_alloc_new _ _)
  have hsb : wb.heap.size = w.heap.size + 2 := by rw [hwb]; simp
  have hown : wb.ownsMap Tryz.prog 9 (plainElem (H := Unit) Tryz.prog 3) (w.heap.size + 1) 0 (.map []) := by
    have h := World.ownsMap_made (H := Unit) (w.alloc (.cells #[.slice a r.commits.length cap, v1] 32)) Tryz.prog 9 (plainElem Tryz.prog 3)
    rw [hwb]
    simpa using h
  have q0 := cell_of_row wb w.heap.size 0 _ _ (0, 0) hx0
  have q1 := cell_of_row wb w.heap.size 1 _ _ (0, 0) hx0
  simp at q0 q1
  have HWB := Lib.hid hwb
  have q0u := q0
  have q1u := q1
  rw [hwb] at q0u q1u
  clear hwb
  go_enter Tryz.func7, Tryz.ntmps7
  go_wp2_with fail
  rw [← HWB.out]
  clear q0u q1u
  refine (implBlameOf r _ _ at_ path _ (Rep.keep h0 hB0) (Rep.keep h1 hB0) hi hz hS (hM.keep hB0)).mono ?_
  rintro e w1 ⟨v2, rfl, hF, hb1⟩
  rw [← hxs] at hF hxl HIN HW
  obtain ⟨a2, c2, hv2, _⟩ := hF.shape
  subst hv2
  have hs1 := hb1.size
  have HB1 := hB0.trans (hb1.mono hB0.size)
  have hown1 := hown.kept (w' := w1) (row := none) ⟨hb1.os, hb1.tape, hb1.output, hb1.size, fun k hk _ => hb1.block k hk⟩ (by simp)
  have hx1 := (hb1.block w.heap.size (by omega)).trans hx0
  obtain ⟨ns, hns⟩ : ∃ ns, ns = namesOf r xs := ⟨_, rfl⟩
  have hnl : ns.length = xs.length := by rw [hns]; exact namesOf_len r xs
  have HNS := Lib.hid (show ∀ k (h : k < xs.length) (h2 : k < ns.length), ns[k] = nameAt r xs[k] from fun k h h2 => by subst hns; simp [namesOf])
  rw [← hns] at HW
  obtain ⟨mb, hmb⟩ : ∃ mb, mb = w.heap.size + 1 := ⟨_, rfl⟩
  rw [← hmb] at hown1
  try rw [← hmb]
  have hmb1 : w.heap.size < mb := by omega
  have hmb2 : mb < wb.heap.size := by omega
  obtain ⟨m0, hm0⟩ : ∃ m0, m0 = wb.heap.size := ⟨_, rfl⟩
  rw [← hm0] at hF hs1 hmb2
  have HNZ : Hid (∀ x ∈ ns, x.size ≤ maxLen) := by
    show ∀ x ∈ ns, x.size ≤ maxLen
    intro x hx
    rw [hns] at hx
    obtain ⟨i, hi2, e⟩ := List.mem_map.1 hx
    obtain ⟨k0, k1⟩ := HIN.out i hi2
    have hl : i.toNat < r.commits.length := by omega
    obtain ⟨_, _, _, _, _, _, _, _, _, _, _, hz1, _⟩ := hs.commit hl
    rw [← e]
    unfold nameAt
    rw [getD_com hl]
    exact hz1
  clear hx0 q0 q1 hown HWB hxs hns hmb hm0 hb1 hB0 hsb h0 h1 hS hM
  go_wp2
  go_loopw [19] (fun i wr => (∃ (k : Nat) (D : DataW Unit), k ≤ xs.length ∧ i = .int .i64 k ∧ wr.ownsMap Tryz.prog 9 (plainElem (H := Unit) Tryz.prog 3) mb k D ∧ Hid (CntD D (ns.take k)) ∧ Fresh m0 w1.heap.size wr [.slice a2 xs.length c2] xs ∧ wr.heap[w.heap.size]? = some (.cells #[.slice a r.commits.length cap, v1] 32 (0, 0)) ∧ w1.heap.size ≤ wr.heap.size) ∧ Below w.heap.size w wr) (fun i _ => xs.length - (intOf i).toNat)
  case atStart => exact ⟨⟨0, .map [], by omega, rfl, hown1, cnt_start, hF, hx1, Nat.le_refl _⟩, HB1⟩
  case round =>
    clear hown1 hF hx1 HB1
    obtain ⟨⟨k, D, hk, rfl, hown, HC, hF, hx0, hs3⟩, hb⟩ := hrel
    have q0 := cell_of_row wr w.heap.size 0 _ _ (0, 0) hx0
    have q1 := cell_of_row wr w.heap.size 1 _ _ (0, 0) hx0
    simp at q0 q1
    have hkey : 0 < 1 := by decide
    by_cases hlt : k < xs.length
    · obtain ⟨g, off, hag, hcl, _⟩ := (rd_slice_of hF.rd2).2.int hlt
      subst hag
      obtain ⟨j0, j1⟩ := HIN.out _ (List.getElem_mem hlt)
      have hn1 := HNS.out k hlt (by omega)
      obtain ⟨j, hj⟩ : ∃ j : Nat, xs[k] = (j : Int) := ⟨xs[k].toNat, by omega⟩
      rw [hj] at hcl hn1 j0 j1
      have hjl : j < r.commits.length := by omega
      obtain ⟨gc, offc, _, _, _, _, hagc, _, hcw, _, _, hz1, _⟩ := (hs.keep hb).commit hjl
      subst hagc
      obtain ⟨s, hsn⟩ : ∃ s, s = r.commits[j].who := ⟨_, rfl⟩
      rw [← hsn] at hcw hz1
      have hn2 : ns[k]'(by omega) = s := by rw [hn1, hsn]; unfold nameAt; rw [Int.toNat_natCast, getD_com hjl]
      have HST : Hid (CntD (D.put (.string s.data.toList) (.lit (.int .i64 ((cntW (ns.take k) s : Int) + 1)))) (ns.take (k + 1))) := by
        show CntD _ _
        rw [take_snoc (by omega : k < ns.length), hn2]
        exact cnt_step hown.isMap HC.out
      have hkk : keyOf Tryz.prog 9 (.string s) = some (.string s.data.toList) := keyOf_string_mk Tryz.underlying9 hz1
      have hat0 := Lib.hid (HC.out s).1
      have hcle := cntW_le (ns.take k) s
      rw [List.length_take] at hcle
      obtain ⟨n, hn⟩ : ∃ n : Nat, n = cntW (ns.take k) s := ⟨_, rfl⟩
      rw [← hn] at HST hat0 hcle
      have hwr : IntKind.i64.wrap ((n : Int) + 1) = (n : Int) + 1 := IntWalk.i64_in _ (by omega)
      clear hn1 hj hsn hn2 hn HNS
      go_wp2_with (first
        | (at_lookup; refine wpList_lookup_own_int _ rfl _ _ 50 rfl 9 3 .i64 keyS Tryz.underlying50 Tryz.underlying3 (zeroI _) mb k _ rfl hown _ _ rfl hkk ?_; intro c hat hwc; obtain rfl : c = (n : Int) := (by have h := hat0.out.symm.trans hat; injection h with h; injection h with _ h; exact h.symm))
        | (at_mapUpdate; refine wpList_mapUpdate_own _ rfl _ _ _ 50 rfl 9 3 keyS Tryz.underlying50 _ mb k _ rfl hown (by unfold maxLen; omega) _ _ _ rfl rfl hkk _ [] (plainElem_int Tryz.underlying3 (WalkArith.wf_i64 (by omega))) ?_; intro w2 hown2 hgrow2))
      go_roundw
      case rel =>
        have hx2 := (hgrow2.block w.heap.size (by omega) (by simp; omega)).trans hx0
        have hF2 : Fresh m0 w1.heap.size w2 [.slice (some ⟨g, off, none⟩) xs.length c2] xs := hF.keep fun b h3 h4 h5 => hgrow2.block b h5 (by simp; omega)
        exact ⟨⟨k + 1, _, by omega, by go_num, hown2, HST.out, hF2, hx2, Nat.le_trans hs3 hgrow2.size⟩, hb.grown hgrow2 hb.size (fun j hj => by cases hj; omega)⟩
      case measure => simp [intOf]; omega
    · have hkx : k = xs.length := by omega
      have HCA : Hid (CntD D ns) := by
        have h := HC.out
        rw [hkx, List.take_of_length_le (by omega)] at h
        exact h
      clear HC hkey
      have hkn : k ≤ 1000 := by omega
      go_wp2_with fail
      refine (keys_any mb wr).mono ?_
      rintro e w4 ⟨rfl, hw4⟩
      have HK4 := Lib.hid hw4
      have hown4 : w4.ownsMap Tryz.prog 9 (plainElem (H := Unit) Tryz.prog 3) mb k D := by rw [hw4]; exact hown.alloc _
      have hb4 : Below w.heap.size w w4 := by rw [hw4]; exact hb.alloc hb.size _
      have hs4 : w4.heap.size = wr.heap.size + 1 := by rw [hw4]; simp
      rw [hw4]
      clear hw4
      go_wp2_with fail
      refine (sortedKeys_any mb k D ns wr hown HCA.out hkn HNZ.out).mono ?_
      rintro e w5 ⟨v5, rfl, hK5, hb5⟩
      rw [← HK4.out] at hb5
      have hs5 := hb5.size
      have hbr := hb.size
      have hown5 := hown4.kept (w' := w5) (row := none) ⟨hb5.os, hb5.tape, hb5.output, hb5.size, fun i hi _ => hb5.block i (by omega)⟩ (by simp)
      have HB5 := hb4.trans (hb5.mono (by omega))
      obtain ⟨W, hW⟩ : ∃ W, W = whoF [] ns := ⟨_, rfl⟩
      have HWI := Lib.hid (whoF_inv ns)
      rw [← hW] at hK5 HW HWI
      have hWl : W.length ≤ 10 := by
        have h := whoF_len ns []
        rw [← hW] at h
        simp at h
        omega
      obtain ⟨ks, hks⟩ : ∃ ks, ks = W.map (·.who) := ⟨_, rfl⟩
      have hkl : ks.length ≤ W.length ∧ W.length ≤ ks.length := by rw [hks]; simp
      have HKS := Lib.hid (show ∀ i (h : i < ks.length) (h2 : i < W.length), ks[i] = W[i].who from fun i h h2 => by subst hks; simp)
      rw [← hks] at hK5
      obtain ⟨a5, c5, hv5, _⟩ := hK5.shape
      subst hv5
      have hle5 : w.heap.size ≤ w5.heap.size := HB5.size
      have hmm5 : mb < wr.heap.size := by omega
      obtain ⟨m1, hm1⟩ : ∃ m1, m1 = wr.heap.size + 1 := ⟨_, rfl⟩
      have hm1w : mb < m1 ∧ m1 ≤ w5.heap.size ∧ w.heap.size ≤ m1 := by omega
      rw [← hm1] at hK5
      clear hm1
      clear hown hown4 hb4 hb hb5 hF hx0 q0 q1 hW hks HK4 hlt hs4 hs5 hkx hbr hmm5 hs3
      go_wp2
      go_loopw [10, 37] (fun out i wq => (∃ (n : Nat) (ol : List Share), n ≤ ks.length ∧ i = .int .i64 n ∧ ol.length ≤ n ∧ wq.ownsMap Tryz.prog 9 (plainElem (H := Unit) Tryz.prog 3) mb k D ∧ Fresh m1 w5.heap.size wq [.slice a5 ks.length c5] ks ∧ Fresh w5.heap.size wq.heap.size wq [out] ol ∧ w5.heap.size ≤ wq.heap.size ∧ Hid (W = ol ++ W.drop n)) ∧ Below w.heap.size w wq) (fun _ i _ => ks.length - (intOf i).toNat)
      case atStart => exact ⟨⟨0, [], by omega, rfl, by simp, hown5, hK5, Fresh.nil _ _ _ (by decide), Nat.le_refl _, rfl⟩, HB5⟩
      case round =>
        clear hown5 hK5 HB5
        obtain ⟨⟨n, ol, hn, rfl, hol, hown, hK, hG, hsq, HA⟩, hb⟩ := hrel
        obtain ⟨a6, c6, hv6, _⟩ := hG.shape
        subst hv6
        have hsb := hb.size
        by_cases hlt : n < ks.length
        · have hltW : n < W.length := by omega
          obtain ⟨g, off, hag, hcl, hsz⟩ := (rd_slice_of hK.rd2).2.str (i := n) (by omega)
          subst hag
          have hks := HKS.out n hlt hltW
          obtain ⟨x, hx⟩ : ∃ x, x = W[n] := ⟨_, rfl⟩
          have HNX : Hid (W = (ol ++ [x]) ++ W.drop (n + 1)) := by
            show W = _
            rw [hx, List.append_assoc, List.singleton_append, List.getElem_cons_drop]
            exact HA.out
          have hxm := HWI.out.2.2 x (by rw [hx]; exact List.getElem_mem hltW)
          rw [hks, ← hx] at hcl hsz
          obtain ⟨s, m⟩ := x
          simp only at hcl hsz hxm
          have hkk : keyOf Tryz.prog 9 (.string s) = some (.string s.data.toList) := keyOf_string_mk Tryz.underlying9 hsz
          have hat0 := Lib.hid (HCA.out s).1
          have hcle := cntW_le ns s
          rw [← hxm] at hat0
          have him : I64 m := by unfold I64; omega
          clear hx hks hxm hcle
          go_wp2_with (first
            | (at_lookup; refine wpList_lookup_own_int _ rfl _ _ 50 rfl 9 3 .i64 keyS Tryz.underlying50 Tryz.underlying3 (zeroI _) mb k _ rfl hown _ _ rfl hkk ?_; intro c hat hwc; obtain rfl : m = c := (by have h := hat0.out.symm.trans hat; injection h with h; injection h with _ h))
            | (at_builtin; go_must (refine wpList_app_one slz_share.slt rfl (.tmp 41) (.tmp 47) rfl rfl (hG.alloc _) (by simp; omega) rfl (heap_alloc_new _ _) (Fresh.leaf (m := wr.heap.size) (own_share (p := (⟨s, m⟩ : Share)) hsz him)) (by omega) (by omega) (by unfold maxLen; omega) ?_); intro a7 c7 w7 hG7))
          have hw7 := hG7.below.size
          simp only [who_alloc] at hw7
          go_roundw
          case rel => exact ⟨⟨n + 1, ol ++ [(⟨s, m⟩ : Share)], by omega, by go_num, by simp; omega, ownsMap_at (hown.alloc _) (hG7.rest mb (by simp; omega) (.inl (by omega))), (hK.alloc _).keep fun b h3 h4 h5 => hG7.rest b h5 (.inl (by omega)), by simpa using hG7.fresh, by omega, HNX.out⟩, (hb.alloc hsb _).trans (hG7.below.mono (by omega))⟩
          case measure => simp [intOf]; omega
        · have HE : Hid (W = ol) := by
            show W = ol
            have h := HA.out
            rw [List.drop_eq_nil_of_le (by omega), List.append_nil] at h
            exact h
          go_wp2
          go_ret
          exact ⟨_, rfl, by rw [HW.out, HE.out]; exact hG.mono (by omega) (Nat.le_refl _), hb⟩
end Go.Proofs.YthhmaclhggmneaaGreatDoor
namespace Go.Proofs.YthhmaclhggmneaaGreatDoor
open Go.RowKit Go.Vc
open Go.Vc.Rep (rd)
open Go.Vc.Own (own)
set_option maxHeartbeats 16000000 in
set_option maxRecDepth 100000 in
theorem specBlameWho {S T : Nat → Prop} (r : Repo) (v0 v1 : Value) (at_ : Int) (path : ByteArray) (w : World) (h0 : rd S w [v0] r.commits) (h1 : rd T w [v1] r.heads) (hi : I64 at_) (hz : path.size ≤ 1048576) (hS : shortR r) (hM : ML w) :
    Calls Tryz.prog 5 #[.agg #[v0, v1], .int .i64 at_, .string path] w fun e w' => ∃ v', e = .returned v' ∧ Fresh w.heap.size w'.heap.size w' [v'] (blameWho r at_ path) ∧ Below w.heap.size w w' := by
  have h0 := Rep.lt h0
  have h1 := Rep.lt h1
  obtain ⟨a, cap, rfl, hs⟩ := rd_slice_elim h0
  have hle := hs.le
  have hxl := blameOf_len r at_ path
  have hi1 : I64 1 := by unfold I64; omega
  have HIN := Lib.hid (blameOf_in r at_ path)
  have HW : Hid (blameWho r at_ path = whoF [] (namesOf r (blameOf r at_ path))) := rfl
  obtain ⟨xs, hxs⟩ : ∃ xs, xs = blameOf r at_ path := ⟨_, rfl⟩
  obtain ⟨wb, hwb⟩ : ∃ wb, wb = (w.alloc (.cells #[.slice a r.commits.length cap, v1] 32)).alloc (.cells #[] 47) := ⟨_, rfl⟩
  have hB0 : Below w.heap.size w wb := by rw [hwb]; exact (((Below.refl _ _).alloc (by simp <;> omega) _).alloc (by simp <;> omega) _)
  have hx0 : wb.heap[w.heap.size]? = some (.cells #[.slice a r.commits.length cap, v1] 32 (0, 0)) := by rw [hwb]; exact (Below.heap_alloc _ _ _ (by simp)).trans (heap_alloc_new _ _)
  have hsb : wb.heap.size = w.heap.size + 2 := by rw [hwb]; simp
  have hF0 : Fresh w.heap.size (w.heap.size + 2) wb [.slice (some ⟨w.heap.size + 1, 0, none⟩) 0 0] ([] : List Share) := by
    have h := Fresh.empty (β := Share) (by decide) w.heap.size (w.alloc (.cells #[.slice a r.commits.length cap, v1] 32)) (by simp)
    have h2 : Fresh w.heap.size (w.heap.size + 1 + 1) ((w.alloc (.cells #[.slice a r.commits.length cap, v1] 32)).alloc (.cells #[] (Tid.tid Share))) [.slice (some ⟨w.heap.size + 1, 0, none⟩) 0 0] ([] : List Share) := by simpa using h
    rw [hwb]
    exact h2
  have q0 := cell_of_row wb w.heap.size 0 _ _ (0, 0) hx0
  have q1 := cell_of_row wb w.heap.size 1 _ _ (0, 0) hx0
  simp at q0 q1
  have HWB := Lib.hid hwb
  have q0u := q0
  have q1u := q1
  rw [hwb] at q0u q1u
  clear hwb
  go_enter Tryz.func5, Tryz.ntmps5
  go_wp2_with fail
  rw [← HWB.out]
  clear q0u q1u
  refine (specBlameOf r _ _ at_ path _ (Rep.keep h0 hB0) (Rep.keep h1 hB0) hi hz hS (hM.keep hB0)).mono ?_
  rintro e w1 ⟨v2, rfl, hX, hb1⟩
  rw [← hxs] at hX hxl HIN HW
  obtain ⟨a2, c2, hv2, _⟩ := hX.shape
  subst hv2
  have hs1 := hb1.size
  have HB1 := hB0.trans (hb1.mono hB0.size)
  have hx1 := (hb1.block w.heap.size (by omega)).trans hx0
  have q0 := cell_of_row w1 w.heap.size 0 _ _ (0, 0) hx1
  simp at q0
  have hF1 : Fresh w.heap.size w1.heap.size w1 _ _ := (hF0.below (by omega) hb1).mono (Nat.le_refl _) (by omega)
  obtain ⟨ns, hns⟩ : ∃ ns, ns = namesOf r xs := ⟨_, rfl⟩
  have hnl1 : ns.length ≤ xs.length := by rw [hns, namesOf_len]; exact Nat.le_refl _
  have hnl2 : xs.length ≤ ns.length := by rw [hns, namesOf_len]; exact Nat.le_refl _
  have HNS := Lib.hid (show ∀ k (h : k < xs.length) (h2 : k < ns.length), ns[k] = nameAt r xs[k] from fun k h h2 => by subst hns; simp [namesOf])
  rw [← hns] at HW
  obtain ⟨W, hW⟩ : ∃ W, W = whoF [] ns := ⟨_, rfl⟩
  rw [← hW] at HW
  have HW1 : Hid (W = whoF [] (ns.drop 0)) := by show W = _; rw [hW]; rfl
  obtain ⟨m0, hm0⟩ : ∃ m0, m0 = wb.heap.size := ⟨_, rfl⟩
  rw [← hm0] at hX hs1
  have hm0w : w.heap.size + 1 < m0 := by omega
  have hsw : w.heap.size < w1.heap.size := by omega
  clear hx0 hx1 hF0 HWB hxs hns hm0 hb1 hB0 hsb h0 h1 hS hM q1 hW
  go_wp2
  go_loopw [7, 9] (fun out i wr => (∃ (k : Nat) (ol : List Share), k ≤ xs.length ∧ i = .int .i64 k ∧ ol.length ≤ k ∧ (∀ x ∈ ol, 0 ≤ x.many ∧ x.many ≤ k) ∧ Fresh m0 w1.heap.size wr [.slice a2 xs.length c2] xs ∧ Fresh w.heap.size wr.heap.size wr [out] ol ∧ Hid (0 < ol.length → Fresh w1.heap.size wr.heap.size wr [out] ol) ∧ wr.cell? ⟨w.heap.size, 0, none⟩ = some (.slice a r.commits.length cap) ∧ w1.heap.size ≤ wr.heap.size ∧ Hid (W = whoF ol (ns.drop k))) ∧ Below w.heap.size w wr) (fun _ i _ => xs.length - (intOf i).toNat)
  case atStart => exact ⟨⟨0, [], by omega, rfl, by simp, (fun x hx => by cases hx), hX, hF1, (fun h => by simp at h), q0, Nat.le_refl _, HW1.out⟩, HB1⟩
  case round =>
    clear hF1 hX q0 HB1
    obtain ⟨⟨k, ol, hk, rfl, hol, hmany, hX, hF, HF1, q0, hs3, HA⟩, hb⟩ := hrel
    obtain ⟨a6, c6, hv6, _⟩ := hF.shape
    subst hv6
    have hMN := Lib.hid hmany
    clear hmany
    have hsr := hb.size
    by_cases hlt : k < xs.length
    · obtain ⟨g, off, hag, hcl, _⟩ := (rd_slice_of hX.rd2).2.int hlt
      subst hag
      obtain ⟨j0, j1⟩ := HIN.out _ (List.getElem_mem hlt)
      have hn1 := HNS.out k hlt (by omega)
      obtain ⟨j, hj⟩ : ∃ j : Nat, xs[k] = (j : Int) := ⟨xs[k].toNat, by omega⟩
      rw [hj] at hcl hn1 j0 j1
      have hjl : j < r.commits.length := by omega
      obtain ⟨gc, offc, _, _, _, _, hagc, _, hcw, _, _, hz1, _⟩ := (hs.keep hb).commit hjl
      subst hagc
      obtain ⟨s, hsn⟩ : ∃ s, s = r.commits[j].who := ⟨_, rfl⟩
      rw [← hsn] at hcw hz1
      have hn2 : ns[k]'(by omega) = s := by rw [hn1, hsn]; unfold nameAt; rw [Int.toNat_natCast, getD_com hjl]
      have HN := Lib.hid (whoF_next HA.out (by omega : k < ns.length))
      rw [hn2] at HN
      clear hn1 hn2 hj hsn
      have z0 := BW.cell q0
      have z1 := BW.cell hcl
      have z2 := BW.cell hcw
      obtain ⟨wp, hwp⟩ : ∃ wp : World, wp = wr := ⟨_, rfl⟩
      obtain ⟨mw, hmw⟩ : ∃ mw, mw = w1.heap.size := ⟨_, rfl⟩
      rw [← hmw] at hX HF1 hs3 hsw
      try rw [← hmw]
      clear hmw
      subst hwp
      go_wp2
      refine wp_region_bw (by kernel_rfl) (by kernel_rfl) ?_
      repeat (go_big_quiet_step (fail))
      refine wpQuiet_nil ?_
      rintro w1 ⟨⟨_, hbw⟩, rfl⟩
      clear z0 z1 z2
      have hs1 := hbw.size
      have hX := hX.belowm hs3 hbw
      have hF := (hF.below (Nat.le_refl _) hbw).mono (Nat.le_refl _) hs1
      have HF1 : Hid (0 < ol.length → Fresh mw w1.heap.size w1 [.slice a6 ol.length c6] ol) := fun h => ((HF1.out h).below (Nat.le_refl _) hbw).mono (Nat.le_refl _) hs1
      have q0 := keepc q0 hbw
      have hb := hb.trans (hbw.mono hb.size)
      have hs3 : mw ≤ w1.heap.size := by omega
      have hsr : w.heap.size ≤ w1.heap.size := by omega
      obtain ⟨wo, hwo⟩ : ∃ wo : World, wo = w1 := ⟨_, rfl⟩
      subst hwo
      have hO := (rd_slice_of hF.rd2).2
      have hOl := hO.le
      clear hbw hs1 hcl hcw
      go_wp2
      go_loop [11] (fun i => ∃ n : Nat, n ≤ ol.length ∧ i = .int .i64 n ∧ Hid (∀ j (h : j < ol.length), j < n → lessB ol[j].who s = true)) (fun i => ol.length - (intOf i).toNat)
      case atStart => exact ⟨0, by omega, rfl, fun j _ h => by omega⟩
      case round =>
        obtain ⟨n, hn, rfl, HL⟩ := hrel
        by_cases hlo : n < ol.length
        · obtain ⟨g6, off6, hag6, hcw, hcm, hz6, hi6⟩ := hO.share hlo
          subst hag6
          cases hl : lessB ol[n].who s with
          | true =>
            have hl' : Op.bytesLess ol[n].who.toList s.toList = true := hl
            go_wp2
            go_round
            case rel => exact ⟨n + 1, by omega, by go_num, fun j hj hjn => by
              by_cases e : j = n
              · subst e; exact hl
              · exact HL.out j hj (by omega)⟩
            case measure => simp [intOf]; omega
          | false =>
            have hl' : Op.bytesLess ol[n].who.toList s.toList = false := hl
            cases he : decide (ol[n].who = s) with
            | true =>
              have hes : ol[n].who = s := of_decide_eq_true he
              have hadd := addW_eq HL.out hlo hes
              have hFF := HF1.out (by omega)
              obtain ⟨g7, hg7, hg8, hg9⟩ := hFF.addr (by omega)
              obtain ⟨rfl, rfl⟩ : g6 = g7 ∧ off6 = 0 := by simpa using hg7
              have hmb := hMN.out ol[n] (List.getElem_mem hlo)
              have hM9 := addW_bound (s := s) hMN.out (by omega : (0 : Int) ≤ k)
              have hal := addW_len ol s
              obtain ⟨m, hm⟩ : ∃ m, m = ol[n].many := ⟨_, rfl⟩
              rw [← hm] at hcm hmb hadd
              have hmi : I64 (m + 1) := by unfold I64; omega
              have hwr : IntKind.i64.wrap (m + 1) = m + 1 := IntWalk.i64_in _ (by omega)
              obtain ⟨⟨u', hu⟩, hfz, _, hF7⟩ := hFF.setL lens_share_many (by omega) hlo (Below.refl _ _) (show Fresh wo.heap.size wo.heap.size wo [.int .i64 (m + 1)] (m + 1) from Fresh.leaf ⟨rfl, rfl, hmi⟩)
              rw [Nat.zero_add] at hcw hcm
              have hszz : Rep.sz Share = 2 := rfl
              rw [hszz] at hu hfz hF7
              have hF9 : Fresh mw (wo.setCell ⟨g6, n * 2 + 1, none⟩ (.int .i64 (m + 1))).heap.size (wo.setCell ⟨g6, n * 2 + 1, none⟩ (.int .i64 (m + 1))) [.slice (some ⟨g6, 0, none⟩) ol.length c6] (addW ol s) := by rw [hadd]; exact hF7
              have hX9 := hX.setCell (a := ⟨g6, n * 2 + 1, none⟩) (u := .int .i64 (m + 1)) (.inr (by show mw ≤ g6; omega))
              have q9 := (World.cell?_of_block (a := ⟨w.heap.size, 0, none⟩) (Below.heap_setCell wo ⟨g6, n * 2 + 1, none⟩ (.int .i64 (m + 1)) w.heap.size (by show w.heap.size ≠ g6; omega))).trans q0
              have hB9 := hb.setCell (p := ⟨g6, n * 2 + 1, none⟩) (by show w.heap.size ≤ g6; omega) (.int .i64 (m + 1))
              have hhe : decide (ol[n].who = s) = true := he
              clear hadd hF7 hFF hm hes hu hg7
              go_wp2
              go_roundw
              case rel => exact ⟨⟨k + 1, addW ol s, by omega, by go_num, by omega, by simpa using hM9, hX9, hF9.mono (by omega) (Nat.le_refl _), (fun _ => hF9), q9, by simp; omega, HN.out⟩, hB9⟩
              case measure => simp [intOf]; omega
            | false =>
              have hes : ¬ ol[n].who = s := of_decide_eq_false he
              have hhe : decide (ol[n].who = s) = false := he
              have hct := run_cut0 slz_share.slt (some ⟨g6, off6, none⟩) ol.length c6 n (by have := hO.1; omega)
              have hct2 := run_cut slz_share.slt (some ⟨g6, off6, none⟩) ol.length c6 n hn
              have hpl : (ol.take n).length = n := by simp; omega
              have hdl : (ol.drop n).length = ol.length - n := by simp
              have hadd : addW ol s = (ol.take n ++ [(⟨s, 1⟩ : Share)]) ++ ol.drop n := addW_ins HL.out hlo hl hes
              go_wp2_with (first
                | (at_builtin; (refine wpList_app_leaf slz_share.slt rfl (.tmp 81) (.tmp 84) rfl rfl hF8 hsz8 rfl hdl.symm (hs8.cut hn) (by simp <;> omega) (by unfold maxLen; simp <;> omega) ?_); intro a9 c9 w9 hG9)
                | (at_builtin; (refine wpList_app_one slz_share.slt rfl (.tmp 76) (.tmp 79) rfl rfl (hF5.alloc _) (by simp; omega) rfl (heap_alloc_new _ _) (Fresh.leaf (m := w5.heap.size) (own_share (p := (⟨s, 1⟩ : Share)) hz1 hi1)) (by omega) (by rw [hpl]; omega) (by rw [hpl]; unfold maxLen; omega) ?_); intro a8 c8 w8 hG8; have hF8 := (show Fresh wo.heap.size w8.heap.size w8 [.slice a8 (n + 1) c8] (ol.take n ++ [(⟨s, 1⟩ : Share)]) from (by have := hG8.fresh; simpa only [hpl] using this)); have hb8 := (hb5.alloc hsz5 _).trans hG8.below; have hs8 := hO.frame (w' := w8) (fun b hb _ => ⟨hb8.block b hb.2, hb⟩); have hsz8 := hb8.size)
                | (at_builtin; go_must (refine wpList_app_leaf slz_share.slt rfl (.tmp 71) (.tmp 74) rfl rfl (Fresh.empty (β := Share) (by decide) wo.heap.size wo (Nat.le_refl _)) (le_alloc (Nat.le_refl _) _) rfl hpl.symm ((hO.take n).alloc _) (by simp <;> omega) (by unfold maxLen; simp <;> omega) ?_); intro a5 c5 w5 hG5; have hF5 := (show Fresh wo.heap.size w5.heap.size w5 [.slice a5 n c5] (ol.take n) from (by have := hG5.fresh; simpa only [List.length_nil, Nat.zero_add, hpl, List.nil_append] using this)); have hb5 := ((Below.refl _ wo).alloc (Nat.le_refl _) _).trans hG5.below; have hsz5 := hb5.size))
              have hF9 : Fresh wo.heap.size w9.heap.size w9 [.slice a9 (n + 1 + (ol.length - n)) c9] (addW ol s) := by
                have := hG9.fresh
                rw [hadd]
                simpa only [List.length_append, hpl, hdl, List.length_singleton] using this
              have hb9 := hb8.trans hG9.below
              have hs9 := hb9.size
              have hal := addW_len ol s
              have hX9 := hX.belowm hs3 hb9
              have q9 := keepc q0 hb9
              have hB9 := hb.trans (hb9.mono hsr)
              have hM9 := addW_bound (s := s) hMN.out (by omega : (0 : Int) ≤ k)
              clear hadd hct hct2 hG5 hG8 hG9 hF5 hF8 hs8 hb5 hb8
              go_roundw
              case rel => exact ⟨⟨k + 1, addW ol s, by omega, by go_num, by omega, by simpa using hM9, hX9, hF9.mono (by omega) (Nat.le_refl _), (fun _ => hF9.mono (by omega) (Nat.le_refl _)), q9, by omega, HN.out⟩, hB9⟩
              case measure => simp [intOf]; omega
        · have hno : n = ol.length := by omega
          have HNO := Lib.hid hno
          clear hno
          have hct := run_cut0 slz_share.slt a6 ol.length c6 n (by have := hO.1; omega)
          have hct2 := run_cut slz_share.slt a6 ol.length c6 n hn
          have hpl : (ol.take n).length = n := by simp; omega
          have hdl : (ol.drop n).length = ol.length - n := by simp
          have hadd : addW ol s = (ol.take n ++ [(⟨s, 1⟩ : Share)]) ++ ol.drop n := addW_end HL.out HNO.out
          go_wp2_with (first
            | (at_builtin; (refine wpList_app_leaf slz_share.slt rfl (.tmp 81) (.tmp 84) rfl rfl hF8 hsz8 rfl hdl.symm (hs8.cut hn) (by simp <;> omega) (by unfold maxLen; simp <;> omega) ?_); intro a9 c9 w9 hG9)
            | (at_builtin; (refine wpList_app_one slz_share.slt rfl (.tmp 76) (.tmp 79) rfl rfl (hF5.alloc _) (by simp; omega) rfl (heap_alloc_new _ _) (Fresh.leaf (m := w5.heap.size) (own_share (p := (⟨s, 1⟩ : Share)) hz1 hi1)) (by omega) (by rw [hpl]; omega) (by rw [hpl]; unfold maxLen; omega) ?_); intro a8 c8 w8 hG8; have hF8 := (show Fresh wo.heap.size w8.heap.size w8 [.slice a8 (n + 1) c8] (ol.take n ++ [(⟨s, 1⟩ : Share)]) from (by have := hG8.fresh; simpa only [hpl] using this)); have hb8 := (hb5.alloc hsz5 _).trans hG8.below; have hs8 := hO.frame (w' := w8) (fun b hb _ => ⟨hb8.block b hb.2, hb⟩); have hsz8 := hb8.size)
            | (at_builtin; go_must (refine wpList_app_leaf slz_share.slt rfl (.tmp 71) (.tmp 74) rfl rfl (Fresh.empty (β := Share) (by decide) wo.heap.size wo (Nat.le_refl _)) (le_alloc (Nat.le_refl _) _) rfl hpl.symm ((hO.take n).alloc _) (by simp <;> omega) (by unfold maxLen; simp <;> omega) ?_); intro a5 c5 w5 hG5; have hF5 := (show Fresh wo.heap.size w5.heap.size w5 [.slice a5 n c5] (ol.take n) from (by have := hG5.fresh; simpa only [List.length_nil, Nat.zero_add, hpl, List.nil_append] using this)); have hb5 := ((Below.refl _ wo).alloc (Nat.le_refl _) _).trans hG5.below; have hsz5 := hb5.size))
          have hF9 : Fresh wo.heap.size w9.heap.size w9 [.slice a9 (n + 1 + (ol.length - n)) c9] (addW ol s) := by
            have := hG9.fresh
            rw [hadd]
            simpa only [List.length_append, hpl, hdl, List.length_singleton] using this
          have hb9 := hb8.trans hG9.below
          have hs9 := hb9.size
          have hal := addW_len ol s
          have hX9 := hX.belowm hs3 hb9
          have q9 := keepc q0 hb9
          have hB9 := hb.trans (hb9.mono hsr)
          have hM9 := addW_bound (s := s) hMN.out (by omega : (0 : Int) ≤ k)
          clear hadd hct hct2 hG5 hG8 hG9 hF5 hF8 hs8 hb5 hb8
          go_roundw
          case rel => exact ⟨⟨k + 1, addW ol s, by omega, by go_num, by omega, by simpa using hM9, hX9, hF9.mono (by omega) (Nat.le_refl _), (fun _ => hF9.mono (by omega) (Nat.le_refl _)), q9, by omega, HN.out⟩, hB9⟩
          case measure => simp [intOf]; omega
    · have hkx : ¬ k < ns.length := by omega
      have HE := Lib.hid (whoF_end HA.out hkx)
      go_wp2
      go_ret
      exact ⟨_, rfl, by rw [HW.out, HE.out]; exact hF, hb⟩
end Go.Proofs.YthhmaclhggmneaaGreatDoor
namespace Go.Proofs.YthhmaclhggmneaaGreatDoor
open Go.RowKit Go.Vc
theorem bsum_two : ∀ (xs : List Share), bsum cnt1_share xs = 2 * xs.length
  | [] => rfl
  | x :: xs => by
    have h := bsum_two xs
    show cnt1_share x + bsum cnt1_share xs = _
    rw [h, List.length_cons]
    show 2 + _ = _
    omega
theorem blameWho_cnt (r : Repo) (at_ : Int) (path : ByteArray) : cnt_Sh (blameWho r at_ path) ≤ 20 := by
  have h1 := blameWho_len r at_ path
  have h2 := bsum_two (blameWho r at_ path)
  show bsum cnt1_share _ ≤ 20
  omega
end Go.Proofs.YthhmaclhggmneaaGreatDoor
