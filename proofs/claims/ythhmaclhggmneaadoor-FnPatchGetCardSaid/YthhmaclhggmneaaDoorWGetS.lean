/-
  Walks: a patch read, as the reference does it.
-/
import Derived.Test.YthhmaclhggmneaaDoorVPG
import Derived.Test.YthhmaclhggmneaaDoorWNum
import Derived.Test.YthhmaclhggmneaaDoorWPutS
import Derived.Test.YthhmaclhggmneaaDoorFSL
set_option linter.unusedVariables false
namespace Go.Vc
open Go.RowKit
theorem below_of {B : Nat} {w w1 : World} (h : Below 0 w w1) (hr : ∀ b, b < B → w1.heap[b]? = w.heap[b]?) : Below B w w1 := ⟨h.os, h.tape, h.output, h.size, hr⟩
theorem getS_is (s : ByteArray) : getS s = chk s (readF (fun t => some (numS t)) [] (piecesM 10 169 s).dropLast) := rfl
theorem bs_alloc (w : World) (o : Obj) : (w.alloc o).heap.size = w.heap.size + 1 := by simp
theorem bs_drew (w : World) : w.drew.heap.size = w.heap.size := rfl
end Go.Vc
namespace Go.Proofs.YthhmaclhggmneaaDoor
open Go.RowKit Go.Vc
open Go.Vc.Rep (rd)
open Go.Vc.Own (own)
set_option maxHeartbeats 16000000 in
set_option maxRecDepth 100000 in
theorem specPatchGet (s : ByteArray) (w : World) (hs : s.size ≤ 1048576) :
    Calls Tryd.prog 21 #[.string s] w fun e w' => ∃ v, e = .returned (.tuple #[v, .bool (getS s).isSome]) ∧ Fresh w.heap.size w'.heap.size w' [v] ((getS s).getD []) ∧ Below w.heap.size w w' := by
  have HY := Lib.hid (getS_is s)
  obtain ⟨G, hG0⟩ : ∃ G, G = getS s := ⟨_, rfl⟩
  have hpl := piecesM_len 10 169 s
  have hpp : 0 < (piecesM 10 169 s).length := by rw [piecesM, List.length_map, cutM_len]; omega
  have HPZ := Lib.hid (show ∀ i (h : i < (piecesM 10 169 s).length), (piecesM 10 169 s)[i].size ≤ 1048576 from fun i h => by
    obtain ⟨x, hx, he⟩ := List.mem_map.1 (List.getElem_mem h)
    rw [← he, bytesB_size]
    have h1 := cutM_mem _ _ _ hx
    have h2 : s.data.toList.length = s.size := by simp
    omega)
  obtain ⟨w0, hw0⟩ : ∃ w0, w0 = w.alloc (.cells #[] 71) := ⟨_, rfl⟩
  have HC := Lib.hid (l1Cut_any s 10 169 w0 (Nat.le_trans hs (by decide)) (by decide))
  obtain ⟨P, hP⟩ : ∃ P, P = piecesM 10 169 s := ⟨_, rfl⟩
  rw [← hP] at hpl hpp HPZ HC HY
  rw [← hG0] at HY ⊢
  clear hP hG0
  obtain ⟨ls, hls⟩ : ∃ ls, ls = P.dropLast := ⟨_, rfl⟩
  rw [← hls] at HY
  have hl1 : ls.length + 1 ≤ P.length := by rw [hls, List.length_dropLast]; omega
  have hl2 : P.length ≤ ls.length + 1 := by rw [hls, List.length_dropLast]; omega
  have HLP := Lib.hid (show ∀ i (h : i < ls.length) (h2 : i < P.length), P[i] = ls[i] from fun i h h2 => by subst hls; rw [List.getElem_dropLast])
  clear hls
  obtain ⟨R, hR⟩ : ∃ R, R = readF (fun t => some (numS t)) [] ls := ⟨_, rfl⟩
  have HR : Hid (R = readF (fun t => some (numS t)) [] (ls.drop 0)) := by show R = _; rw [hR]; rfl
  rw [← hR] at HY
  clear hR
  have hB0 : Below w.heap.size w w0 := by rw [hw0]; exact ((Below.refl _ _).alloc (by simp <;> omega) _)
  have hs0 : w.heap.size + 1 ≤ w0.heap.size ∧ w0.heap.size ≤ w.heap.size + 1 := by rw [hw0]; simp
  have hE0 : FS (fun b => b = w.heap.size) w0 [.slice (some ⟨w.heap.size, 0, none⟩) 0 0] ([] : List Hunk) := by rw [hw0]; exact FS.empty (β := Hunk) (by decide) (heap_alloc_new _ _)
  have HW0 := Lib.hid hw0
  clear hw0
  have h10 : ((10 : UInt8).toNat : Int) = 10 := rfl
  have h169 : ((169 : Nat) : Int) = 169 := rfl
  rw [h10, h169] at HC
  clear h10 h169
  go_enter Tryd.func21, Tryd.ntmps21
  go_wp2_with fail
  rw [← HW0.out]
  refine (HC.out).mono ?_
  rintro e w1 ⟨v1, rfl, hL, hb1⟩
  obtain ⟨a, c, hv1, _⟩ := hL.shape
  subst hv1
  have hs1 := hb1.size
  have HB1 := hB0.trans (hb1.mono hB0.size)
  have hS := (rd_slice_of hL.rd2).2
  obtain ⟨m0, hm0⟩ : ∃ m0, m0 = w1.heap.size := ⟨_, rfl⟩
  obtain ⟨L0, hL0⟩ : ∃ L0, L0 = w.heap.size := ⟨_, rfl⟩
  have hS : IsSlice (fun b => L0 < b ∧ b < m0) w1 a c P := hS.frame fun b hb' _ => ⟨rfl, by have := hb'.1; omega, by have := hb'.2; omega⟩
  have hE1 : FS (fun b => b = L0 ∨ m0 ≤ b) w1 [.slice (some ⟨w.heap.size, 0, none⟩) 0 0] ([] : List Hunk) := (hE0.below hb1 (fun b hb' _ => by have h : b = w.heap.size := hb'; omega)).mono fun b hb' _ => .inl (by have h : b = w.heap.size := hb'; omega)
  have hm1 : m0 ≤ w1.heap.size := by omega
  have hLm : L0 < m0 := by omega
  rw [← hL0] at HB1
  have hL0b := Nat.le_of_eq hL0
  have hL0c := Nat.le_of_eq hL0.symm
  clear HC hm0 hb1 hB0 hE0 hL hL0 HW0
  go_wp2
  go_loopw [4, 6] (fun dv i wr => (∃ (k : Nat) (d : List Hunk), k ≤ ls.length ∧ i = .int .i64 k ∧ d.length ≤ k ∧ IsSlice (fun b => L0 < b ∧ b < m0) wr a c P ∧ FS (fun b => b = L0 ∨ m0 ≤ b) wr [dv] d ∧ Hid (smallH k d) ∧ m0 ≤ wr.heap.size ∧ Hid (R = readF (fun t => some (numS t)) d (ls.drop k))) ∧ Below L0 w wr) (fun _ i _ => ls.length - (intOf i).toNat)
  case atStart => exact ⟨⟨0, [], by omega, rfl, by simp, hS, hE1, smallH_nil 0, hm1, HR.out⟩, HB1⟩
  case round =>
    clear hS hE1 hm1 HR HB1
    obtain ⟨⟨k, d, hk, rfl, hdk, hS, hF, HSM, hm1, HR⟩, hb⟩ := hrel
    have hFr := hF.fresh (B := 0) (m := wr.heap.size) (fun b _ hl => ⟨Nat.zero_le _, hl⟩)
    obtain ⟨ad, cd, hdv, _⟩ := hFr.shape
    subst hdv
    have hsr := hb.size
    have hk1 : IntKind.i64.wrap ((k : Int) + 1) = ((k + 1 : Nat) : Int) := by rw [IntWalk.i64_in _ (by omega)]; omega
    by_cases hlt : k < ls.length
    · have hltP : k + 1 < P.length := by omega
      obtain ⟨g, off, hag, hcl, hsz⟩ := hS.str (i := k) (by omega)
      subst hag
      have HNX := Lib.hid (fun d' hr => readF_next (d' := d') HR.out hlt hr)
      have HBD := Lib.hid (fun hr => readF_bad HR.out hlt hr)
      have HLZ := Lib.hid (HPZ.out k (by omega))
      have hel := HLP.out k hlt (by omega)
      obtain ⟨l, hl⟩ : ∃ l, l = ls[k] := ⟨_, rfl⟩
      rw [hel, ← hl] at hcl hsz HLZ
      rw [← hl] at HNX HBD
      clear hl hel HR
      by_cases hl0 : 0 < l.size
      · have he0 : l.toList.isEmpty = false := by rw [empty_dec]; exact decide_eq_false (fun e => by rw [e] at hl0; exact absurd hl0 (by decide))
        by_cases h64 : l[0].toNat = 64
        · have q64 : ((l[0].toNat : Int) == 64) = true := by rw [beq_iff_eq]; omega
          have hwd : IntKind.i64.wrap ((d.length : Int) - 1) = (d.length : Int) - 1 := IntWalk.i64_in _ (by omega)
          obtain ⟨t, ht⟩ : ∃ t, t = l.extract 1 l.size := ⟨_, rfl⟩
          have htz : t.size ≤ l.size := by rw [ht, ByteArray.size_extract]; omega
          have hcut1 : l.extract 1 l.size = t := ht.symm
          have h1l : (1 : Int) ≤ (l.size : Int) := by omega
          have HX := Lib.hid (HNX.out _ ((readL_at hl0).trans (by rw [← ht]; exact rc_head (n := numS t) h64 rfl)))
          clear ht HNX HBD hFr
          obtain ⟨n, hnn⟩ : ∃ n, n = numS t := ⟨_, rfl⟩
          have HCN := Lib.hid (fun w' (hz : t.size ≤ maxLen) => l1Num_any t w' hz)
          rw [← hnn] at HX HCN
          clear hnn
          go_wp2_with fail
          refine (HCN.out _ (by unfold maxLen at hsz ⊢; omega)).mono ?_
          rintro e w7 ⟨rfl, hni, rfl⟩
          have hfh := (Fresh.hunk (p := (⟨n, [], []⟩ : Hunk)) hni (Fresh.nil wr.heap.size wr.heap.size (wr.alloc (.cells #[.int .i64 n, .slice none 0 0, .slice none 0 0] 71)) (by decide)) (Fresh.nil wr.heap.size wr.heap.size _ (by decide)) (Nat.le_refl _) (Nat.le_refl _)).fs
          go_wp2_with (at_builtin; go_must (refine wpList_app_oneS slz_hunk.slt rfl (.tmp 34) (.tmp 39) rfl rfl (hF.alloc _) rfl (heap_alloc_new _ _) hfh (fun b _ h2 _ => by have h3 : wr.heap.size ≤ b ∧ b < wr.heap.size := h2; omega) (by omega) (by unfold maxLen; omega) ?_); intro a8 c8 w8 hF8 hB8 hr8)
          have hal : (wr.alloc (.cells #[.int .i64 n, .slice none 0 0, .slice none 0 0] 71)).heap.size = wr.heap.size + 1 := by simp
          have hb9 : Below L0 wr w8 := ((Below.refl _ _).alloc (by omega) _).trans (hB8 L0 (by omega) (fun b h1 _ => by have h2 : b = L0 ∨ m0 ≤ b := h1; omega))
          have hS8 := hS.frame (w' := w8) (fun b hb' hl' => ⟨(hr8 b (by omega) (by intro h; have h3 : b = L0 ∨ m0 ≤ b := h; have := hb'.1; have := hb'.2; omega)).trans (Below.heap_alloc wr _ b hl'), hb'⟩)
          have hs9 := hb9.size
          have hb10 := hb.trans hb9
          have hFz : FS (fun b => b = L0 ∨ m0 ≤ b) w8 [.slice a8 (d.length + 1) c8] (d ++ [(⟨n, [], []⟩ : Hunk)]) := FS.mono hF8 fun b h1 _ => by
            have h2 : (b = L0 ∨ m0 ≤ b) ∨ (wr.heap.size ≤ b ∧ b < wr.heap.size) ∨ (wr.alloc (.cells #[.int .i64 n, .slice none 0 0, .slice none 0 0] 71)).heap.size ≤ b := h1
            omega
          clear hF8 hb9 hB8 hr8 hal
          go_roundw
          case rel => exact ⟨⟨k + 1, d ++ [(⟨n, [], []⟩ : Hunk)], by omega, by go_num, by simp; omega, hS8, by simpa using hFz, smallH_add HSM.out, by omega, HX.out⟩, hb10⟩
          case measure => simp [intOf] <;> omega
        · have q64 : ((l[0].toNat : Int) == 64) = false := by rw [beq_eq_false_iff_ne]; omega
          by_cases hd0 : 0 < d.length
          · by_cases h45 : l[0].toNat = 45
            · have q45 : ((l[0].toNat : Int) == 45) = true := by rw [beq_iff_eq]; omega
              have HX := Lib.hid (HNX.out _ ((readL_at hl0).trans (rc_less h45 hd0)))
              have hgt := HSM.out d[d.length - 1] (List.getElem_mem (by omega))
              obtain ⟨g2, hg2e, hg2, hg3⟩ := hFr.addr hd0
              subst hg2e
              obtain ⟨gx, offx, b1, e1, b2, e2, hgx, hx0, hx1, hx2, hxi, hy1, hy2⟩ := (rd_slice_of hFr.rd2).2.hunk (i := d.length - 1) (by omega)
              obtain ⟨rfl, rfl⟩ : g2 = gx ∧ 0 = offx := by simpa using hgx
              rw [Nat.zero_add] at hx0 hx1 hx2
              have hKl : d.length - 1 < d.length := by omega
              obtain ⟨K, hK⟩ : ∃ K, K = d.length - 1 := ⟨_, rfl⟩
              have hwr : IntKind.i64.wrap ((d.length : Int) - 1) = (K : Int) := by rw [IntWalk.i64_in _ (by omega)]; omega
              have hKl2 : K < d.length := by omega
              obtain ⟨dK, hdK⟩ : ∃ x, x = d[d.length - 1] := ⟨_, rfl⟩
              have hdK2 : d[K] = dK := by rw [hdK]; congr 1
              rw [← hdK] at hx0 hx1 hx2 HX hgt hy1 hy2
              rw [← hK] at hx0 hx1 hx2 HX
              have hg2l : g2 < wr.heap.size := World.block_lt_of_cell? wr _ hx0
              obtain ⟨t, ht⟩ : ∃ t, t = l.extract 1 l.size := ⟨_, rfl⟩
              have htz : t.size ≤ maxLen := by rw [ht, ByteArray.size_extract]; unfold maxLen at hsz ⊢; omega
              have hcut1 : l.extract 1 l.size = t := ht.symm
              have h1l : (1 : Int) ≤ (l.size : Int) := by omega
              rw [← ht] at HX
              have hsrc : IsSlice (fun b => b = wr.heap.size) (wr.alloc (.cells #[.string t] (Tid.tid ByteArray))) (some ⟨wr.heap.size, 0, none⟩) 1 [t] := lit_strs [t] (heap_alloc_new _ _) (by simpa using htz) (by unfold maxLen; simp)
              have hby : (dK.less.length + 1) * 16 ≤ 140737488355328 := by omega
              have hby2 : dK.less.length + 1 ≤ maxLen := by unfold maxLen; omega
              have hrel : (d.set K (⟨dK.at_, dK.less ++ [t], dK.more⟩ : Hunk)).length ≤ k + 1 := by rw [List.length_set]; omega
              have HS2 := Lib.hid (smallH_set (i := K) (y := (⟨dK.at_, dK.less ++ [t], dK.more⟩ : Hunk)) HSM.out (by simp <;> omega))
              have HK := Lib.hid hdK2
              have HKE := Lib.hid hK
              have hkn0 : (0 : Int) ≤ (K : Int) := by omega
              clear hdK hK ht hgx hKl hdK2 hgt hxi hy1 hy2 HNX HBD hx0 hFr
              go_wp2_with fail
              go_region_law (refine step_app_lensS lens_hunk_less slz_string.slt rfl (.tmp 59) (.tmp 62) rfl (i := K) (ys := [t]) (by exact (hF.alloc _).drew) hKl2 rfl (by exact (World.cell?_alloc_lt wr _ _ hg2l).trans hx1) rfl rfl (by exact hsrc.drew) (by rw [HK.out]; exact hby) (by rw [HK.out]; exact hby2) ?_; intro a3 c3 w3 hcx hfx hbx hrx hgx hFx; obtain ⟨u3, hcy⟩ := hcx; have hcz : w3.cell? ⟨g2, K * 3 + 1, none⟩ = some u3 := hcy; have hfz : w3.frozen? ⟨g2, K * 3 + 1, none⟩ = false := hfx; clear hcy hfx)
              all_goals
                have hgx2 : g2 = L0 ∨ m0 ≤ g2 := hgx
                have hba : Below 0 wr (wr.alloc (.cells #[.string t] (Tid.tid ByteArray))) := (Below.refl _ _).alloc (Nat.zero_le _) _
                have hb00 : Below 0 wr (w3.setCell ⟨g2, K * 3 + 1, none⟩ (.slice a3 (dK.less.length + 1) c3)) := ((hba.drew).trans hbx).setCell (Nat.zero_le _) _
                have hbk : ∀ b, b < m0 → b ≠ L0 → (w3.setCell ⟨g2, K * 3 + 1, none⟩ (.slice a3 (dK.less.length + 1) c3)).heap[b]? = wr.heap[b]? := fun b h1 h2 => (Below.heap_setCell w3 _ _ b (by show b ≠ g2; omega)).trans ((hrx b (by simp; omega) (by intro h; have h3 : b = L0 ∨ m0 ≤ b := h; omega)).trans (Below.heap_alloc wr _ b (by omega)))
                have hs4 : wr.heap.size ≤ (w3.setCell ⟨g2, K * 3 + 1, none⟩ (.slice a3 (dK.less.length + 1) c3)).heap.size := hb00.size
                have hFy : FS (fun b => b = L0 ∨ m0 ≤ b) (w3.setCell ⟨g2, K * 3 + 1, none⟩ (.slice a3 (dK.less.length + 1) c3)) [.slice (some ⟨g2, 0, none⟩) d.length cd] (d.set K (⟨dK.at_, dK.less ++ [t], dK.more⟩ : Hunk)) := by
                  rw [HK.out] at hFx
                  exact FS.mono hFx fun b h1 _ => by
                    have h2 : (b = L0 ∨ m0 ≤ b) ∨ (wr.alloc (.cells #[.string t] (Tid.tid ByteArray))).drew.heap.size ≤ b := h1
                    simp only [bs_alloc, bs_drew] at h2
                    omega
                have hS3 := hS.frame (w' := w3.setCell ⟨g2, K * 3 + 1, none⟩ (.slice a3 (dK.less.length + 1) c3)) (fun b hb' _ => ⟨hbk b hb'.2 (by have := hb'.1; omega), hb'⟩)
                have hb4 := hb.trans (below_of hb00 (fun b h1 => hbk b (by omega) (by omega)))
                clear hFx hba hbk hb00 hbx hrx hgx
                go_wp2
                go_roundw
                case rel => exact ⟨⟨k + 1, _, by omega, by go_num, hrel, hS3, hFy, HS2.out, by omega, HX.out⟩, hb4⟩
                case measure => simp [intOf] <;> omega
            · have q45 : ((l[0].toNat : Int) == 45) = false := by rw [beq_eq_false_iff_ne]; omega
              by_cases h43 : l[0].toNat = 43
              · have q43 : ((l[0].toNat : Int) == 43) = true := by rw [beq_iff_eq]; omega
                have HX := Lib.hid (HNX.out _ ((readL_at hl0).trans (rc_more h43 hd0)))
                have hgt := HSM.out d[d.length - 1] (List.getElem_mem (by omega))
                obtain ⟨g2, hg2e, hg2, hg3⟩ := hFr.addr hd0
                subst hg2e
                obtain ⟨gx, offx, b1, e1, b2, e2, hgx, hx0, hx1, hx2, hxi, hy1, hy2⟩ := (rd_slice_of hFr.rd2).2.hunk (i := d.length - 1) (by omega)
                obtain ⟨rfl, rfl⟩ : g2 = gx ∧ 0 = offx := by simpa using hgx
                rw [Nat.zero_add] at hx0 hx1 hx2
                have hKl : d.length - 1 < d.length := by omega
                obtain ⟨K, hK⟩ : ∃ K, K = d.length - 1 := ⟨_, rfl⟩
                have hwr : IntKind.i64.wrap ((d.length : Int) - 1) = (K : Int) := by rw [IntWalk.i64_in _ (by omega)]; omega
                have hKl2 : K < d.length := by omega
                obtain ⟨dK, hdK⟩ : ∃ x, x = d[d.length - 1] := ⟨_, rfl⟩
                have hdK2 : d[K] = dK := by rw [hdK]; congr 1
                rw [← hdK] at hx0 hx1 hx2 HX hgt hy1 hy2
                rw [← hK] at hx0 hx1 hx2 HX
                have hg2l : g2 < wr.heap.size := World.block_lt_of_cell? wr _ hx0
                obtain ⟨t, ht⟩ : ∃ t, t = l.extract 1 l.size := ⟨_, rfl⟩
                have htz : t.size ≤ maxLen := by rw [ht, ByteArray.size_extract]; unfold maxLen at hsz ⊢; omega
                have hcut1 : l.extract 1 l.size = t := ht.symm
                have h1l : (1 : Int) ≤ (l.size : Int) := by omega
                rw [← ht] at HX
                have hsrc : IsSlice (fun b => b = wr.heap.size) (wr.alloc (.cells #[.string t] (Tid.tid ByteArray))) (some ⟨wr.heap.size, 0, none⟩) 1 [t] := lit_strs [t] (heap_alloc_new _ _) (by simpa using htz) (by unfold maxLen; simp)
                have hby : (dK.more.length + 1) * 16 ≤ 140737488355328 := by omega
                have hby2 : dK.more.length + 1 ≤ maxLen := by unfold maxLen; omega
                have hrel : (d.set K (⟨dK.at_, dK.less, dK.more ++ [t]⟩ : Hunk)).length ≤ k + 1 := by rw [List.length_set]; omega
                have HS2 := Lib.hid (smallH_set (i := K) (y := (⟨dK.at_, dK.less, dK.more ++ [t]⟩ : Hunk)) HSM.out (by simp <;> omega))
                have HK := Lib.hid hdK2
                have HKE := Lib.hid hK
                have hkn0 : (0 : Int) ≤ (K : Int) := by omega
                clear hdK hK ht hgx hKl hdK2 hgt hxi hy1 hy2 HNX HBD hx0 hFr
                go_wp2_with fail
                go_region_law (refine step_app_lensS lens_hunk_more slz_string.slt rfl (.tmp 84) (.tmp 87) rfl (i := K) (ys := [t]) (by exact (hF.alloc _).drew) hKl2 rfl (by exact (World.cell?_alloc_lt wr _ _ hg2l).trans hx2) rfl rfl (by exact hsrc.drew) (by rw [HK.out]; exact hby) (by rw [HK.out]; exact hby2) ?_; intro a3 c3 w3 hcx hfx hbx hrx hgx hFx; obtain ⟨u3, hcy⟩ := hcx; have hcz : w3.cell? ⟨g2, K * 3 + 2, none⟩ = some u3 := hcy; have hfz : w3.frozen? ⟨g2, K * 3 + 2, none⟩ = false := hfx; clear hcy hfx)
                all_goals
                  have hgx2 : g2 = L0 ∨ m0 ≤ g2 := hgx
                  have hba : Below 0 wr (wr.alloc (.cells #[.string t] (Tid.tid ByteArray))) := (Below.refl _ _).alloc (Nat.zero_le _) _
                  have hb00 : Below 0 wr (w3.setCell ⟨g2, K * 3 + 2, none⟩ (.slice a3 (dK.more.length + 1) c3)) := ((hba.drew).trans hbx).setCell (Nat.zero_le _) _
                  have hbk : ∀ b, b < m0 → b ≠ L0 → (w3.setCell ⟨g2, K * 3 + 2, none⟩ (.slice a3 (dK.more.length + 1) c3)).heap[b]? = wr.heap[b]? := fun b h1 h2 => (Below.heap_setCell w3 _ _ b (by show b ≠ g2; omega)).trans ((hrx b (by simp; omega) (by intro h; have h3 : b = L0 ∨ m0 ≤ b := h; omega)).trans (Below.heap_alloc wr _ b (by omega)))
                  have hs4 : wr.heap.size ≤ (w3.setCell ⟨g2, K * 3 + 2, none⟩ (.slice a3 (dK.more.length + 1) c3)).heap.size := hb00.size
                  have hFy : FS (fun b => b = L0 ∨ m0 ≤ b) (w3.setCell ⟨g2, K * 3 + 2, none⟩ (.slice a3 (dK.more.length + 1) c3)) [.slice (some ⟨g2, 0, none⟩) d.length cd] (d.set K (⟨dK.at_, dK.less, dK.more ++ [t]⟩ : Hunk)) := by
                    rw [HK.out] at hFx
                    exact FS.mono hFx fun b h1 _ => by
                      have h2 : (b = L0 ∨ m0 ≤ b) ∨ (wr.alloc (.cells #[.string t] (Tid.tid ByteArray))).drew.heap.size ≤ b := h1
                      simp only [bs_alloc, bs_drew] at h2
                      omega
                  have hS3 := hS.frame (w' := w3.setCell ⟨g2, K * 3 + 2, none⟩ (.slice a3 (dK.more.length + 1) c3)) (fun b hb' _ => ⟨hbk b hb'.2 (by have := hb'.1; omega), hb'⟩)
                  have hb4 := hb.trans (below_of hb00 (fun b h1 => hbk b (by omega) (by omega)))
                  clear hFx hba hbk hb00 hbx hrx hgx
                  go_wp2
                  go_roundw
                  case rel => exact ⟨⟨k + 1, _, by omega, by go_num, hrel, hS3, hFy, HS2.out, by omega, HX.out⟩, hb4⟩
                  case measure => simp [intOf] <;> omega
              · have q43 : ((l[0].toNat : Int) == 43) = false := by rw [beq_eq_false_iff_ne]; omega
                have hwd : IntKind.i64.wrap ((d.length : Int) - 1) = (d.length : Int) - 1 := IntWalk.i64_in _ (by omega)
                have hbF := hb.mono hL0c
                have HN : Hid (G = none) := by show G = _; rw [HY.out, HBD.out ((readL_at hl0).trans (rc_bad h64 h45 h43))]; rfl
                clear HNX HBD
                go_wp2
                go_ret2
                exact ⟨.slice none 0 0, by rw [HN.out]; rfl, by rw [HN.out]; exact Fresh.nil _ _ _ (by decide), hbF⟩
          · have hdn : d.length = 0 := by omega
            have hde : d = [] := List.eq_nil_of_length_eq_zero hdn
            subst hde
            cases hq45 : ((l[0].toNat : Int) == 45) with
            | true =>
              have h45e : (l[0].toNat : Int) = 45 := beq_iff_eq.1 hq45
              have hq43 : ((l[0].toNat : Int) == 43) = false := by rw [beq_eq_false_iff_ne, h45e]; decide
              clear h45e
              have hbF := hb.mono hL0c
              have HN : Hid (G = none) := by show G = _; rw [HY.out, HBD.out ((readL_at hl0).trans (rc_none h64 rfl))]; rfl
              clear HNX HBD
              go_wp2
              go_ret2
              exact ⟨.slice none 0 0, by rw [HN.out]; rfl, by rw [HN.out]; exact Fresh.nil _ _ _ (by decide), hbF⟩
            | false =>
              cases hq43 : ((l[0].toNat : Int) == 43) with
              | true =>
                have hbF := hb.mono hL0c
                have HN : Hid (G = none) := by show G = _; rw [HY.out, HBD.out ((readL_at hl0).trans (rc_none h64 rfl))]; rfl
                clear HNX HBD
                go_wp2
                go_ret2
                exact ⟨.slice none 0 0, by rw [HN.out]; rfl, by rw [HN.out]; exact Fresh.nil _ _ _ (by decide), hbF⟩
              | false =>
                have hbF := hb.mono hL0c
                have HN : Hid (G = none) := by show G = _; rw [HY.out, HBD.out ((readL_at hl0).trans (rc_none h64 rfl))]; rfl
                clear HNX HBD
                go_wp2
                go_ret2
                exact ⟨.slice none 0 0, by rw [HN.out]; rfl, by rw [HN.out]; exact Fresh.nil _ _ _ (by decide), hbF⟩
      · have hlz : l.size = 0 := by omega
        have hwd : IntKind.i64.wrap ((d.length : Int) - 1) = (d.length : Int) - 1 := IntWalk.i64_in _ (by omega)
        have he0 : l.toList.isEmpty = true := by
          rw [empty_dec]
          have hln : l.data.toList = [] := List.eq_nil_of_length_eq_zero (by simpa using hlz)
          exact decide_eq_true ((bytesB_data l).symm.trans (by rw [hln]; rfl))
        have hbF := hb.mono hL0c
        have HN : Hid (G = none) := by show G = _; rw [HY.out, HBD.out (readL_no hlz)]; rfl
        clear HNX HBD
        go_wp2
        go_ret2
        exact ⟨.slice none 0 0, by rw [HN.out]; rfl, by rw [HN.out]; exact Fresh.nil _ _ _ (by decide), hbF⟩
    · have hltP : ¬ k + 1 < P.length := by omega
      have HE := Lib.hid (readF_end HR.out hlt)
      have HY2 : Hid (G = chk s (some d)) := by show G = _; rw [HY.out, HE.out]
      clear HE HY HR
      have hrd := hF.rd
      clear hFr
      cases hpb : patchB d with
      | false =>
        have HN : Hid (G = none) := by show G = _; rw [HY2.out, chk_bad hpb]
        clear HY2
        go_wp2_with fail
        refine (l2Ok_is _ d _ hrd hpb).mono ?_
        rintro e w5 ⟨rfl, hb5⟩
        have hb6 := (hb.trans (hb5.mono (by omega))).mono hL0c
        clear hpb
        go_wp2
        go_ret2
        exact ⟨.slice none 0 0, by rw [HN.out]; rfl, by rw [HN.out]; exact Fresh.nil _ _ _ (by decide), hb6⟩
      | true =>
        go_wp2_with fail
        refine (l2Ok_is _ d _ hrd hpb).mono ?_
        rintro e w5 ⟨rfl, hb5⟩
        have hF5 := hF.below hb5 (fun b _ hl => hl)
        go_wp2_with fail
        refine (l2Put_any _ d _ hF5.rd hpb).mono ?_
        rintro e w6 ⟨rfl, hb6⟩
        have hF6 : Fresh w.heap.size w6.heap.size w6 _ _ := FS.fresh (hF5.below hb6 (fun b _ hl => hl)) (fun b h1 hl => ⟨by have h2 : b = L0 ∨ m0 ≤ b := h1; omega, hl⟩)
        have hb7 := ((hb.trans (hb5.mono (by omega))).trans (hb6.mono (by have := hb5.size; omega))).mono hL0c
        obtain ⟨u, hu⟩ : ∃ u, u = putB d := ⟨_, rfl⟩
        rw [← hu]
        cases hus : decide (u = s) with
        | true =>
          have hus2 : putB d = s := by rw [← hu]; exact of_decide_eq_true hus
          have HN : Hid (G = some d) := by show G = _; rw [HY2.out, chk_some hpb hus2]
          clear hus2 hpb hu HY2 hrd hF hF5
          go_wp2
          go_ret2
          exact ⟨.slice ad d.length cd, by rw [HN.out]; rfl, by rw [HN.out]; exact hF6, hb7⟩
        | false =>
          have hus2 : ¬ putB d = s := by rw [← hu]; exact of_decide_eq_false hus
          have HN : Hid (G = none) := by show G = _; rw [HY2.out, chk_other hus2]
          clear hus2 hpb hu HY2 hrd hF hF5
          go_wp2
          go_ret2
          exact ⟨.slice none 0 0, by rw [HN.out]; rfl, by rw [HN.out]; exact Fresh.nil _ _ _ (by decide), hb7⟩
end Go.Proofs.YthhmaclhggmneaaDoor
