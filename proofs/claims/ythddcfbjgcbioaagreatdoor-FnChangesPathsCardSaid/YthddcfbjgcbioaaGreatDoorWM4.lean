/-
  Walks: the differences of two texts, as the reference has them.
-/
import Derived.Test.YthddcfbjgcbioaaGreatDoorVMT
import Derived.Test.YthddcfbjgcbioaaGreatDoorVM3
import Derived.Test.YthddcfbjgcbioaaGreatDoorVL
import Derived.Test.YthddcfbjgcbioaaGreatDoorVFS
set_option linter.unusedVariables false
namespace Go.Proofs.YthddcfbjgcbioaaGreatDoor
open Go.RowKit Go.Vc
open Go.Vc.Rep (rd)
open Go.Vc.Own (own)

set_option maxHeartbeats 4000000 in
set_option maxRecDepth 100000 in
theorem l1Of_any {S T : Nat → Prop} (v u : Value) (xs ys : List ByteArray) (w : World) (hv : rd S w [v] xs) (hu : rd T w [u] ys) (hx : xs.length ≤ 10) (hy : ys.length ≤ 10) :
    Calls Tryz.prog 76 #[v, u] w fun e w' => ∃ v', e = .returned v' ∧ Fresh w.heap.size w'.heap.size w' [v'] (diffT xs ys) ∧ Below w.heap.size w w' := by
  obtain ⟨a, cap, rfl, hs⟩ := rd_slice_elim (Rep.lt hv)
  obtain ⟨b, cbp, rfl, ht⟩ := rd_slice_elim (Rep.lt hu)
  have hcap := hs.1
  have hcbp := ht.1
  go_enter Tryz.func76, Tryz.ntmps76
  go_wp2_with fail
  refine (l1Match_any _ _ xs ys _ (hs.alloc _).rd (ht.alloc _).rd hx hy).mono ?_
  rintro e wt ⟨v1, rfl, hM, hb1⟩
  obtain ⟨am, cm, rfl, _⟩ := hM.shape
  have hsz1 := hb1.size
  have HML := Lib.hid (matchT_len xs ys)
  have hO1 := (FS.empty (β := Hunk) (by decide) (heap_alloc_new w (.cells #[] (Tid.tid Hunk)))).below hb1 (by intro b hb; simp <;> omega)
  have hM' := hM.mono (B' := w.heap.size + 1) (by simp) (Nat.le_refl _)
  simp at hsz1
  go_wp2_with (at_builtin; go_must (refine wpList_app_one (xs := matchT xs ys) slz_int.slt rfl (.tmp 13) (.tmp 16) rfl rfl (hM'.alloc _) (le_alloc (by omega) _) rfl (heap_alloc_new _ _) (Fresh.leaf (α := Int) (m := wt.heap.size) (own_intm (ys.length : Int) (by unfold I64; omega) _)) (by omega) (by have := HML.out; omega) (by have := HML.out; unfold maxLen; omega) ?_); intro ap cp wp hGp)
  have hml := HML.out
  have hP := hGp.fresh
  rw [show matchT xs ys ++ [(ys.length : Int)] = pairsT xs ys from rfl] at hP
  have hbp : Below w.heap.size w wp := ((((Below.refl _ _).alloc (Nat.le_refl _) _).trans (hb1.mono (by simp))).alloc (by omega) _).trans (hGp.below.mono (by omega))
  have hO := (hO1.alloc (.cells #[.int .i64 (ys.length : Int)] (Tid.tid Int))).below hGp.below (by intro b hb; omega)
  have hszp := hbp.size
  have hszp2 : w.heap.size < wp.heap.size := by have := hGp.below.size; simp at this; omega
  obtain ⟨ps, hps⟩ : ∃ ps, ps = pairsT xs ys := ⟨_, rfl⟩
  have hpl : ps.length = xs.length + 1 := by rw [hps, pairsT_len]
  have hinc : incM (ys.length + 1) 0 ps := by rw [hps]; exact matchT_inc xs ys
  have HP := Lib.hid hps
  rw [← hps, hml, ← hpl] at hP
  rw [hml, ← hpl]
  have hPs := (rd_slice_of hP.rd2).2
  have HPL := Lib.hid hpl
  clear hps hml hpl hGp hb1
  go_wp2
  go_loopw [5, 7, 8, 9] (fun out fa fb i wr => (∃ (k p q : Nat) (ol : List Hunk) (ao : Option Addr) (co : Nat), k ≤ ps.length ∧ p ≤ k ∧ q ≤ ys.length + 1 ∧ i = .int .i64 k ∧ fa = .int .i64 p ∧ fb = .int .i64 q ∧ out = .slice ao ol.length co ∧ FS (fun b => b = w.heap.size ∨ wp.heap.size ≤ b) wr [.slice ao ol.length co] ol ∧ ol.length ≤ k ∧ Hid (incM (ys.length + 1) q (ps.drop k)) ∧ Hid (diffT xs ys = ol ++ df xs ys (ps.drop k) k p q)) ∧ TouchF [w.heap.size] wp wr) (fun _ _ _ i _ => ps.length - (intOf i).toNat)
  case atStart => exact ⟨⟨0, 0, 0, [], some ⟨w.heap.size, 0, none⟩, 0, by omega, by omega, by omega, rfl, rfl, rfl, rfl, hO.mono (fun b hb _ => .inl hb), by simp, hinc, by show _ = _; rw [HP.out]; rfl⟩, TouchF.refl _ _⟩
  case round =>
    obtain ⟨⟨k, p, q, ol, ao, co, hk, hp, hq, rfl, rfl, rfl, rfl, hF, hol, HI, HD⟩, hbr⟩ := hrel
    obtain ⟨wo, rfl⟩ : ∃ wo : World, wo = wr := ⟨_, rfl⟩
    have hszr := hbr.size
    have hb : Below w.heap.size w wo := hbp.trans (hbr.below hszp (by intro b hb; simp at hb; omega))
    by_cases hlt : k < ps.length
    · have hlt3 : k < xs.length + 1 := by have := HPL.out; omega
      have hkx : k ≤ xs.length := by omega
      have hPr := hPs.frame (w' := wo) (S' := fun b => w.heap.size + 1 ≤ b ∧ b < wp.heap.size) (fun b hb hl => ⟨hbr.rest b hl (by simp; omega), hb⟩)
      obtain ⟨g, off, rfl, hc, _⟩ := hPr.int hlt
      have hgB : w.heap.size + 1 ≤ g ∧ g < wp.heap.size := by
        obtain ⟨g', off', us, h1, h2, _⟩ := hPr.elem hlt
        simp only [Option.some.injEq, Addr.mk.injEq, and_true] at h1
        rw [h1.1]; exact h2
      rcases incM_at HI.out hlt with ⟨he, hI⟩ | ⟨m, he, hqm, hmy, hI⟩
      · have HN := Lib.hid (df_neg HD.out hlt (by rw [he]; omega))
        have HI2 := Lib.hid hI
        rw [he] at hc
        clear he hI
        go_wp2
        go_roundw
        case rel => exact ⟨⟨k + 1, p, q, ol, ao, co, by omega, by omega, hq, by go_num, rfl, rfl, rfl, hF, by omega, HI2.out, HN.out⟩, hbr⟩
        case measure => simp [intOf]; omega
      · have HY := Lib.hid (df_put HD.out hlt he)
        have HN := Lib.hid (df_no HD.out hlt he)
        have HI2 := Lib.hid hI
        rw [he] at hc
        clear he hI
        by_cases hpq : p < k ∨ q < m
        · have HZ := Lib.hid (HY.out hpq)
          have hqm2 : ¬ p < k → q < m := fun h => hpq.resolve_left h
          obtain ⟨z1, hz1⟩ : ∃ z1, z1 = cutF xs p k := ⟨_, rfl⟩
          obtain ⟨z2, hz2⟩ : ∃ z2, z2 = cutF ys q m := ⟨_, rfl⟩
          rw [← hz1, ← hz2] at HZ
          have hl1 : z1.length = k - p := by rw [hz1]; exact cutF_len (by omega) (by omega)
          have hl2 : z2.length = m - q := by rw [hz2]; exact cutF_len (by omega) (by omega)
          have hzz1 : ∀ W, Below wo.heap.size wo W → IsSlice (fun b => b < w.heap.size) W (cutA a cap p 1) (cap - p) z1 := fun W h => by
            have := (cutS ((hs.keep hb).keep (h.mono hb.size)) (f := p) (by omega)).take (k - p)
            rw [show (xs.drop p).take (k - p) = z1 from hz1.symm] at this
            exact this
          have hzz2 : ∀ W, Below wo.heap.size wo W → IsSlice (fun b => b < w.heap.size) W (cutA b cbp q 1) (cbp - q) z2 := fun W h => by
            have := (cutS ((ht.keep hb).keep (h.mono hb.size)) (f := q) (by omega)).take (m - q)
            rw [show (ys.drop q).take (m - q) = z2 from hz2.symm] at this
            exact this
          have hcW : ∀ W, Below wo.heap.size wo W → W.cell? ⟨g, off + k, none⟩ = some (.int .i64 (m : Int)) := fun W h => keepc hc h
          have HCW := Lib.hid hcW
          have HZ1 := Lib.hid hzz1
          have HZ2 := Lib.hid hzz2
          have hgo : g < wo.heap.size := by omega
          have hct1 := cut_nat a xs.length cap p k (by omega) (by omega) hcap
          have hct2 := cut_nat b ys.length cbp q m (by omega) (by omega) hcbp
          have H1 := Lib.hid hl1
          have H2 := Lib.hid hl2
          have hzb1 : z1.length ≤ 10 := by omega
          have hzb2 : z2.length ≤ 10 := by omega
          have hi0 : I64 ((p : Nat) : Int) := i64_nat (by omega)
          have hF0 := hF.mono (T := fun b => (b = w.heap.size ∨ wp.heap.size ≤ b) ∧ b < wo.heap.size) (fun b hb hl => ⟨hb, hl⟩)
          have hB0 : Below 0 wp wo := hbr.below (Nat.zero_le _) (fun _ _ => Nat.zero_le _)
          clear hz1 hz2 hl1 hl2 hpq hcW hzz1 hzz2 hF
          by_cases hpk : p < k
          all_goals
            first | have hqm3 := hqm2 hpk | skip
            clear hqm2
            go_wp2_with fail
            go_region_law (first
              | (refine step_app_leafS slz_string.slt rfl (.tmp 42) (.tmp 46) rfl rfl (FS.empty (β := ByteArray) (by decide) (by first | (refine heap_new_at ?_; simp; done) | (refine (Below.heap_alloc _ _ _ ?_).trans (heap_new_at ?_) <;> (simp <;> omega)))) rfl H1.out.symm (HZ1.out _ (by first | exact ((Below.refl _ _).drew.alloc (by simp) _) | exact (((Below.refl _ _).drew.alloc (by simp) _).alloc (by simp) _))) (by simp <;> omega) (by unfold maxLen; simp <;> omega) ?_; intro a5 c5 w5 hG5; have hbo5 : Below wo.heap.size wo w5 := Below.trans (by first | exact ((Below.refl _ _).drew.alloc (by simp) _) | exact (((Below.refl _ _).drew.alloc (by simp) _).alloc (by simp) _)) (hG5.below wo.heap.size (by simp <;> omega) (fun b hb _ => by have e : b = _ := hb; omega)); have hc5 := HCW.out _ hbo5; have hsz5 := hG5.size; have hgo5 : g < w5.heap.size := by have := hbo5.size; omega)
              | (refine step_app_leafS slz_string.slt rfl (.tmp 48) (.tmp 55) rfl rfl (FS.empty (β := ByteArray) (by decide) (by first | (refine heap_new_at ?_; simp; done) | (refine (hG5.rest _ ?_ ?_).trans (heap_new_at ?_) <;> (simp <;> omega)) | (refine (hG5.rest _ ?_ ?_).trans ((Below.heap_alloc _ _ _ ?_).trans (heap_new_at ?_)) <;> (simp <;> omega)))) rfl H2.out.symm (HZ2.out _ (by first | exact hbo5 | exact hbo5.alloc hbo5.size _)) (by simp <;> omega) (by unfold maxLen; simp <;> omega) ?_; intro a6 c6 w6 hG6; have hbo6 : Below wo.heap.size wo w6 := Below.trans (by first | exact hbo5 | exact hbo5.alloc hbo5.size _) (hG6.below wo.heap.size (by have := hbo5.size; simp <;> omega) (fun b hb _ => by have := hbo5.size; have e : b = _ := hb; omega)); have hsz6 := hG6.size; have hY : FS (fun b => wo.heap.size ≤ b) w6 [.int .i64 (p : Int), .slice a5 z1.length c5, .slice a6 z2.length c6] (⟨(p : Int), z1, z2⟩ : Hunk) := (by have hy := FS.consL (show Go.Vc.Own.own [] w6 [.int .i64 (p : Int)] (p : Int) from ⟨rfl, rfl, hi0⟩) (FS.two (n := wo.heap.size) hG5 hG6 (by intro b hb; first | rfl | exact Below.heap_alloc _ _ _ hb) (by simp) (by have := hbo5.size; simp at hsz5 ⊢ <;> omega) (by have := hbo5.size; simp at hsz5 ⊢ <;> omega) (by omega) (by have := hbo5.size; omega) (by simp <;> omega)); simp only [List.length_nil, Nat.zero_add, List.cons_append, List.nil_append] at hy; exact hy); have hszo6 := hbo6.size)
              | ((refine step_app_oneS slz_hunk.slt rfl (.tmp 40) (.tmp 58) rfl rfl ((hF0.below hbo6 (fun b hb _ => hb.2)).alloc _) rfl (heap_alloc_new _ _) (hY.alloc _) (fun b h3 h4 _ => by have h5 : (b = w.heap.size ∨ wp.heap.size ≤ b) ∧ b < wo.heap.size := h3; have h6 : wo.heap.size ≤ b := h4; omega) (by omega) (by unfold maxLen; omega) ?_); intro a9 c9 w9 hF9 hb9 hr9))
            all_goals
              have hr8 : ∀ b, b < w6.heap.size → ¬ ((b = w.heap.size ∨ wp.heap.size ≤ b) ∧ b < wo.heap.size) → w9.heap[b]? = w6.heap[b]? := fun b hb hn => (hr9 b (by simp; omega) hn).trans (Below.heap_alloc _ _ _ hb)
              have hB9 : Below 0 wp w9 := ((hB0.trans (hbo6.mono (Nat.zero_le _))).alloc (Nat.zero_le _) _).trans (hb9 0 (Nat.zero_le _) (fun _ _ _ => Nat.zero_le _))
              have hT9 : TouchF [w.heap.size] wp w9 := TouchF.ofBelow hB9 (fun b hb hbF => ((hr8 b (by omega) (by intro h6; simp at hbF; omega)).trans (hbo6.block b (by omega))).trans (hbr.rest b hb hbF))
              have hF10 : FS (fun b => b = w.heap.size ∨ wp.heap.size ≤ b) w9 [.slice a9 (ol.length + 1) c9] (ol ++ [(⟨(p : Int), z1, z2⟩ : Hunk)]) := hF9.mono (fun b hb hl => by
                rcases hb with hb | hb | hb
                · exact hb.1
                · exact .inr (Nat.le_trans hszr hb)
                · simp at hb
                  exact .inr (by omega))
              have hgw9 : w9.cell? ⟨g, off + k, none⟩ = some (.int .i64 (m : Int)) := by
                rw [World.cell?_of_block (w := wo) ((hr8 g (by omega) (by omega)).trans (hbo6.block g hgo))]
                exact hc
              clear hB9 hr8
              clear hF9 hb9 hr9 hbo5 hbo6 hY hG5 hG6 hc5
              go_wp2
              go_roundw
              case rel => exact ⟨⟨k + 1, k + 1, m + 1, ol ++ [(⟨(p : Int), z1, z2⟩ : Hunk)], a9, c9, by omega, by omega, by omega, by go_num, by go_num, by go_num, by simp, by rw [List.length_append]; exact hF10, by simp; omega, HI2.out, HZ.out⟩, hT9⟩
              case measure => simp [intOf]; omega
        · have HZ := Lib.hid (HN.out hpq)
          have hpk : ¬ p < k := fun h => hpq (.inl h)
          have hqm2 : ¬ q < m := fun h => hpq (.inr h)
          clear hpq
          go_wp2
          go_roundw
          case rel => exact ⟨⟨k + 1, k + 1, m + 1, ol, ao, co, by omega, by omega, by omega, by go_num, by go_num, by go_num, rfl, hF, by omega, HI2.out, HZ.out⟩, hbr⟩
          case measure => simp [intOf]; omega
    · have HE := Lib.hid (df_end HD.out hlt)
      have hlt2 : ¬ k < xs.length + 1 := by have := HPL.out; omega
      go_wp2
      go_ret
      exact ⟨_, rfl, by rw [HE.out]; exact hF.fresh (fun b hb hl => ⟨by omega, hl⟩), hb⟩
end Go.Proofs.YthddcfbjgcbioaaGreatDoor
