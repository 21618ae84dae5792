/-
  Walks: how a text is made of another one.
-/
import Derived.Test.YtjfhbepnomnalaaW5
import Derived.Test.YtjfhbepnomnalaaOwn4
namespace Go.Proofs.Ytjfhbepnomnalaa
open Go.RowKit Go.Vc
open Go.Vc.Rep (rd)
open Go.Vc.Own (own)

theorem one_str {s : ByteArray} {w : World} (h : s.size ≤ maxLen) : ∀ i (hi : i < [s].length) u, ([.string s] : List Value)[i]? = some u → own [] w [u] [s][i] := by
  intro i hi u hu
  have : i = 0 := by simp at hi; exact hi
  subst this
  simp at hu
  subst hu
  exact ⟨rfl, rfl, h⟩
/-- a slice's length -/
def lenV : Value → Nat
  | .slice _ n _ => n
  | _ => 0

set_option maxHeartbeats 2000000 in
set_option maxRecDepth 100000 in
theorem delta_any {S T : Nat → Prop} (v u : Value) (xs ys : List ByteArray) (w : World) (hv : rd S w [v] xs) (hu : rd T w [u] ys) (hx : xs.length ≤ 10) (hy : ys.length ≤ 10) :
    Calls Try.prog 64 #[v, u] w fun e w' => ∃ v', e = .returned v' ∧ Fresh w.heap.size w'.heap.size w' [v'] (deltaOf xs ys) ∧ Below w.heap.size w w' := by
  obtain ⟨a, cap, rfl, hs⟩ := rd_slice_elim (Rep.lt hv)
  obtain ⟨b, cbp, rfl, ht⟩ := rd_slice_elim (Rep.lt hu)
  go_enter Try.func64, Try.ntmps64
  go_wp2
  go_loopw [1, 5] (fun t out wr => (∃ (tk : List ByteArray) (ok : List Delta) (a1 : Option Addr) (c1 : Nat), t = .slice a1 tk.length c1 ∧ IsSlice (fun b => b < w.heap.size) w a1 c1 tk ∧ Fresh w.heap.size wr.heap.size wr [out] ok ∧ tk.length + ok.length ≤ 10 ∧ Small ok tk.length ∧ Hid (deltaOf xs ys = deltaF xs tk.length tk ok)) ∧ Below w.heap.size w wr) (fun t _ _ => lenV t)
  case atStart => exact ⟨⟨ys, [], b, cbp, rfl, ht, Fresh.nil _ _ _ (by decide), by simpa using hy, small_nil _, rfl⟩, Below.refl _ _⟩
  case round =>
    obtain ⟨⟨tk, ok, a1, c1, rfl, ht1, hF, hlen, hsm, HD⟩, hb⟩ := hrel
    obtain ⟨wo, rfl⟩ : ∃ wo : World, wo = wr := ⟨_, rfl⟩
    obtain ⟨a2, c2, rfl, _⟩ := hF.shape
    by_cases hlt : 0 < tk.length
    · go_wp2
      go_loopw [6, 7, 16] (fun f m i wr => (∃ (k : Nat) (c : Nat × Nat), k ≤ xs.length ∧ c.1 ≤ xs.length ∧ c.2 ≤ tk.length ∧ i = .int .i64 k ∧ f = .int .i64 c.1 ∧ m = .int .i64 c.2 ∧ Hid (bestOf xs tk = bestF tk (xs.drop k) k c)) ∧ Below wo.heap.size wo wr) (fun _ _ i _ => xs.length - (intOf i).toNat)
      case atStart => exact ⟨⟨0, (0, 0), by omega, by simp, by simp, rfl, rfl, rfl, rfl⟩, Below.refl _ _⟩
      case round =>
        obtain ⟨⟨k, c, hk, hc1, hc2, rfl, rfl, rfl, HA⟩, hbi⟩ := hrel
        have hb' := hb.trans (hbi.mono hb.size)
        by_cases hlt2 : k < xs.length
        · have hcut := run_cut slz_string.slt a xs.length cap k (by omega)
          have hcs := (hs.keep hb').cut (k := k) (by omega)
          have hl2 : (xs.drop k).length = xs.length - k := by simp
          have hrdc : rd (fun b => b < w.heap.size) wr [.slice (cutA a cap k (Rep.sz ByteArray)) (xs.length - k) (cap - k)] (xs.drop k) := by rw [← hl2]; exact hcs.rd
          have hp := pfx_le (xs.drop k) tk
          go_wp2_with fail
          refine (prefix_any _ _ _ _ _ hrdc (ht1.keep hb').rd).mono ?_
          rintro e w1 ⟨rfl, hb1⟩
          have hb2 := hbi.trans (hb1.mono hbi.size)
          by_cases hgt : c.2 < pfx (xs.drop k) tk
          · go_wp2
            go_roundw
            case rel => exact ⟨⟨k + 1, (k, pfx (xs.drop k) tk), by omega, by simp; omega, hp.2, by go_num, rfl, rfl, by have := bestF_next HA.out hlt2; rw [if_pos hgt] at this; exact this⟩, hb2⟩
            case measure => simp [intOf]; omega
          · go_wp2
            go_roundw
            case rel => exact ⟨⟨k + 1, c, by omega, hc1, hc2, by go_num, rfl, rfl, by have := bestF_next HA.out hlt2; rw [if_neg hgt] at this; exact this⟩, hb2⟩
            case measure => simp [intOf]; omega
        · have hend := bestF_end HA.out hlt2
          obtain rfl : c = bestOf xs tk := hend.symm
          clear hend HA
          have HN := Lib.hid (deltaF_next HD.out hlt)
          have hF1 := hF.belowm (Nat.le_refl _) hbi
          have hbs : w.heap.size ≤ wr.heap.size := Nat.le_trans hb.size hbi.size
          by_cases hm : 0 < (bestOf xs tk).2
          · have hst := stepD_run (out := ok) (fr := (bestOf xs tk).1) (x := tk[0]) hm
            have HS := Lib.hid hst
            clear hst
            have hi1 : I64 ((bestOf xs tk).1 : Int) := i64_nat (by omega)
            have hi2 : I64 ((bestOf xs tk).2 : Int) := i64_nat (by omega)
            have hmx : max 1 (bestOf xs tk).2 = (bestOf xs tk).2 := by omega
            rw [hmx] at HN
            clear hmx
            have hif : (if 1 < ((bestOf xs tk).2 : Int) then ((bestOf xs tk).2 : Int) else 1) = (bestOf xs tk).2 := by split <;> omega
            have hcut := run_cut slz_string.slt a1 tk.length c1 (bestOf xs tk).2 (by omega)
            go_wp2_with (at_builtin; go_must (refine wpList_app_one slz_delta.slt rfl (.tmp 44) (.tmp 48) rfl rfl (hF1.alloc _) (le_alloc hbs _) rfl (heap_alloc_new _ _) (Fresh.delta (d := ⟨(bestOf xs tk).1, (bestOf xs tk).2, []⟩) (Fresh.nil wo.heap.size wo.heap.size _ (by decide)) hi1 hi2) hb.size (by omega) (by unfold maxLen; omega) ?_); intro a3 c3 w3 hG)
            have hb3 := hb.trans (hbi.mono hb.size)
            have hb4 := (hb3.alloc hbs _).trans hG.below
            have hl3 : (tk.drop (bestOf xs tk).2).length = tk.length - (bestOf xs tk).2 := by simp
            go_roundw
            case rel => exact ⟨⟨tk.drop ((bestOf xs tk).2), ok ++ [⟨(bestOf xs tk).1, (bestOf xs tk).2, []⟩], _, _, by rw [hl3], ht1.cut (by omega), hG.fresh, by simp <;> omega, by rw [hl3, ← HS.out]; exact stepD_small hsm hlt (by omega) _ _ _ _ (by omega), by have := HN.out; rw [HS.out] at this; exact this⟩, hb4⟩
            case measure => simp [lenV]; omega
          · have hm0 : (bestOf xs tk).2 = 0 := by omega
            have hmx : max 1 (bestOf xs tk).2 = 1 := by omega
            rw [hmx] at HN
            clear hmx
            have hmn : (bestOf xs tk).2 ≤ 0 := by omega
            have hdm : decide (0 < (bestOf xs tk).2) = false := decide_eq_false hm
            have hif : (if 1 < ((bestOf xs tk).2 : Int) then ((bestOf xs tk).2 : Int) else 1) = 1 := by split <;> omega
            clear hm0
            have hcut := run_cut1 slz_string.slt a1 tk.length c1 (by omega)
            obtain ⟨g, off, rfl, hc0, hsz⟩ := (ht1.keep (hb.trans (hbi.mono hb.size))).str hlt
            rw [Nat.add_zero] at hc0
            by_cases hok : 0 < ok.length
            · obtain ⟨g2, rfl, hg2, hg3⟩ := hF1.addr hok
              obtain ⟨gx, offx, al, cl, hgx, hx0, hx1, hx2, _, _, hl⟩ := (hF1.shape.elim fun a h => h.elim fun c h => by
                have := h.1
                simp at this
                obtain ⟨rfl, rfl⟩ := this
                exact h.2.delta (i := ok.length - 1) (by omega))
              simp at hgx
              obtain ⟨rfl, rfl⟩ := hgx
              rw [Nat.zero_add] at hx0 hx1 hx2
              by_cases hL : 0 < ok[ok.length - 1].lines.length
              · have HS := Lib.hid (stepD_more (fr := (bestOf xs tk).1) (x := tk[0]) hm hok hL)
                clear hm
                have hll : ok[ok.length - 1].lines.length ≤ 10 := by
                  have := hsm _ (List.getElem_mem (by omega : ok.length - 1 < ok.length))
                  omega
                have hbi1 : (ok.length : Int) - 1 < ok.length := by omega
                have hg2l : g2 < wr.heap.size := World.block_lt_of_cell? wr _ hx2
                have hsrc : IsSlice (fun b => wr.heap.size ≤ b) (wr.alloc (.cells #[.string tk[0]] (Tid.tid ByteArray))) (some ⟨wr.heap.size, 0, none⟩) 1 [tk[0]] := (rd_slice_of (Fresh.lit rfl wr.heap.size wr (Nat.le_refl _) [.string tk[0]] [tk[0]] rfl (by unfold maxLen; simp) (one_str hsz)).rd).2
                have hby : (ok[ok.length - 1].lines.length + 1) * 16 ≤ 140737488355328 := by omega
                have hby2 : ok[ok.length - 1].lines.length + 1 ≤ maxLen := by unfold maxLen; omega
                go_wp2_with fail
                go_region_law (refine step_app_lens lens_delta slz_string.slt rfl (.tmp 68) (.tmp 72) rfl (i := ok.length - 1) (ys := [tk[0]]) (by exact (hF1.alloc _).drew) (by simp <;> omega) (by omega) rfl (by exact (World.cell?_alloc_lt wr _ _ hg2l).trans hx2) rfl rfl (by exact hsrc.drew) hby hby2 ?_; intro a3 c3 w3 hcx hfx hbx hgx hFx; obtain ⟨u3, hcy⟩ := hcx; have hcz : w3.cell? ⟨g2, (ok.length - 1) * 3 + 2, none⟩ = some u3 := hcy; have hfz : w3.frozen? ⟨g2, (ok.length - 1) * 3 + 2, none⟩ = false := hfx; clear hcy hfx)
                all_goals
                  go_wp2
                  have hb3 := hb.trans (hbi.mono hb.size)
                  have hb4 := ((hb3.alloc hbs _).drew.trans hbx).setCell hgx (p := ⟨g2, (ok.length - 1) * 3 + 2, none⟩) (.slice a3 (ok[ok.length - 1].lines.length + 1) c3)
                  have hl3 : (tk.drop 1).length = tk.length - 1 := by simp
                  go_roundw
                  case rel => exact ⟨⟨tk.drop 1, ok.set (ok.length - 1) ⟨ok[ok.length - 1].fr, ok[ok.length - 1].many, ok[ok.length - 1].lines ++ [tk[0]]⟩, _, _, by rw [hl3], ht1.cut (by omega), hFx, by simp <;> omega, by rw [hl3, ← HS.out]; exact stepD_small hsm hlt (by omega) _ _ _ _ (by omega), by have := HN.out; rw [HS.out] at this; exact this⟩, hb4⟩
                  case measure => simp [lenV]; omega
              · have hdl : decide (0 < ok[ok.length - 1].lines.length) = false := decide_eq_false hL
                have HS := Lib.hid (stepD_new (fr := (bestOf xs tk).1) (x := tk[0]) hm hok hL)
                clear hm
                go_wp2_with (at_builtin; go_must (refine wpList_app_one slz_delta.slt rfl (.tmp 33) (.tmp 39) rfl rfl ((hF1.alloc _).alloc _) (le_alloc (le_alloc hbs _) _) rfl (heap_new_at (by simp)) (Fresh.delta (d := ⟨0, 0, [tk[0]]⟩) (((Fresh.lit rfl wr.heap.size wr (Nat.le_refl _) [.string tk[0]] [tk[0]] rfl (by unfold maxLen; simp) (one_str hsz)).alloc _).mono hbi.size (Nat.le_refl _)) i64_zero i64_zero) hb.size (by omega) (by unfold maxLen; omega) ?_); intro a3 c3 w3 hG)
                have hb3 := hb.trans (hbi.mono hb.size)
                have hb4 := ((hb3.alloc hbs _).alloc (le_alloc hbs _) _).trans hG.below
                have hl3 : (tk.drop 1).length = tk.length - 1 := by simp
                go_roundw
                case rel => exact ⟨⟨tk.drop 1, ok ++ [⟨0, 0, [tk[0]]⟩], _, _, by rw [hl3], ht1.cut (by omega), hG.fresh, by simp <;> omega, by rw [hl3, ← HS.out]; exact stepD_small hsm hlt (by omega) _ _ _ _ (by omega), by have := HN.out; rw [HS.out] at this; exact this⟩, hb4⟩
                case measure => simp [lenV]; omega
            · have hok0 : ok.length ≤ 0 := by omega
              have HS := Lib.hid (stepD_first (fr := (bestOf xs tk).1) (x := tk[0]) hm hok)
              clear hm
              go_wp2_with (at_builtin; go_must (refine wpList_app_one slz_delta.slt rfl (.tmp 33) (.tmp 39) rfl rfl ((hF1.alloc _).alloc _) (le_alloc (le_alloc hbs _) _) rfl (heap_new_at (by simp)) (Fresh.delta (d := ⟨0, 0, [tk[0]]⟩) (((Fresh.lit rfl wr.heap.size wr (Nat.le_refl _) [.string tk[0]] [tk[0]] rfl (by unfold maxLen; simp) (one_str hsz)).alloc _).mono hbi.size (Nat.le_refl _)) i64_zero i64_zero) hb.size (by omega) (by unfold maxLen; omega) ?_); intro a3 c3 w3 hG)
              have hb3 := hb.trans (hbi.mono hb.size)
              have hb4 := ((hb3.alloc hbs _).alloc (le_alloc hbs _) _).trans hG.below
              have hl3 : (tk.drop 1).length = tk.length - 1 := by simp
              go_roundw
              case rel => exact ⟨⟨tk.drop 1, ok ++ [⟨0, 0, [tk[0]]⟩], _, _, by rw [hl3], ht1.cut (by omega), hG.fresh, by simp <;> omega, by rw [hl3, ← HS.out]; exact stepD_small hsm hlt (by omega) _ _ _ _ (by omega), by have := HN.out; rw [HS.out] at this; exact this⟩, hb4⟩
              case measure => simp [lenV]; omega
    · go_wp2
      go_ret
      exact ⟨_, rfl, by rw [deltaF_end HD.out hlt]; exact hF, hb⟩
end Go.Proofs.Ytjfhbepnomnalaa
