/-
  Walks: the commit that is looked at next.
-/
import Derived.Test.YtmblockojnaffaaDoorWNextB
import Derived.Deep.RegionHeld3
set_option linter.unusedVariables false
namespace Go.Proofs.YtmblockojnaffaaDoor
open Go.RowKit Go.Vc
open Go.Vc.Rep (rd)
open Go.Vc.Own (own)
set_option maxHeartbeats 8000000 in
set_option maxRecDepth 100000 in
theorem specLogNext {S T U : Nat → Prop} (r : Repo) (v0 v1 u : Value) (xs : List Int) (at_ : Int) (w : World) (h0 : rd S w [v0] r.commits) (h1 : rd T w [v1] r.heads) (hu : rd U w [u] xs) (hS : shortR r) (hM : ML w) :
    Calls Tryd.prog 21 #[.agg #[v0, v1], u, .int .i64 at_] w fun e w' => e = .returned (.int .i64 (logNext r xs at_)) ∧ Below w.heap.size w w' := by
  have h0 := Rep.lt h0
  have h1 := Rep.lt h1
  have hu := Rep.lt hu
  obtain ⟨a2, c2, rfl, ht⟩ := rd_slice_elim hu
  have hle := ht.le
  have hB0 : Below w.heap.size w (w.alloc (.cells #[v0, v1] 32)) := ((Below.refl _ _).alloc (by simp <;> omega) _)
  have q0 : (w.alloc (.cells #[v0, v1] 32)).cell? ⟨w.heap.size, 0, none⟩ = some v0 := by rw [cell_of_row _ _ 0 _ _ (0, 0) (heap_alloc_new _ _)]; rfl
  have q1 : (w.alloc (.cells #[v0, v1] 32)).cell? ⟨w.heap.size, 1, none⟩ = some v1 := by rw [cell_of_row _ _ 1 _ _ (0, 0) (heap_alloc_new _ _)]; rfl
  go_enter Tryd.func21, Tryd.ntmps21
  go_wp2_with fail
  refine (specLogLeft r _ _ _ xs at_ _ (Rep.keep h0 hB0) (Rep.keep h1 hB0) (Rep.keep hu hB0) hS (hM.keep hB0)).mono ?_
  rintro e w1 ⟨v, rfl, hL, hb1⟩
  have q0 := keepc q0 hb1
  have q1 := keepc q1 hb1
  have HB := hB0.trans (hb1.mono hB0.size)
  have hs1 := hb1.size
  have hll := logLeft_len r xs at_
  have HMEM := Lib.hid (show ∀ x, x ∈ logLeft r xs at_ → suspB r xs at_ = true ∧ 0 ≤ x ∧ x < (r.commits.length : Int) from fun x hx => logLeft_mem hx)
  obtain ⟨ls, hls⟩ : ∃ ls, ls = logLeft r xs at_ := ⟨_, rfl⟩
  have HR : Hid (logNext r xs at_ = (nextF r.commits xs at_ (-1, 0) ls).1) := by show _ = _; rw [hls]; rfl
  rw [← hls] at hL hll HMEM
  obtain ⟨al, cl, rfl, hLs⟩ := hL.shape
  have hLs := hLs.lt
  clear hls hb1
  go_wp2
  go_loopw [7, 8, 10] (fun bv mv i wr => (∃ (k : Nat) (s : Int × Int), k ≤ ls.length ∧ i = .int .i64 k ∧ bv = .int .i64 s.1 ∧ mv = .int .i64 s.2 ∧ Hid (nextF r.commits xs at_ (-1, 0) ls = nextF r.commits xs at_ s (ls.drop k))) ∧ Below w1.heap.size w1 wr) (fun _ _ i _ => ls.length - (intOf i).toNat)
  case atStart => exact ⟨⟨0, (-1, 0), by omega, rfl, rfl, rfl, rfl⟩, Below.refl _ _⟩
  case round =>
    obtain ⟨⟨k, ⟨s1, s2⟩, hk, rfl, rfl, rfl, HA⟩, hbr⟩ := hrel
    have hb := HB.trans (hbr.mono HB.size)
    have q0r := keepc q0 hbr
    have q1r := keepc q1 hbr
    by_cases hlt : k < ls.length
    · obtain ⟨g, off, hal, hc, hi64⟩ := (hLs.keep hbr).int hlt
      subst hal
      obtain ⟨hsu, hok⟩ := HMEM.out _ (List.getElem_mem hlt)
      by_cases he : ls[k] = at_
      · have HN := Lib.hid (nextF_skip HA.out hlt he)
        rw [he] at hc
        clear he hsu hok
        go_wp2
        go_roundw
        case rel => exact ⟨⟨k + 1, (s1, s2), by omega, by go_num, rfl, rfl, HN.out⟩, hbr⟩
        case measure => simp [intOf] <;> omega
      · obtain ⟨n, hn⟩ : ∃ n, nextN r.commits xs at_ ls[k] = n := ⟨_, rfl⟩
        obtain ⟨hp1, hp2, hp3, hp4, hp5⟩ := susp_parts hsu
        have HYES := Lib.hid (show (s1 < 0 ∨ (n : Int) < s2) → nextF r.commits xs at_ (-1, 0) ls = nextF r.commits xs at_ (ls[k], (n : Int)) (ls.drop (k + 1)) from fun h => nextF_take HA.out hlt he hn h)
        have HNO := Lib.hid (show ¬ s1 < 0 → ¬ (n : Int) < s2 → nextF r.commits xs at_ (-1, 0) ls = nextF r.commits xs at_ (s1, s2) (ls.drop (k + 1)) from fun h1 h2 => nextF_leave HA.out hlt he hn h1 h2)
        obtain ⟨x, hx0⟩ : ∃ x, x = ls[k] := ⟨_, rfl⟩
        rw [← hx0] at he hn hc hok hi64 HYES
        have hd : (x == at_) = false := by simp [he]
        have hPar := repo_par hp1
        have hfew := repo_le hp1
        have hadd := anyB_add hp2 hok
        have HN0 := Lib.hid hn
        have hcl1 := left_len r.commits at_ (xs ++ [x])
        have hcl2 := left_len r.commits x xs
        clear hn he hx0 hsu HA
        have h0r := Rep.keep h0 hb
        have hur := ht.keep hb
        have hwr := hb.size
        have hl17 : (xs ++ [x]).length ≤ 1000 := by simp; omega
        go_wp2_with fail
        go_region_held3 (fun w' => w'.cell? ⟨w.heap.size, 0, none⟩ = some v0 ∧ w'.cell? ⟨w.heap.size, 1, none⟩ = some v1 ∧ w'.cell? ⟨g, off + k, none⟩ = some (.int .i64 x))
          (first | go_keep | exact KL | exact K9 | exact K5 | exact ⟨q0r, q1r, hc⟩)
          (first
            | (go_at_call 62; refine (l12Left_any _ _ _ r.commits (xs ++ [x]) at_ _ (Rep.keep h0 (hb.trans (hb9.mono hwr))) hF9.rd hPar hfew ⟨hp4, hp5⟩ hadd hl17).mono ?_; rintro e wL ⟨vL, rfl, hLL, hbL⟩; obtain ⟨aL, cL, rfl, _⟩ := hLL.shape; have KL : wL.cell? ⟨w.heap.size, 0, none⟩ = some v0 ∧ wL.cell? ⟨w.heap.size, 1, none⟩ = some v1 ∧ wL.cell? ⟨g, off + k, none⟩ = some (.int .i64 x) := ⟨keepc K9.1 hbL, keepc K9.2.1 hbL, keepc K9.2.2 hbL⟩)
            | (refine step_app_leaf slz_int.slt rfl (.tmp 30) (.tmp 31) rfl rfl (xs := ([] : List Int)) (fresh_empty1 wr) (by simp) rfl rfl (hur.drew.alloc _) (by simp; omega) (by unfold maxLen; simp; omega) ?_
               intro a5 c5 w5 hG5
               have hF5 := hG5.fresh
               rw [List.nil_append, List.length_nil, Nat.zero_add] at hF5
               have hs5 := hG5.below.size
               simp at hs5
               have hb5 : Below wr.heap.size wr w5 := ((Below.refl wr.heap.size wr).drew.alloc (by simp) _).trans (hG5.below.mono (by simp))
               have K5 : w5.cell? ⟨w.heap.size, 0, none⟩ = some v0 ∧ w5.cell? ⟨w.heap.size, 1, none⟩ = some v1 ∧ w5.cell? ⟨g, off + k, none⟩ = some (.int .i64 x) := ⟨keepc q0r hb5, keepc q1r hb5, keepc hc hb5⟩)
            | (refine step_app_leaf slz_int.slt rfl (.tmp 30) (.tmp 31) rfl rfl (xs := ([] : List Int)) ((fresh_empty1 wr).alloc _) (by simp <;> omega) rfl rfl ((hur.drew.alloc _).alloc _) (by simp; omega) (by unfold maxLen; simp; omega) ?_
               intro a5 c5 w5 hG5
               have hF5 := hG5.fresh
               rw [List.nil_append, List.length_nil, Nat.zero_add] at hF5
               have hs5 := hG5.below.size
               simp at hs5
               have hb5 : Below wr.heap.size wr w5 := (((Below.refl wr.heap.size wr).drew.alloc (by simp) _).alloc (by simp) _).trans (hG5.below.mono (by simp))
               have K5 : w5.cell? ⟨w.heap.size, 0, none⟩ = some v0 ∧ w5.cell? ⟨w.heap.size, 1, none⟩ = some v1 ∧ w5.cell? ⟨g, off + k, none⟩ = some (.int .i64 x) := ⟨keepc q0r hb5, keepc q1r hb5, keepc hc hb5⟩
               have hLt : IsSlice (fun b => b = wr.heap.size + 1) w5 (some ⟨wr.heap.size + 1, 0, none⟩) 1 [x] := lit_ints [x] ((hG5.rest _ (by simp) (.inr (by omega))).trans (lit_at1 _ _ _)) (by simpa using hi64) (by unfold maxLen; simp))
            | (refine step_app_leaf slz_int.slt rfl (.tmp 30) (.tmp 31) rfl rfl (xs := ([] : List Int)) (fresh_empty2 wr _) (by simp) rfl rfl ((hur.drew.alloc _).alloc _) (by simp; omega) (by unfold maxLen; simp; omega) ?_
               intro a5 c5 w5 hG5
               have hF5 := hG5.fresh
               rw [List.nil_append, List.length_nil, Nat.zero_add] at hF5
               have hs5 := hG5.below.size
               simp at hs5
               have hb5 : Below wr.heap.size wr w5 := (((Below.refl wr.heap.size wr).drew.alloc (by simp) _).alloc (by simp) _).trans (hG5.below.mono (by simp))
               have K5 : w5.cell? ⟨w.heap.size, 0, none⟩ = some v0 ∧ w5.cell? ⟨w.heap.size, 1, none⟩ = some v1 ∧ w5.cell? ⟨g, off + k, none⟩ = some (.int .i64 x) := ⟨keepc q0r hb5, keepc q1r hb5, keepc hc hb5⟩
               have hLt : IsSlice (fun b => b = wr.heap.size) w5 (some ⟨wr.heap.size, 0, none⟩) 1 [x] := lit_ints [x] ((hG5.rest _ (by simp <;> omega) (.inl (by omega))).trans (lit_at0 _ _ _)) (by simpa using hi64) (by unfold maxLen; simp))
            | (refine step_app_leaf slz_int.slt rfl (.tmp 32) (.tmp 37) rfl rfl (xs := xs) (hF5.alloc _) (by simp; omega) rfl rfl (lit_ints [x] (heap_alloc_new _ _) (by simpa using hi64) (by unfold maxLen; simp)) (by simp; omega) (by unfold maxLen; simp; omega) ?_
               intro a9 c9 w9 hG9
               have hF9 := hG9.fresh
               have hb9 : Below wr.heap.size wr w9 := (hb5.alloc (by omega) _).trans (hG9.below.mono (by omega))
               have K9 : w9.cell? ⟨w.heap.size, 0, none⟩ = some v0 ∧ w9.cell? ⟨w.heap.size, 1, none⟩ = some v1 ∧ w9.cell? ⟨g, off + k, none⟩ = some (.int .i64 x) := ⟨keepc q0r hb9, keepc q1r hb9, keepc hc hb9⟩)
            | (refine step_app_leaf slz_int.slt rfl (.tmp 32) (.tmp 37) rfl rfl (xs := xs) hG5.fresh (by omega) rfl rfl hLt (by simp; omega) (by unfold maxLen; simp; omega) ?_
               intro a9 c9 w9 hG9
               have hF9 := hG9.fresh
               have hb9 : Below wr.heap.size wr w9 := hb5.trans (hG9.below.mono (by omega))
               have K9 : w9.cell? ⟨w.heap.size, 0, none⟩ = some v0 ∧ w9.cell? ⟨w.heap.size, 1, none⟩ = some v1 ∧ w9.cell? ⟨g, off + k, none⟩ = some (.int .i64 x) := ⟨keepc q0r hb9, keepc q1r hb9, keepc hc hb9⟩))
        all_goals
          have hbq : Below wr.heap.size wr wL := hb9.trans (hbL.mono hb9.size)
          have z0 : wL.cell? ⟨w.heap.size, 0, none⟩ = some v0 := KL.1
          have z1 : wL.cell? ⟨w.heap.size, 1, none⟩ = some v1 := KL.2.1
          have z2 : wL.cell? ⟨g, off + k, none⟩ = some (.int .i64 x) := KL.2.2
          have hbz := hb.trans (hbq.mono hwr)
          have h0L := Rep.keep h0 hbz
          have hxL := (ht.keep hbz).rd
          have hsL := hbq.size
          clear KL K9 K5 q0r q1r hc hLL hF9 hG9 hb9 hbL hF5 hG5 hb5 hs5
          go_wp2_with fail
          go_region_held3 (fun w' => w'.cell? ⟨w.heap.size, 0, none⟩ = some v0 ∧ w'.cell? ⟨w.heap.size, 1, none⟩ = some v1 ∧ w'.cell? ⟨g, off + k, none⟩ = some (.int .i64 x))
            (first | go_keep | exact KM | exact ⟨z0, z1, z2⟩)
            (first
              | (go_at_call 62; refine (l12Left_any _ _ _ r.commits xs x _ (Rep.drew h0L) (Rep.drew hxL) hPar hfew hok hp2 (by omega)).mono ?_; rintro e wM ⟨vM, rfl, hMM, hbM⟩; obtain ⟨aM, cM, rfl, _⟩ := hMM.shape; have KM : wM.cell? ⟨w.heap.size, 0, none⟩ = some v0 ∧ wM.cell? ⟨w.heap.size, 1, none⟩ = some v1 ∧ wM.cell? ⟨g, off + k, none⟩ = some (.int .i64 x) := ⟨BW.cell (w := wL.drew) z0 ⟨wM, hbM⟩, BW.cell (w := wL.drew) z1 ⟨wM, hbM⟩, BW.cell (w := wL.drew) z2 ⟨wM, hbM⟩⟩))
          have hbF : Below w1.heap.size w1 wM := hbr.trans ((hbq.drew.trans (hbM.mono (by simp; omega))).mono hbr.size)
          clear KM hMM hbM z0 z1 z2 h0L hxL
          obtain ⟨N1, hN1⟩ : ∃ N1 : Int, ((leftT r.commits at_ (xs ++ [x])).length : Int) = N1 := ⟨_, rfl⟩
          obtain ⟨N2, hN2⟩ : ∃ N2 : Int, ((leftT r.commits x xs).length : Int) = N2 := ⟨_, rfl⟩
          rw [hN1, hN2]
          have HNN := HN0.out
          rw [nextN] at HNN
          by_cases hm : N1 < N2
          · rw [if_pos (by omega)] at HNN
            have hnn : (n : Int) = N2 := by omega
            rw [hnn] at HYES HNO
            have hd1 : decide (N1 < N2) = true := decide_eq_true hm
            clear hm HNN hN1 hN2 hnn HN0
            by_cases h1 : s1 < 0
            · have d1 : decide (s1 < 0) = true := decide_eq_true h1
              have HN := Lib.hid (HYES.out (.inl h1))
              clear h1
              go_wp2
              go_roundw
              case rel => exact ⟨⟨k + 1, (x, N2), by omega, by go_num, rfl, rfl, HN.out⟩, hbF⟩
              case measure => simp [intOf] <;> omega
            · have d1 : decide (s1 < 0) = false := decide_eq_false h1
              by_cases h2 : N2 < s2
              · have d2 : decide (N2 < s2) = true := decide_eq_true h2
                have HN := Lib.hid (HYES.out (.inr h2))
                clear h1 h2
                go_wp2
                go_roundw
                case rel => exact ⟨⟨k + 1, (x, N2), by omega, by go_num, rfl, rfl, HN.out⟩, hbF⟩
                case measure => simp [intOf] <;> omega
              · have d2 : decide (N2 < s2) = false := decide_eq_false h2
                have HN := Lib.hid (HNO.out (by omega) (by omega))
                clear h1 h2
                go_wp2
                go_roundw
                case rel => exact ⟨⟨k + 1, (s1, s2), by omega, by go_num, rfl, rfl, HN.out⟩, hbF⟩
                case measure => simp [intOf] <;> omega
          · rw [if_neg (by omega)] at HNN
            have hnn : (n : Int) = N1 := by omega
            rw [hnn] at HYES HNO
            have hd1 : decide (N1 < N2) = false := decide_eq_false hm
            clear hm HNN hN1 hN2 hnn HN0
            by_cases h1 : s1 < 0
            · have d1 : decide (s1 < 0) = true := decide_eq_true h1
              have HN := Lib.hid (HYES.out (.inl h1))
              clear h1
              go_wp2
              go_roundw
              case rel => exact ⟨⟨k + 1, (x, N1), by omega, by go_num, rfl, rfl, HN.out⟩, hbF⟩
              case measure => simp [intOf] <;> omega
            · have d1 : decide (s1 < 0) = false := decide_eq_false h1
              by_cases h2 : N1 < s2
              · have d2 : decide (N1 < s2) = true := decide_eq_true h2
                have HN := Lib.hid (HYES.out (.inr h2))
                clear h1 h2
                go_wp2
                go_roundw
                case rel => exact ⟨⟨k + 1, (x, N1), by omega, by go_num, rfl, rfl, HN.out⟩, hbF⟩
                case measure => simp [intOf] <;> omega
              · have d2 : decide (N1 < s2) = false := decide_eq_false h2
                have HN := Lib.hid (HNO.out (by omega) (by omega))
                clear h1 h2
                go_wp2
                go_roundw
                case rel => exact ⟨⟨k + 1, (s1, s2), by omega, by go_num, rfl, rfl, HN.out⟩, hbF⟩
                case measure => simp [intOf] <;> omega
    · have HN := Lib.hid (nextF_end HA.out hlt)
      go_wp2
      go_ret
      exact ⟨ret_int (by rw [HR.out, HN.out]), hb⟩
end Go.Proofs.YtmblockojnaffaaDoor
