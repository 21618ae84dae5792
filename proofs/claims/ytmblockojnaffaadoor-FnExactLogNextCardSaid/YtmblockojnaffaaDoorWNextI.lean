/-
  Walks: the commit that is looked at next, as the program has it.
-/
import Derived.Test.YtmblockojnaffaaDoorWNextB
import Derived.Deep.RegionHeld3
set_option linter.unusedVariables false
namespace Go.Proofs.YtmblockojnaffaaDoor
open Go.RowKit Go.Vc
open Go.Vc.Rep (rd)
open Go.Vc.Own (own)
set_option maxHeartbeats 8000000 in
set_option maxRecDepth 100000 in
theorem implLogNext {S T U : Nat → Prop} (r : Repo) (v0 v1 u : Value) (xs : List Int) (at_ : Int) (w : World) (h0 : rd S w [v0] r.commits) (h1 : rd T w [v1] r.heads) (hu : rd U w [u] xs) (hS : shortR r) (hM : ML w) :
    Calls Tryd.prog 22 #[.agg #[v0, v1], u, .int .i64 at_] w fun e w' => e = .returned (.int .i64 (logNext r xs at_)) ∧ Below w.heap.size w w' := by
  have h0 := Rep.lt h0
  have h1 := Rep.lt h1
  have hu := Rep.lt hu
  obtain ⟨a2, c2, rfl, ht⟩ := rd_slice_elim hu
  have hle := ht.le
  have hB0 : Below w.heap.size w (w.alloc (.cells #[v0, v1] 32)) := ((Below.refl _ _).alloc (by simp <;> omega) _)
  have q0 : (w.alloc (.cells #[v0, v1] 32)).cell? ⟨w.heap.size, 0, none⟩ = some v0 := by rw [cell_of_row _ _ 0 _ _ (0, 0) (heap_alloc_new _ _)]; rfl
  have q1 : (w.alloc (.cells #[v0, v1] 32)).cell? ⟨w.heap.size, 1, none⟩ = some v1 := by rw [cell_of_row _ _ 1 _ _ (0, 0) (heap_alloc_new _ _)]; rfl
  go_enter Tryd.func22, Tryd.ntmps22
  go_wp2_with fail
  refine (implLogLeft r _ _ _ xs at_ _ (Rep.keep h0 hB0) (Rep.keep h1 hB0) (Rep.keep hu hB0) hS (hM.keep hB0)).mono ?_
  rintro e w1 ⟨v, rfl, hL, hb1⟩
  have q0 := keepc q0 hb1
  have q1 := keepc q1 hb1
  have HB := hB0.trans (hb1.mono hB0.size)
  have hs1 := hb1.size
  have hll := logLeft_len r xs at_
  have HMEM := Lib.hid (show ∀ x, x ∈ logLeft r xs at_ → suspB r xs at_ = true ∧ 0 ≤ x ∧ x < (r.commits.length : Int) from fun x hx => logLeft_mem hx)
  obtain ⟨ls, hls⟩ : ∃ ls, ls = logLeft r xs at_ := ⟨_, rfl⟩
  have HR : Hid (logNext r xs at_ = (nextF r.commits xs at_ (-1, 0) ls).1) := by show _ = _; rw [hls]; rfl
  rw [← hls] at hL hll HMEM
  obtain ⟨al, cl, rfl, hLs⟩ := hL.shape
  have hLs := hLs.lt
  clear hls hb1
  go_wp2
  go_loopw [7, 8, 18] (fun bv mv i wr => (∃ (k : Nat) (s : Int × Int), k ≤ ls.length ∧ i = .int .i64 k ∧ bv = .int .i64 s.1 ∧ mv = .int .i64 s.2 ∧ Hid (nextF r.commits xs at_ (-1, 0) ls = nextF r.commits xs at_ s (ls.drop k))) ∧ Below w1.heap.size w1 wr) (fun _ _ i _ => ls.length - (intOf i).toNat)
  case atStart => exact ⟨⟨0, (-1, 0), by omega, rfl, rfl, rfl, rfl⟩, Below.refl _ _⟩
  case round =>
    obtain ⟨⟨k, ⟨s1, s2⟩, hk, rfl, rfl, rfl, HA⟩, hbr⟩ := hrel
    have hb := HB.trans (hbr.mono HB.size)
    have q0r := keepc q0 hbr
    have q1r := keepc q1 hbr
    by_cases hlt : k < ls.length
    · obtain ⟨g, off, hal, hc, hi64⟩ := (hLs.keep hbr).int hlt
      subst hal
      obtain ⟨hsu, hok⟩ := HMEM.out _ (List.getElem_mem hlt)
      by_cases he : ls[k] = at_
      · have HN := Lib.hid (nextF_skip HA.out hlt he)
        rw [he] at hc
        clear he hsu hok
        go_wp2
        go_roundw
        case rel => exact ⟨⟨k + 1, (s1, s2), by omega, by go_num, rfl, rfl, HN.out⟩, hbr⟩
        case measure => simp [intOf] <;> omega
      · obtain ⟨n, hn⟩ : ∃ n, nextN r.commits xs at_ ls[k] = n := ⟨_, rfl⟩
        obtain ⟨hp1, hp2, hp3, hp4, hp5⟩ := susp_parts hsu
        have HYES := Lib.hid (show (s1 < 0 ∨ (n : Int) < s2) → nextF r.commits xs at_ (-1, 0) ls = nextF r.commits xs at_ (ls[k], (n : Int)) (ls.drop (k + 1)) from fun h => nextF_take HA.out hlt he hn h)
        have HNO := Lib.hid (show ¬ s1 < 0 → ¬ (n : Int) < s2 → nextF r.commits xs at_ (-1, 0) ls = nextF r.commits xs at_ (s1, s2) (ls.drop (k + 1)) from fun h1 h2 => nextF_leave HA.out hlt he hn h1 h2)
        obtain ⟨x, hx0⟩ : ∃ x, x = ls[k] := ⟨_, rfl⟩
        rw [← hx0] at he hn hc hok hi64 HYES
        have hd : (x == at_) = false := by simp [he]
        have hPar := repo_par hp1
        have hfew := repo_le hp1
        have hadd := anyB_add hp2 hok
        have HN0 := Lib.hid hn
        have hcl1 := left_len r.commits at_ (xs ++ [x])
        have hcl2 := left_len r.commits x xs
        clear hn he hx0 hsu HA
        have h0r := Rep.keep h0 hb
        have hur := ht.keep hb
        have hwr := hb.size
        have hl17 : (xs ++ [x]).length ≤ 1000 := by simp; omega
        have hEm := Fresh.empty (β := Int) Nat.one_pos wr.heap.size wr (Nat.le_refl _)
        go_wp2_with (first
          | (at_builtin; refine wpList_app_leaf slz_int.slt rfl (.tmp 25) (.tmp 26) rfl rfl hEm (by simp) rfl rfl (hur.alloc _) (by simp; omega) (by unfold maxLen; simp; omega) ?_; intro a5 c5 w5 hG5; have hF5 := hG5.fresh; rw [List.nil_append, List.length_nil, Nat.zero_add] at hF5; have hs5 := hG5.below.size; simp at hs5)
          | (at_builtin; refine wpList_app_leaf slz_int.slt rfl (.tmp 27) (.tmp 29) rfl rfl (xs := xs) (hF5.alloc _) (by simp; omega) rfl rfl (lit_ints [x] (heap_alloc_new _ _) (by simpa using hi64) (by unfold maxLen; simp)) (by simp; omega) (by unfold maxLen; simp; omega) ?_; intro a9 c9 w9 hG9))
        have hF9 : Fresh wr.heap.size w9.heap.size w9 [.slice a9 (xs.length + 1) c9] (xs ++ [x]) := hG9.fresh
        have hb9 : Below wr.heap.size wr w9 := (((Below.refl wr.heap.size wr).alloc (Nat.le_refl _) _).trans hG5.below).trans (((Below.refl _ w5).alloc (Nat.le_refl _) _).mono (by omega) |>.trans hG9.below)
        have z0 := keepc q0r hb9
        have z1 := keepc q1r hb9
        have hbz := hb.trans (hb9.mono hwr)
        have h0L := Rep.keep h0 hbz
        have hxL := (ht.keep hbz).rd
        have hs9 := hb9.size
        clear q0r q1r hc hF5 hG5 hs5 hEm
        go_region_held3 (fun w' => w'.cell? ⟨w.heap.size, 0, none⟩ = some v0 ∧ w'.cell? ⟨w.heap.size, 1, none⟩ = some v1)
          (first | go_keep | exact KM | exact KL | exact ⟨z0, z1⟩)
          (first
            | (go_at_call 60; with_reducible refine (since_any _ _ _ r.commits x xs _ (Rep.keep h0 hbz2) (ht.keep hbz2).rd hPar hfew hok hp2).mono ?_; rintro e wM ⟨vM, rfl, hMM, hbM⟩; obtain ⟨aM, cM, rfl, _⟩ := hMM.shape; have KM : wM.cell? ⟨w.heap.size, 0, none⟩ = some v0 ∧ wM.cell? ⟨w.heap.size, 1, none⟩ = some v1 := ⟨keepc KL.1 hbM, keepc KL.2 hbM⟩)
            | (go_at_call 60; go_must (with_reducible refine (since_any _ _ _ r.commits at_ (xs ++ [x]) _ (Rep.drew h0L) (hF9.drew).rd hPar hfew ⟨hp4, hp5⟩ hadd).mono ?_); rintro e wL ⟨vL, rfl, hLL, hbL⟩; obtain ⟨aL, cL, rfl, _⟩ := hLL.shape; have KL : wL.cell? ⟨w.heap.size, 0, none⟩ = some v0 ∧ wL.cell? ⟨w.heap.size, 1, none⟩ = some v1 := ⟨BW.cell (w := w9.drew) z0 ⟨wL, hbL⟩, BW.cell (w := w9.drew) z1 ⟨wL, hbL⟩⟩; have hbz2 : Below w.heap.size w wL := hbz.trans (((Below.refl w9.heap.size w9).drew.trans (hbL.mono (by simp))).mono hbz.size)))
        all_goals
          have hbF : Below w1.heap.size w1 wM := hbr.trans (((hb9.trans ((Below.refl w9.heap.size w9).drew.trans (hbL.mono (by simp)) |>.mono hb9.size)).trans (hbM.mono (by have := hbL.size; have := hb9.size; simp at *; omega))).mono hbr.size)
          rw [since_left, since_left]
          obtain ⟨N, hN⟩ : ∃ N : Int, max ((leftT r.commits at_ (xs ++ [x])).length : Int) ((leftT r.commits x xs).length : Int) = N := ⟨_, rfl⟩
          rw [hN]
          have HNN := HN0.out
          rw [nextN] at HNN
          rw [Int.max_def] at hN
          have hnn : (n : Int) = N := by split at HNN <;> split at hN <;> omega
          rw [hnn] at HYES HNO
          clear HNN hN hnn HN0 KM KL hMM hbM hLL hbL hF9 hG9 z0 z1 h0L hxL hbz2
          by_cases h1 : s1 < 0
          · have d1 : decide (s1 < 0) = true := decide_eq_true h1
            have HN := Lib.hid (HYES.out (.inl h1))
            clear h1
            go_wp2
            go_roundw
            case rel => exact ⟨⟨k + 1, (x, N), by omega, by go_num, rfl, rfl, HN.out⟩, hbF⟩
            case measure => simp [intOf] <;> omega
          · have d1 : decide (s1 < 0) = false := decide_eq_false h1
            by_cases h2 : N < s2
            · have d2 : decide (N < s2) = true := decide_eq_true h2
              have HN := Lib.hid (HYES.out (.inr h2))
              clear h1 h2
              go_wp2
              go_roundw
              case rel => exact ⟨⟨k + 1, (x, N), by omega, by go_num, rfl, rfl, HN.out⟩, hbF⟩
              case measure => simp [intOf] <;> omega
            · have d2 : decide (N < s2) = false := decide_eq_false h2
              have HN := Lib.hid (HNO.out (by omega) (by omega))
              clear h1 h2
              go_wp2
              go_roundw
              case rel => exact ⟨⟨k + 1, (s1, s2), by omega, by go_num, rfl, rfl, HN.out⟩, hbF⟩
              case measure => simp [intOf] <;> omega
    · have HN := Lib.hid (nextF_end HA.out hlt)
      go_wp2
      go_ret
      exact ⟨ret_int (by rw [HR.out, HN.out]), hb⟩
end Go.Proofs.YtmblockojnaffaaDoor
