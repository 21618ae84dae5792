/-
  Walks: lines put behind parts, as the program does.
-/
import Derived.Test.YtlpfoekbccbhlaaWCut
import Derived.Test.YtlpfoekbccbhlaaFSL
import Derived.Test.YtlpfoekbccbhlaaPlG
set_option linter.unusedVariables false
namespace Go.Proofs.Ytlpfoekbccbhlaa
open Go.RowKit Go.Vc
open Go.Vc.Rep (rd)
open Go.Vc.Own (own)

def zeroPart : Part := ⟨false, [], [], [], []⟩

set_option maxHeartbeats 4000000 in
set_option maxRecDepth 100000 in
theorem resolve_any {R S : Nat → Prop} (v : Value) (ls : List ByteArray) (b : Nat) (out : List Part) (w : World) (hv : rd R w [v] ls) (hRS : ∀ k, R k → ¬ S k) (h : FS S w [.pointer (some ⟨b, 0, none⟩)] (⟨out⟩ : Box (List Part))) (hsm : SmallP out 1000) (hls : ls.length ≤ 1000) :
    Calls Try.prog 40 #[v, .pointer (some ⟨b, 0, none⟩)] w fun e w' => e = .returned (.tuple #[]) ∧ FS (fun k => S k ∨ w.heap.size ≤ k) w' [.pointer (some ⟨b, 0, none⟩)] (⟨putL out ls⟩ : Box (List Part)) ∧ Below 0 w w' ∧ ∀ k, k < w.heap.size → ¬ S k → w'.heap[k]? = w.heap[k]? := by
  obtain ⟨a, cap, rfl, hs⟩ := rd_slice_elim hv
  by_cases h0 : ls.length = 0
  · have h0d : ((ls.length : Int) == 0) = true := by simp [h0]
    have HZ := Lib.hid (putL_nil (out := out) h0)
    clear h0
    go_enter Try.func40, Try.ntmps40
    go_wp2
    (try simp only [Exit.inBlock, Exit.then])
    refine bodyPost_ret (results_none rfl _ _ _) rfl ?_
    exact ⟨rfl, by rw [HZ.out]; exact h.mono (fun _ hk _ => .inl hk), Below.refl _ _, fun _ _ _ => rfl⟩
  · have h0d : ((ls.length : Int) == 0) = false := by simp only [beq_eq_false_iff_ne, ne_eq]; omega
    have H0 := Lib.hid h0
    clear h0
    obtain ⟨cs, te, hbh, hF, hSb⟩ := h.unbox
    obtain ⟨ao, co, rfl, hO⟩ := hF.rd
    obtain ⟨hq, hfq⟩ := box_cell hbh
    have hbl : b < w.heap.size := (Array.getElem?_eq_some_iff.1 hbh).1
    have hol := hsm.1
    by_cases h1 : 0 < out.length
    · obtain ⟨g, rfl, hSg⟩ := hF.addr h1
      cases h2 : out[out.length - 1].clash with
      | false =>
        have HZ := Lib.hid (putL_more H0.out h1 h2)
        obtain ⟨g', off', a1, c1, a2, c2, a3, c3, a4, c4, hg', x0, x1, x2, x3, x4, y1, y2, y3, y4⟩ := hO.part (i := out.length - 1) (by omega)
        obtain ⟨rfl, rfl⟩ : g = g' ∧ 0 = off' := by simpa using hg'
        have hsl := hsm.at (k := out.length - 1) (by omega)
        obtain ⟨pp, hpp⟩ : ∃ pp, pp = out[out.length - 1] := ⟨_, rfl⟩
        rw [← hpp] at x0 x1 h2 HZ hsl
        rw [h2] at x0
        rw [Nat.zero_add] at x0 x1
        have HPP := Lib.hid hpp
        clear hpp hg' x2 x3 x4 y1 y2 y3 y4
        have hby1 : (pp.lines.length + ls.length) * 16 ≤ 140737488355328 := by omega
        have hby2 : pp.lines.length + ls.length ≤ maxLen := by unfold maxLen; omega
        have hlast : ((out.length : Int) - 1) < out.length := by omega
        have hlast0 : (0 : Int) ≤ (out.length : Int) - 1 := by omega
        have hlastn : ((out.length : Int) - 1).toNat = out.length - 1 := by omega
        have hd1 : decide ((out.length : Int) - 1 < 0) = false := decide_eq_false (by omega)
        have hone : (1 : Int) ≤ out.length := by omega
        have hnb : ¬ (S b ∧ b ≠ b) := fun h => h.2 rfl
        go_enter Try.func40, Try.ntmps40
        go_wp2_with fail
        go_region_law (go_must (refine step_app_lensS lens_part_lines slz_string.slt rfl (.tmp 31) (.tmp 32) rfl (i := out.length - 1) (ys := ls) (by exact hF.drew) (by omega) rfl (by exact x1) rfl rfl (by exact hs.drew) (by rw [← HPP.out]; exact hby1) (by rw [← HPP.out]; exact hby2) ?_); intro a9 c9 w9 hcx hfx hB9 hr9 hSg9 hF9; obtain ⟨u9, hcy⟩ := hcx; have hcz : w9.cell? ⟨g, (out.length - 1) * 5 + 1, none⟩ = some u9 := hcy; have hfz : w9.frozen? ⟨g, (out.length - 1) * 5 + 1, none⟩ = false := hfx; clear hcy hfx; have hq9 : w9.cell? ⟨b, 0, none⟩ = some _ := (World.cell?_of_block (w := w) (hr9 b hbl hnb)).trans hq)
        all_goals
          go_wp2
          go_end0
          rw [← HPP.out] at hF9
          refine ⟨rfl, ?_, ((Below.refl 0 w).drew.trans hB9).setCell (Nat.zero_le _) _, fun k hk hnk => ?_⟩
          · rw [HZ.out]
            have hbh9 : (w9.setCell ⟨g, (out.length - 1) * 5 + 1, none⟩ (.slice a9 (pp.lines.length + ls.length) c9)).heap[b]? = some (.cells (List.toArray [.slice (some ⟨g, 0, none⟩) out.length co]) te (0, 0)) :=
              ((Below.heap_setCell w9 _ _ b (fun e => hSg.2 e.symm)).trans (hr9 b hbl hnb)).trans hbh
            have := (FS.box hbh9 (hF9.mono (T := fun k => (S k ∧ k ≠ b) ∨ (w.heap.size ≤ k)) (fun k hk _ => hk)) (fun hh => by rcases hh with hh | hh; exact hh.2 rfl; omega))
            refine FS.mono (by simpa only [List.length_set] using this) fun k hk _ => ?_
            rcases hk with rfl | hk | hk
            · exact .inl hSb
            · exact .inl hk.1
            · exact .inr hk
          · exact (Below.heap_setCell w9 _ _ k (fun e => hnk (by have e' : k = g := e; rw [e']; exact hSg.1))).trans (hr9 k hk (fun h => hnk h.1))
      | true =>
        have hcl := h2
        obtain ⟨g', off', a1, c1, a2, c2, a3, c3, a4, c4, hg', x0, _⟩ := hO.part (i := out.length - 1) (by omega)
        obtain ⟨rfl, rfl⟩ : g = g' ∧ 0 = off' := by simpa using hg'
        rw [h2, Nat.zero_add] at x0
        clear hg'
        have hlast : ((out.length : Int) - 1) < out.length := by omega
        have hlast0 : (0 : Int) ≤ (out.length : Int) - 1 := by omega
        have hlastn : ((out.length : Int) - 1).toNat = out.length - 1 := by omega
        have hd1 : decide ((out.length : Int) - 1 < 0) = false := decide_eq_false (by omega)
        have HZ := Lib.hid (putL_new H0.out h1 h2)
        have hnb : ¬ (S b ∧ b ≠ b) := fun h => h.2 rfl
        have hup : (out.length : Int) < out.length + 1 := by omega
        have hby0 : (out.length + 1) * 104 ≤ 140737488355328 := by omega
        have hmx0 : out.length + 1 ≤ maxLen := by unfold maxLen; omega
        go_enter Try.func40, Try.ntmps40
        go_wp2_with (at_builtin; go_must (refine wpList_app_oneS (T := fun _ => False) slz_part.slt rfl (.tmp 19) (.tmp 21) rfl rfl (hF.alloc _) rfl (heap_alloc_new _ _) (FS.leaf (own_part0 _)) (fun _ _ h _ => h) hby0 hmx0 ?_); intro a5 c5 w5 hF5 hb5 hr5; have hr5 : ∀ k, k < w.heap.size → ¬ (S k ∧ k ≠ b) → w5.heap[k]? = w.heap[k]? := (fun k hk hn => (hr5 k (by simp; omega) hn).trans (Below.heap_alloc _ _ _ hk)); have hq5 : w5.cell? ⟨b, 0, none⟩ = some _ := (World.cell?_of_block (w := w) (hr5 b hbl hnb)).trans hq; have hfq5 : w5.frozen? ⟨b, 0, none⟩ = false := (World.frozen?_of_block (w := w) (hr5 b hbl hnb)).trans hfq; have hbh5 := (hr5 b hbl hnb).trans hbh)
        have hB5 : Below 0 w w5 := ((Below.refl 0 w).alloc (Nat.zero_le _) _).trans (hb5 0 (Nat.zero_le _) (fun _ _ _ => Nat.zero_le _))
        have hB6 : Below 0 w (w5.setCell ⟨b, 0, none⟩ (.slice a5 (out.length + 1) c5)) := hB5.setCell (Nat.zero_le _) _
        have hsz5 := hB5.size
        have hF6 : FS (fun k => (S k ∧ k ≠ b) ∨ w.heap.size ≤ k) (w5.setCell ⟨b, 0, none⟩ (.slice a5 (out.length + 1) c5)) [.slice a5 (out.length + 1) c5] (out ++ [zeroPart]) :=
          (hF5.mono (T := fun k => (S k ∧ k ≠ b) ∨ w.heap.size ≤ k) (fun k hk _ => by rcases hk with hk | hk | hk; exact .inl hk; exact hk.elim; simp at hk; exact .inr (by omega))).keep fun k hk _ => Below.heap_setCell w5 _ _ k (fun e => by have e' : k = b := e; rcases hk with hk | hk; exact hk.2 e'; omega)
        have hbh6 : (w5.setCell ⟨b, 0, none⟩ (.slice a5 (out.length + 1) c5)).heap[b]? = some (.cells (List.toArray [.slice a5 (out.length + 1) c5]) te (0, 0)) := by
          have := heap_setCell_same w5 b 0 _ te (.slice a5 (out.length + 1) c5) hbh5
          simpa using this
        have hr6 : ∀ k, k < w.heap.size → ¬ S k → (w5.setCell ⟨b, 0, none⟩ (.slice a5 (out.length + 1) c5)).heap[k]? = w.heap[k]? := fun k hk hn => (Below.heap_setCell w5 _ _ k (fun e => hn (by have e' : k = b := e; rw [e']; exact hSb))).trans (hr5 k hk (fun h => hn h.1))
        have hs6 : IsSlice R (w5.setCell ⟨b, 0, none⟩ (.slice a5 (out.length + 1) c5)) a cap ls := hs.frame fun k hk hl => ⟨hr6 k hl (hRS k hk), hk⟩
        clear hF5 hb5 hr5 hq5 hfq5 hbh5 hB5
        obtain ⟨w6, hw6⟩ : ∃ w6, w6 = w5.setCell ⟨b, 0, none⟩ (.slice a5 (out.length + 1) c5) := ⟨_, rfl⟩
        rw [← hw6] at hB6 hF6 hbh6 hr6 hs6
        rw [← hw6]
        clear hw6
        obtain ⟨hq6, hfq6⟩ := box_cell hbh6
        have hbl6 : b < w6.heap.size := (Array.getElem?_eq_some_iff.1 hbh6).1
        have hsz6 := hB6.size
        obtain ⟨g6, rfl, hSg6⟩ := hF6.addr (by simp)
        have hO6 := (rd_slice_of (by have := hF6.rd; simpa using this : rd _ w6 [.slice (some ⟨g6, 0, none⟩) (out ++ [zeroPart]).length c5] (out ++ [zeroPart]))).2
        obtain ⟨g', off', a1, c1, a2, c2, a3, c3, a4, c4, hg', x0, x1, x2, x3, x4, y1, y2, y3, y4⟩ := hO6.part (i := out.length) (by simp)
        obtain ⟨rfl, rfl⟩ : g6 = g' ∧ 0 = off' := by simpa using hg'
        simp only [List.getElem_append_right (Nat.le_refl _), Nat.sub_self, List.getElem_cons_zero, zeroPart, List.length_nil, Nat.zero_add] at x0 x1
        clear hg' x2 x3 x4 y1 y2 y3 y4
        have hnb6 : ¬ ((S b ∧ b ≠ b) ∨ w.heap.size ≤ b) := fun h => by rcases h with h | h; exact h.2 rfl; omega
        have hby1 : (0 + ls.length) * 16 ≤ 140737488355328 := by omega
        have hby2 : 0 + ls.length ≤ maxLen := by unfold maxLen; omega
        go_wp2_with fail
        go_region_law (go_must (refine step_app_lensS lens_part_lines slz_string.slt rfl (.tmp 31) (.tmp 32) rfl (i := out.length) (ys := ls) (by exact hF6.drew) (by simp) rfl (by exact x1) rfl rfl (by exact hs6.drew) (by simp only [List.getElem_append_right (Nat.le_refl _), Nat.sub_self, List.getElem_cons_zero, zeroPart, List.length_nil]; exact hby1) (by simp only [List.getElem_append_right (Nat.le_refl _), Nat.sub_self, List.getElem_cons_zero, zeroPart, List.length_nil]; exact hby2) ?_); intro a9 c9 w9 hcx hfx hB9 hr9 hSg9 hF9; obtain ⟨u9, hcy⟩ := hcx; have hcz : w9.cell? ⟨g6, out.length * 5 + 1, none⟩ = some u9 := hcy; have hfz : w9.frozen? ⟨g6, out.length * 5 + 1, none⟩ = false := hfx; clear hcy hfx; have hq9 : w9.cell? ⟨b, 0, none⟩ = some _ := (World.cell?_of_block (w := w6) (hr9 b hbl6 hnb6)).trans hq6)
        all_goals
          go_wp2
          go_end0
          have hgb : g6 ≠ b := fun e => by
            rcases hSg6 with h | h
            · exact h.2 e
            · omega
          refine ⟨rfl, ?_, (hB6.drew.trans hB9).setCell (Nat.zero_le _) _, fun k hk hnk => ?_⟩
          · rw [HZ.out]
            have hbh9 : (w9.setCell ⟨g6, out.length * 5 + 1, none⟩ (.slice a9 (0 + ls.length) c9)).heap[b]? = some (.cells (List.toArray [.slice (some ⟨g6, 0, none⟩) (out.length + 1) c5]) te (0, 0)) :=
              ((Below.heap_setCell w9 _ _ b (fun e => hgb e.symm)).trans (hr9 b hbl6 hnb6)).trans hbh6
            have hF10 : FS (fun k => (S k ∧ k ≠ b) ∨ w.heap.size ≤ k) (w9.setCell ⟨g6, out.length * 5 + 1, none⟩ (.slice a9 (0 + ls.length) c9)) [.slice (some ⟨g6, 0, none⟩) (out.length + 1) c5] (out ++ [⟨false, ls, [], [], []⟩]) := by
              have e : (out ++ [zeroPart]).set out.length ⟨false, ls, [], [], []⟩ = out ++ [⟨false, ls, [], [], []⟩] := by
                rw [List.set_append_right _ _ (Nat.le_refl _), Nat.sub_self]; rfl
              rw [← e]
              have := hF9.mono (T := fun k => (S k ∧ k ≠ b) ∨ w.heap.size ≤ k) (fun k hk _ => by rcases hk with (hk | hk) | hk; exact .inl hk; exact .inr hk; exact .inr (by simp at hk; omega))
              simp only [List.getElem_append_right (Nat.le_refl _), Nat.sub_self, List.getElem_cons_zero, zeroPart, List.nil_append] at this
              exact this
            have := FS.box hbh9 hF10 hnb6
            refine FS.mono (by simpa using this) fun k hk _ => ?_
            rcases hk with rfl | hk | hk
            · exact .inl hSb
            · exact .inl hk.1
            · exact .inr hk
          · have hk6 : k < w6.heap.size := Nat.lt_of_lt_of_le hk hB6.size
            have hkg : k ≠ g6 := fun e => by
              rcases hSg6 with h | h
              · exact hnk (e ▸ h.1)
              · omega
            have hnk6 : ¬ ((S k ∧ k ≠ b) ∨ w.heap.size ≤ k) := fun h => by
              rcases h with h | h
              · exact hnk h.1
              · omega
            exact (Below.heap_setCell w9 _ _ k hkg).trans ((hr9 k hk6 hnk6).trans (hr6 k hk hnk))
    · have hd1 : decide ((out.length : Int) - 1 < 0) = true := decide_eq_true (by omega)
      have HZ := Lib.hid (putL_first H0.out h1)
      have hnb : ¬ (S b ∧ b ≠ b) := fun h => h.2 rfl
      have hup : (out.length : Int) < out.length + 1 := by omega
      have hby0 : (out.length + 1) * 104 ≤ 140737488355328 := by omega
      have hmx0 : out.length + 1 ≤ maxLen := by unfold maxLen; omega
      go_enter Try.func40, Try.ntmps40
      go_wp2_with (at_builtin; go_must (refine wpList_app_oneS (T := fun _ => False) slz_part.slt rfl (.tmp 19) (.tmp 21) rfl rfl (hF.alloc _) rfl (heap_alloc_new _ _) (FS.leaf (own_part0 _)) (fun _ _ h _ => h) hby0 hmx0 ?_); intro a5 c5 w5 hF5 hb5 hr5; have hr5 : ∀ k, k < w.heap.size → ¬ (S k ∧ k ≠ b) → w5.heap[k]? = w.heap[k]? := (fun k hk hn => (hr5 k (by simp; omega) hn).trans (Below.heap_alloc _ _ _ hk)); have hq5 : w5.cell? ⟨b, 0, none⟩ = some _ := (World.cell?_of_block (w := w) (hr5 b hbl hnb)).trans hq; have hfq5 : w5.frozen? ⟨b, 0, none⟩ = false := (World.frozen?_of_block (w := w) (hr5 b hbl hnb)).trans hfq; have hbh5 := (hr5 b hbl hnb).trans hbh)
      have hB5 : Below 0 w w5 := ((Below.refl 0 w).alloc (Nat.zero_le _) _).trans (hb5 0 (Nat.zero_le _) (fun _ _ _ => Nat.zero_le _))
      have hB6 : Below 0 w (w5.setCell ⟨b, 0, none⟩ (.slice a5 (out.length + 1) c5)) := hB5.setCell (Nat.zero_le _) _
      have hsz5 := hB5.size
      have hF6 : FS (fun k => (S k ∧ k ≠ b) ∨ w.heap.size ≤ k) (w5.setCell ⟨b, 0, none⟩ (.slice a5 (out.length + 1) c5)) [.slice a5 (out.length + 1) c5] (out ++ [zeroPart]) :=
        (hF5.mono (T := fun k => (S k ∧ k ≠ b) ∨ w.heap.size ≤ k) (fun k hk _ => by rcases hk with hk | hk | hk; exact .inl hk; exact hk.elim; simp at hk; exact .inr (by omega))).keep fun k hk _ => Below.heap_setCell w5 _ _ k (fun e => by have e' : k = b := e; rcases hk with hk | hk; exact hk.2 e'; omega)
      have hbh6 : (w5.setCell ⟨b, 0, none⟩ (.slice a5 (out.length + 1) c5)).heap[b]? = some (.cells (List.toArray [.slice a5 (out.length + 1) c5]) te (0, 0)) := by
        have := heap_setCell_same w5 b 0 _ te (.slice a5 (out.length + 1) c5) hbh5
        simpa using this
      have hr6 : ∀ k, k < w.heap.size → ¬ S k → (w5.setCell ⟨b, 0, none⟩ (.slice a5 (out.length + 1) c5)).heap[k]? = w.heap[k]? := fun k hk hn => (Below.heap_setCell w5 _ _ k (fun e => hn (by have e' : k = b := e; rw [e']; exact hSb))).trans (hr5 k hk (fun h => hn h.1))
      have hs6 : IsSlice R (w5.setCell ⟨b, 0, none⟩ (.slice a5 (out.length + 1) c5)) a cap ls := hs.frame fun k hk hl => ⟨hr6 k hl (hRS k hk), hk⟩
      clear hF5 hb5 hr5 hq5 hfq5 hbh5 hB5
      obtain ⟨w6, hw6⟩ : ∃ w6, w6 = w5.setCell ⟨b, 0, none⟩ (.slice a5 (out.length + 1) c5) := ⟨_, rfl⟩
      rw [← hw6] at hB6 hF6 hbh6 hr6 hs6
      rw [← hw6]
      clear hw6
      obtain ⟨hq6, hfq6⟩ := box_cell hbh6
      have hbl6 : b < w6.heap.size := (Array.getElem?_eq_some_iff.1 hbh6).1
      have hsz6 := hB6.size
      obtain ⟨g6, rfl, hSg6⟩ := hF6.addr (by simp)
      have hO6 := (rd_slice_of (by have := hF6.rd; simpa using this : rd _ w6 [.slice (some ⟨g6, 0, none⟩) (out ++ [zeroPart]).length c5] (out ++ [zeroPart]))).2
      obtain ⟨g', off', a1, c1, a2, c2, a3, c3, a4, c4, hg', x0, x1, x2, x3, x4, y1, y2, y3, y4⟩ := hO6.part (i := out.length) (by simp)
      obtain ⟨rfl, rfl⟩ : g6 = g' ∧ 0 = off' := by simpa using hg'
      simp only [List.getElem_append_right (Nat.le_refl _), Nat.sub_self, List.getElem_cons_zero, zeroPart, List.length_nil, Nat.zero_add] at x0 x1
      clear hg' x2 x3 x4 y1 y2 y3 y4
      have hnb6 : ¬ ((S b ∧ b ≠ b) ∨ w.heap.size ≤ b) := fun h => by rcases h with h | h; exact h.2 rfl; omega
      have hby1 : (0 + ls.length) * 16 ≤ 140737488355328 := by omega
      have hby2 : 0 + ls.length ≤ maxLen := by unfold maxLen; omega
      go_wp2_with fail
      go_region_law (go_must (refine step_app_lensS lens_part_lines slz_string.slt rfl (.tmp 31) (.tmp 32) rfl (i := out.length) (ys := ls) (by exact hF6.drew) (by simp) rfl (by exact x1) rfl rfl (by exact hs6.drew) (by simp only [List.getElem_append_right (Nat.le_refl _), Nat.sub_self, List.getElem_cons_zero, zeroPart, List.length_nil]; exact hby1) (by simp only [List.getElem_append_right (Nat.le_refl _), Nat.sub_self, List.getElem_cons_zero, zeroPart, List.length_nil]; exact hby2) ?_); intro a9 c9 w9 hcx hfx hB9 hr9 hSg9 hF9; obtain ⟨u9, hcy⟩ := hcx; have hcz : w9.cell? ⟨g6, out.length * 5 + 1, none⟩ = some u9 := hcy; have hfz : w9.frozen? ⟨g6, out.length * 5 + 1, none⟩ = false := hfx; clear hcy hfx; have hq9 : w9.cell? ⟨b, 0, none⟩ = some _ := (World.cell?_of_block (w := w6) (hr9 b hbl6 hnb6)).trans hq6)
      all_goals
        go_wp2
        go_end0
        have hgb : g6 ≠ b := fun e => by
          rcases hSg6 with h | h
          · exact h.2 e
          · omega
        refine ⟨rfl, ?_, (hB6.drew.trans hB9).setCell (Nat.zero_le _) _, fun k hk hnk => ?_⟩
        · rw [HZ.out]
          have hbh9 : (w9.setCell ⟨g6, out.length * 5 + 1, none⟩ (.slice a9 (0 + ls.length) c9)).heap[b]? = some (.cells (List.toArray [.slice (some ⟨g6, 0, none⟩) (out.length + 1) c5]) te (0, 0)) :=
            ((Below.heap_setCell w9 _ _ b (fun e => hgb e.symm)).trans (hr9 b hbl6 hnb6)).trans hbh6
          have hF10 : FS (fun k => (S k ∧ k ≠ b) ∨ w.heap.size ≤ k) (w9.setCell ⟨g6, out.length * 5 + 1, none⟩ (.slice a9 (0 + ls.length) c9)) [.slice (some ⟨g6, 0, none⟩) (out.length + 1) c5] (out ++ [⟨false, ls, [], [], []⟩]) := by
            have e : (out ++ [zeroPart]).set out.length ⟨false, ls, [], [], []⟩ = out ++ [⟨false, ls, [], [], []⟩] := by
              rw [List.set_append_right _ _ (Nat.le_refl _), Nat.sub_self]; rfl
            rw [← e]
            have := hF9.mono (T := fun k => (S k ∧ k ≠ b) ∨ w.heap.size ≤ k) (fun k hk _ => by rcases hk with (hk | hk) | hk; exact .inl hk; exact .inr hk; exact .inr (by simp at hk; omega))
            simp only [List.getElem_append_right (Nat.le_refl _), Nat.sub_self, List.getElem_cons_zero, zeroPart, List.nil_append] at this
            exact this
          have := FS.box hbh9 hF10 hnb6
          refine FS.mono (by simpa using this) fun k hk _ => ?_
          rcases hk with rfl | hk | hk
          · exact .inl hSb
          · exact .inl hk.1
          · exact .inr hk
        · have hk6 : k < w6.heap.size := Nat.lt_of_lt_of_le hk hB6.size
          have hkg : k ≠ g6 := fun e => by
            rcases hSg6 with h | h
            · exact hnk (e ▸ h.1)
            · omega
          have hnk6 : ¬ ((S k ∧ k ≠ b) ∨ w.heap.size ≤ k) := fun h => by
            rcases h with h | h
            · exact hnk h.1
            · omega
          exact (Below.heap_setCell w9 _ _ k hkg).trans ((hr9 k hk6 hnk6).trans (hr6 k hk hnk))
end Go.Proofs.Ytlpfoekbccbhlaa
