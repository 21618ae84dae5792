/-
  Walks: what two sides made of a piece, put behind parts, as the reference does.
-/
import Derived.Test.YtlpfoekbccbhlaaWCut
import Derived.Test.YtlpfoekbccbhlaaWEq
import Derived.Test.YtlpfoekbccbhlaaFSL
import Derived.Test.YtlpfoekbccbhlaaPlG
set_option linter.unusedVariables false
namespace Go.Proofs.Ytlpfoekbccbhlaa
open Go.RowKit Go.Vc
open Go.Vc.Rep (rd)
open Go.Vc.Own (own)

set_option maxHeartbeats 4000000 in
set_option maxRecDepth 100000 in
theorem l3PutL_any {S T : Nat → Prop} (v : Value) (out : List Part) (ls : List ByteArray) {a1 : Option Addr} {c1 : Nat} {v2 v3 v4 : Value} (w : World) (h : FS S w [v] out) (hp : FS T w [.bool false, .slice a1 ls.length c1, v2, v3, v4] (⟨false, ls, [], [], []⟩ : Part))
    (hlt1 : ∀ b, S b → b < w.heap.size) (hd : ∀ b, S b → T b → b < w.heap.size → False) (hsm : SmallP out 1000) (hls : ls.length ≤ 1000) :
    Calls Try.prog 52 #[v, .agg #[.bool false, .slice a1 ls.length c1, v2, v3, v4]] w fun e w' => ∃ v', e = .returned v' ∧ FS (fun k => S k ∨ T k ∨ w.heap.size ≤ k) w' [v'] (putL out ls) ∧ Below 0 w w' ∧ ∀ k, k < w.heap.size → ¬ S k → w'.heap[k]? = w.heap[k]? := by
  obtain ⟨ao, co, hao, hO⟩ := rd_slice_elim h.rd
  subst hao
  obtain ⟨b1, d1, b2, d2, b3, d3, b4, d4, hvs, hl1, _⟩ := rd_part hp.rd
  obtain ⟨rfl, rfl⟩ : a1 = b1 ∧ c1 = d1 := by
    simp only [List.cons.injEq, Value.slice.injEq, true_and] at hvs
    exact ⟨hvs.1.1, hvs.1.2⟩
  clear hvs
  have hol := hsm.1
  have hB1 : Below 0 w (w.alloc (.cells #[.bool false, .slice a1 ls.length c1, v2, v3, v4] 45)) := (Below.refl 0 w).alloc (Nat.zero_le _) _
  by_cases h0 : ls.length = 0
  · have h0d : ((ls.length : Int) == 0) = true := by simp [h0]
    have HZ := Lib.hid (putL_nil (out := out) h0)
    clear h0
    go_enter Try.func52, Try.ntmps52
    go_wp2
    go_ret
    exact ⟨_, rfl, by rw [HZ.out]; exact (h.alloc _).mono (fun _ hk _ => .inl hk), hB1, fun k hk _ => Below.heap_alloc _ _ _ hk⟩
  · have h0d : ((ls.length : Int) == 0) = false := by simp only [beq_eq_false_iff_ne, ne_eq]; omega
    have H0 := Lib.hid h0
    clear h0
    by_cases h1 : 0 < out.length
    · obtain ⟨g, rfl, hSg⟩ := h.addr h1
      obtain ⟨g', off', a1', c1', a2', c2', a3', c3', a4', c4', hg', x0, x1, x2, x3, x4, y1, y2, y3, y4⟩ := hO.part (i := out.length - 1) (by omega)
      obtain ⟨rfl, rfl⟩ : g = g' ∧ 0 = off' := by simpa using hg'
      have hsl := hsm.at (k := out.length - 1) (by omega)
      have hone : (1 : Int) ≤ out.length := by omega
      have hlast : ((out.length : Int) - 1) < out.length := by omega
      have hlast0 : (0 : Int) ≤ (out.length : Int) - 1 := by omega
      have hlastn : ((out.length : Int) - 1).toNat = out.length - 1 := by omega
      have hgl : g < w.heap.size := World.block_lt_of_cell? w _ x0
      have e0 : IntKind.i64.wrap ((out.length : Int) - 1) = (out.length : Int) - 1 := IntWalk.i64_in _ (by omega)
      cases h2 : out[out.length - 1].clash with
      | false =>
        have HZ := Lib.hid (putL_more H0.out h1 h2)
        obtain ⟨pp, hpp⟩ : ∃ pp, pp = out[out.length - 1] := ⟨_, rfl⟩
        rw [← hpp] at x0 x1 h2 HZ hsl
        rw [h2] at x0
        rw [Nat.zero_add] at x0 x1
        have HPP := Lib.hid hpp
        clear hpp hg' x2 x3 x4 y1 y2 y3 y4 hO
        have hby1 : (pp.lines.length + ls.length) * 16 ≤ 140737488355328 := by omega
        have hby2 : pp.lines.length + ls.length ≤ maxLen := by unfold maxLen; omega
        obtain ⟨wb, hwb⟩ : ∃ wb, wb = w.alloc (.cells #[.bool false, .slice a1 ls.length c1, v2, v3, v4] 45) := ⟨_, rfl⟩
        have q0 : wb.cell? ⟨w.heap.size, 0, none⟩ = some (.bool false) := by rw [hwb, cell_of_row _ _ 0 _ _ (0, 0) (heap_alloc_new _ _)]; rfl
        have q1 : wb.cell? ⟨w.heap.size, 1, none⟩ = some (.slice a1 ls.length c1) := by rw [hwb, cell_of_row _ _ 1 _ _ (0, 0) (heap_alloc_new _ _)]; rfl
        have x0 : wb.cell? ⟨g, (out.length - 1) * 5, none⟩ = some (.bool false) := by rw [hwb]; exact (World.cell?_alloc_lt w _ _ hgl).trans x0
        have x1 : wb.cell? ⟨g, (out.length - 1) * 5 + 1, none⟩ = some (.slice a1' pp.lines.length c1') := by rw [hwb]; exact (World.cell?_alloc_lt w _ _ hgl).trans x1
        have hF : FS S wb [.slice (some ⟨g, 0, none⟩) out.length co] out := by rw [hwb]; exact h.alloc _
        have hl1 : IsSlice T wb a1 c1 ls := by rw [hwb]; exact hl1.alloc _
        have hrb : ∀ k, k < w.heap.size → wb.heap[k]? = w.heap[k]? := by rw [hwb]; exact fun k hk => Below.heap_alloc _ _ _ hk
        have hsb : wb.heap.size = w.heap.size + 1 := by rw [hwb]; simp
        rw [← hwb] at hB1
        have HW := Lib.hid hwb
        clear hwb
        go_enter Try.func52, Try.ntmps52
        go_wp2_with fail
        rw [← HW.out]
        go_region_law (go_must (refine step_app_lensS lens_part_lines slz_string.slt rfl (.tmp 42) (.tmp 44) rfl (i := out.length - 1) (ys := ls) (by exact hF.drew) (by omega) rfl (by exact x1) rfl rfl (by exact hl1.drew) (by rw [← HPP.out]; exact hby1) (by rw [← HPP.out]; exact hby2) ?_); intro a9 c9 w9 hcx hfx hB9 hr9 hSg9 hF9; obtain ⟨u9, hcy⟩ := hcx; have hcz : w9.cell? ⟨g, (out.length - 1) * 5 + 1, none⟩ = some u9 := hcy; have hfz : w9.frozen? ⟨g, (out.length - 1) * 5 + 1, none⟩ = false := hfx; clear hcy hfx)
        all_goals
          go_wp2
          go_ret
          rw [← HPP.out] at hF9
          refine ⟨_, rfl, ?_, ((hB1.drew).trans hB9).setCell (Nat.zero_le _) _, fun k hk hnk => ?_⟩
          · rw [HZ.out]
            have := hF9.mono (T := fun k => S k ∨ T k ∨ w.heap.size ≤ k) (fun k hk _ => by
              rcases hk with hk | hk
              · exact .inl hk
              · simp at hk
                exact .inr (.inr (by omega)))
            exact this
          · exact (Below.heap_setCell w9 _ _ k (fun e => hnk (by have e' : k = g := e; rw [e']; exact hSg))).trans ((hr9 k (by simp; omega) hnk).trans (hrb k hk))
      | true =>
        have HZ := Lib.hid (putL_new H0.out h1 h2)
        rw [h2] at x0
        rw [Nat.zero_add] at x0
        clear hg' x1 x2 x3 x4 y1 y2 y3 y4 hO
        have hby0 : (out.length + 1) * 104 ≤ 140737488355328 := by omega
        have hmx0 : out.length + 1 ≤ maxLen := by unfold maxLen; omega
        go_enter Try.func52, Try.ntmps52
        go_wp2_with (at_builtin; go_must (refine wpList_app_oneS slz_part.slt rfl (.tmp 49) (.tmp 51) rfl rfl ((h.alloc _).alloc _) rfl (heap_new_at (by simp)) ((hp.alloc _).alloc _) (fun b h1 h2 _ => hd b h1 h2 (hlt1 b h1)) hby0 hmx0 ?_); intro a5 c5 w5 hF5 hb5 hr5)
        go_ret
        exact ⟨_, rfl, by rw [HZ.out]; exact hF5.mono (fun k hk _ => by rcases hk with hk | hk | hk; exact .inl hk; exact .inr (.inl hk); simp at hk; exact .inr (.inr (by omega))), (hB1.alloc (Nat.zero_le _) _).trans (hb5 0 (Nat.zero_le _) (fun _ _ _ => Nat.zero_le _)),
          fun k hk hnk => (hr5 k (by simp; omega) hnk).trans ((Below.heap_alloc _ _ _ (by simp; omega)).trans (Below.heap_alloc _ _ _ hk))⟩
    · have HZ := Lib.hid (putL_first H0.out h1)
      have hdn : decide (0 < (out.length : Int)) = false := decide_eq_false (by omega)
      have hdn2 : ¬ 0 < (out.length : Int) := by omega
      have hby0 : (out.length + 1) * 104 ≤ 140737488355328 := by omega
      have hmx0 : out.length + 1 ≤ maxLen := by unfold maxLen; omega
      go_enter Try.func52, Try.ntmps52
      go_wp2_with (at_builtin; go_must (refine wpList_app_oneS slz_part.slt rfl (.tmp 49) (.tmp 51) rfl rfl ((h.alloc _).alloc _) rfl (heap_new_at (by simp)) ((hp.alloc _).alloc _) (fun b h1 h2 _ => hd b h1 h2 (hlt1 b h1)) hby0 hmx0 ?_); intro a5 c5 w5 hF5 hb5 hr5)
      go_ret
      exact ⟨_, rfl, by rw [HZ.out]; exact hF5.mono (fun k hk _ => by rcases hk with hk | hk | hk; exact .inl hk; exact .inr (.inl hk); simp at hk; exact .inr (.inr (by omega))), (hB1.alloc (Nat.zero_le _) _).trans (hb5 0 (Nat.zero_le _) (fun _ _ _ => Nat.zero_le _)),
        fun k hk hnk => (hr5 k (by simp; omega) hnk).trans ((Below.heap_alloc _ _ _ (by simp; omega)).trans (Below.heap_alloc _ _ _ hk))⟩
set_option maxHeartbeats 4000000 in
set_option maxRecDepth 100000 in
theorem l3PutC_any {S T : Nat → Prop} (v : Value) (out : List Part) (pp : Part) {a1 a2 a3 a4 : Option Addr} {n1 n2 n3 n4 c1 c2 c3 c4 : Nat} (w : World) (h : FS S w [v] out) (hp : FS T w [.bool true, .slice a1 n1 c1, .slice a2 n2 c2, .slice a3 n3 c3, .slice a4 n4 c4] pp)
    (hlt1 : ∀ b, S b → b < w.heap.size) (hd : ∀ b, S b → T b → b < w.heap.size → False) (hsm : SmallP out 1000) :
    Calls Try.prog 52 #[v, .agg #[.bool true, .slice a1 n1 c1, .slice a2 n2 c2, .slice a3 n3 c3, .slice a4 n4 c4]] w fun e w' => ∃ v', e = .returned v' ∧ FS (fun k => S k ∨ T k ∨ w.heap.size ≤ k) w' [v'] (out ++ [pp]) ∧ Below 0 w w' ∧ ∀ k, k < w.heap.size → ¬ S k → w'.heap[k]? = w.heap[k]? := by
  obtain ⟨ao, co, hao, hO⟩ := rd_slice_elim h.rd
  subst hao
  have hol := hsm.1
  have hby0 : (out.length + 1) * 104 ≤ 140737488355328 := by omega
  have hmx0 : out.length + 1 ≤ maxLen := by unfold maxLen; omega
  clear hO
  by_cases h1 : 0 < (out.length : Int)
  all_goals
    go_enter Try.func52, Try.ntmps52
    go_wp2_with (at_builtin; go_must (refine wpList_app_oneS slz_part.slt rfl (.tmp 49) (.tmp 51) rfl rfl ((h.alloc _).alloc _) rfl (heap_new_at (by simp)) ((hp.alloc _).alloc _) (fun b h1 h2 _ => hd b h1 h2 (hlt1 b h1)) hby0 hmx0 ?_); intro a5 c5 w5 hF5 hb5 hr5)
    go_ret
    exact ⟨_, rfl, hF5.mono (fun k hk _ => by rcases hk with hk | hk | hk; exact .inl hk; exact .inr (.inl hk); simp at hk; exact .inr (.inr (by omega))), (((Below.refl 0 w).alloc (Nat.zero_le _) _).alloc (Nat.zero_le _) _).trans (hb5 0 (Nat.zero_le _) (fun _ _ _ => Nat.zero_le _)),
      fun k hk hnk => (hr5 k (by simp; omega) hnk).trans ((Below.heap_alloc _ _ _ (by simp; omega)).trans (Below.heap_alloc _ _ _ hk))⟩
end Go.Proofs.Ytlpfoekbccbhlaa
