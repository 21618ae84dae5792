/-
  Walks: what two sides made of a piece, put behind parts, as the reference does. / Walks: what two sides made of a piece, as the reference has it. / Walks: the merge, as the reference has it. / Walks: what comes of a merge, as the reference has it.
-/
import Derived.Test.YtegknjcifmenpaaGreatDoorVM3
import Derived.Test.YtegknjcifmenpaaGreatDoorVSM
import Derived.Test.YtegknjcifmenpaaGreatDoorVFS
import Derived.Test.YtegknjcifmenpaaGreatDoorVP2
import Derived.Test.YtegknjcifmenpaaGreatDoorVMT
set_option linter.unusedVariables false
namespace Go.Proofs.YtegknjcifmenpaaGreatDoor
open Go.RowKit Go.Vc
open Go.Vc.Rep (rd)
open Go.Vc.Own (own)

set_option maxHeartbeats 4000000 in
set_option maxRecDepth 100000 in
theorem l3PutL_any {S T : Nat → Prop} (v : Value) (out : List Part) (ls : List ByteArray) {a1 : Option Addr} {c1 : Nat} {v2 v3 v4 : Value} (w : World) (h : FS S w [v] out) (hp : FS T w [.bool false, .slice a1 ls.length c1, v2, v3, v4] (⟨false, ls, [], [], []⟩ : Part))
    (hlt1 : ∀ b, S b → b < w.heap.size) (hd : ∀ b, S b → T b → b < w.heap.size → False) (hsm : SmallP out 1000) (hls : ls.length ≤ 1000) :
    Calls Tryz.prog 169 #[v, .agg #[.bool false, .slice a1 ls.length c1, v2, v3, v4]] w fun e w' => ∃ v', e = .returned v' ∧ FS (fun k => S k ∨ T k ∨ w.heap.size ≤ k) w' [v'] (putL out ls) ∧ Below 0 w w' ∧ ∀ k, k < w.heap.size → ¬ S k → w'.heap[k]? = w.heap[k]? := by
  obtain ⟨ao, co, hao, hO⟩ := rd_slice_elim h.rd
  subst hao
  obtain ⟨b1, d1, b2, d2, b3, d3, b4, d4, hvs, hl1, _⟩ := rd_part hp.rd
  obtain ⟨rfl, rfl⟩ : a1 = b1 ∧ c1 = d1 := by
    simp only [List.cons.injEq, Value.slice.injEq, true_and] at hvs
    exact ⟨hvs.1.1, hvs.1.2⟩
  clear hvs
  have hol := hsm.1
  have hB1 : Below 0 w (w.alloc (.cells #[.bool false, .slice a1 ls.length c1, v2, v3, v4] 95)) := (Below.refl 0 w).alloc (Nat.zero_le _) _
  by_cases h0 : ls.length = 0
  · have h0d : ((ls.length : Int) == 0) = true := by simp [h0]
    have HZ := Lib.hid (putL_nil (out := out) h0)
    clear h0
    go_enter Tryz.func169, Tryz.ntmps169
    go_wp2
    go_ret
    exact ⟨_, rfl, by rw [HZ.out]; exact (h.alloc _).mono (fun _ hk _ => .inl hk), hB1, fun k hk _ => Below.heap_alloc _ _ _ hk⟩
  · have h0d : ((ls.length : Int) == 0) = false := by simp only [beq_eq_false_iff_ne, ne_eq]; omega
    have H0 := Lib.hid h0
    clear h0
    by_cases h1 : 0 < out.length
    · obtain ⟨g, rfl, hSg⟩ := h.addr h1
      obtain ⟨g', off', a1', c1', a2', c2', a3', c3', a4', c4', hg', x0, x1, x2, x3, x4, y1, y2, y3, y4⟩ := hO.part (i := out.length - 1) (by omega)
      obtain ⟨rfl, rfl⟩ : g = g' ∧ 0 = off' := by simpa using hg'
      have hsl := hsm.at (k := out.length - 1) (by omega)
      have hone : (1 : Int) ≤ out.length := by omega
      have hlast : ((out.length : Int) - 1) < out.length := by omega
      have hlast0 : (0 : Int) ≤ (out.length : Int) - 1 := by omega
      have hlastn : ((out.length : Int) - 1).toNat = out.length - 1 := by omega
      have hgl : g < w.heap.size := World.block_lt_of_cell? w _ x0
      have e0 : IntKind.i64.wrap ((out.length : Int) - 1) = (out.length : Int) - 1 := IntWalk.i64_in _ (by omega)
      cases h2 : out[out.length - 1].clash with
      | false =>
        have HZ := Lib.hid (putL_more H0.out h1 h2)
        obtain ⟨pp, hpp⟩ : ∃ pp, pp = out[out.length - 1] := ⟨_, rfl⟩
        rw [← hpp] at x0 x1 h2 HZ hsl
        rw [h2] at x0
        rw [Nat.zero_add] at x0 x1
        have HPP := Lib.hid hpp
        clear hpp hg' x2 x3 x4 y1 y2 y3 y4 hO
        have hby1 : (pp.lines.length + ls.length) * 16 ≤ 140737488355328 := by omega
        have hby2 : pp.lines.length + ls.length ≤ maxLen := by unfold maxLen; omega
        obtain ⟨wb, hwb⟩ : ∃ wb, wb = w.alloc (.cells #[.bool false, .slice a1 ls.length c1, v2, v3, v4] 95) := ⟨_, rfl⟩
        have q0 : wb.cell? ⟨w.heap.size, 0, none⟩ = some (.bool false) := by rw [hwb, cell_of_row _ _ 0 _ _ (0, 0) (heap_alloc_new _ _)]; rfl
        have q1 : wb.cell? ⟨w.heap.size, 1, none⟩ = some (.slice a1 ls.length c1) := by rw [hwb, cell_of_row _ _ 1 _ _ (0, 0) (heap_alloc_new _ _)]; rfl
        have x0 : wb.cell? ⟨g, (out.length - 1) * 5, none⟩ = some (.bool false) := by rw [hwb]; exact (World.cell?_alloc_lt w _ _ hgl).trans x0
        have x1 : wb.cell? ⟨g, (out.length - 1) * 5 + 1, none⟩ = some (.slice a1' pp.lines.length c1') := by rw [hwb]; exact (World.cell?_alloc_lt w _ _ hgl).trans x1
        have hF : FS S wb [.slice (some ⟨g, 0, none⟩) out.length co] out := by rw [hwb]; exact h.alloc _
        have hl1 : IsSlice T wb a1 c1 ls := by rw [hwb]; exact hl1.alloc _
        have hrb : ∀ k, k < w.heap.size → wb.heap[k]? = w.heap[k]? := by rw [hwb]; exact fun k hk => Below.heap_alloc _ _ _ hk
        have hsb : wb.heap.size = w.heap.size + 1 := by rw [hwb]; simp
        rw [← hwb] at hB1
        have HW := Lib.hid hwb
        clear hwb
        go_enter Tryz.func169, Tryz.ntmps169
        go_wp2_with fail
        rw [← HW.out]
        go_region_law (go_must (refine step_app_lensS lens_part_lines slz_string.slt rfl (.tmp 42) (.tmp 44) rfl (i := out.length - 1) (ys := ls) (by exact hF.drew) (by omega) rfl (by exact x1) rfl rfl (by exact hl1.drew) (by rw [← HPP.out]; exact hby1) (by rw [← HPP.out]; exact hby2) ?_); intro a9 c9 w9 hcx hfx hB9 hr9 hSg9 hF9; obtain ⟨u9, hcy⟩ := hcx; have hcz : w9.cell? ⟨g, (out.length - 1) * 5 + 1, none⟩ = some u9 := hcy; have hfz : w9.frozen? ⟨g, (out.length - 1) * 5 + 1, none⟩ = false := hfx; clear hcy hfx)
        all_goals
          go_wp2
          go_ret
          rw [← HPP.out] at hF9
          refine ⟨_, rfl, ?_, ((hB1.drew).trans hB9).setCell (Nat.zero_le _) _, fun k hk hnk => ?_⟩
          · rw [HZ.out]
            have := hF9.mono (T := fun k => S k ∨ T k ∨ w.heap.size ≤ k) (fun k hk _ => by
              rcases hk with hk | hk
              · exact .inl hk
              · simp at hk
                exact .inr (.inr (by omega)))
            exact this
          · exact (Below.heap_setCell w9 _ _ k (fun e => hnk (by have e' : k = g := e; rw [e']; exact hSg))).trans ((hr9 k (by simp; omega) hnk).trans (hrb k hk))
      | true =>
        have HZ := Lib.hid (putL_new H0.out h1 h2)
        rw [h2] at x0
        rw [Nat.zero_add] at x0
        clear hg' x1 x2 x3 x4 y1 y2 y3 y4 hO
        have hby0 : (out.length + 1) * 104 ≤ 140737488355328 := by omega
        have hmx0 : out.length + 1 ≤ maxLen := by unfold maxLen; omega
        go_enter Tryz.func169, Tryz.ntmps169
        go_wp2_with (at_builtin; go_must (refine wpList_app_oneS slz_part.slt rfl (.tmp 49) (.tmp 51) rfl rfl ((h.alloc _).alloc _) rfl (heap_new_at (by simp)) ((hp.alloc _).alloc _) (fun b h1 h2 _ => hd b h1 h2 (hlt1 b h1)) hby0 hmx0 ?_); intro a5 c5 w5 hF5 hb5 hr5)
        go_ret
        exact ⟨_, rfl, by rw [HZ.out]; exact hF5.mono (fun k hk _ => by rcases hk with hk | hk | hk; exact .inl hk; exact .inr (.inl hk); simp at hk; exact .inr (.inr (by omega))), (hB1.alloc (Nat.zero_le _) _).trans (hb5 0 (Nat.zero_le _) (fun _ _ _ => Nat.zero_le _)),
          fun k hk hnk => (hr5 k (by simp; omega) hnk).trans ((Below.heap_alloc _ _ _ (by simp; omega)).trans (Below.heap_alloc _ _ _ hk))⟩
    · have HZ := Lib.hid (putL_first H0.out h1)
      have hdn : decide (0 < (out.length : Int)) = false := decide_eq_false (by omega)
      have hdn2 : ¬ 0 < (out.length : Int) := by omega
      have hby0 : (out.length + 1) * 104 ≤ 140737488355328 := by omega
      have hmx0 : out.length + 1 ≤ maxLen := by unfold maxLen; omega
      go_enter Tryz.func169, Tryz.ntmps169
      go_wp2_with (at_builtin; go_must (refine wpList_app_oneS slz_part.slt rfl (.tmp 49) (.tmp 51) rfl rfl ((h.alloc _).alloc _) rfl (heap_new_at (by simp)) ((hp.alloc _).alloc _) (fun b h1 h2 _ => hd b h1 h2 (hlt1 b h1)) hby0 hmx0 ?_); intro a5 c5 w5 hF5 hb5 hr5)
      go_ret
      exact ⟨_, rfl, by rw [HZ.out]; exact hF5.mono (fun k hk _ => by rcases hk with hk | hk | hk; exact .inl hk; exact .inr (.inl hk); simp at hk; exact .inr (.inr (by omega))), (hB1.alloc (Nat.zero_le _) _).trans (hb5 0 (Nat.zero_le _) (fun _ _ _ => Nat.zero_le _)),
        fun k hk hnk => (hr5 k (by simp; omega) hnk).trans ((Below.heap_alloc _ _ _ (by simp; omega)).trans (Below.heap_alloc _ _ _ hk))⟩
set_option maxHeartbeats 4000000 in
set_option maxRecDepth 100000 in
theorem l3PutC_any {S T : Nat → Prop} (v : Value) (out : List Part) (pp : Part) {a1 a2 a3 a4 : Option Addr} {n1 n2 n3 n4 c1 c2 c3 c4 : Nat} (w : World) (h : FS S w [v] out) (hp : FS T w [.bool true, .slice a1 n1 c1, .slice a2 n2 c2, .slice a3 n3 c3, .slice a4 n4 c4] pp)
    (hlt1 : ∀ b, S b → b < w.heap.size) (hd : ∀ b, S b → T b → b < w.heap.size → False) (hsm : SmallP out 1000) :
    Calls Tryz.prog 169 #[v, .agg #[.bool true, .slice a1 n1 c1, .slice a2 n2 c2, .slice a3 n3 c3, .slice a4 n4 c4]] w fun e w' => ∃ v', e = .returned v' ∧ FS (fun k => S k ∨ T k ∨ w.heap.size ≤ k) w' [v'] (out ++ [pp]) ∧ Below 0 w w' ∧ ∀ k, k < w.heap.size → ¬ S k → w'.heap[k]? = w.heap[k]? := by
  obtain ⟨ao, co, hao, hO⟩ := rd_slice_elim h.rd
  subst hao
  have hol := hsm.1
  have hby0 : (out.length + 1) * 104 ≤ 140737488355328 := by omega
  have hmx0 : out.length + 1 ≤ maxLen := by unfold maxLen; omega
  clear hO
  by_cases h1 : 0 < (out.length : Int)
  all_goals
    go_enter Tryz.func169, Tryz.ntmps169
    go_wp2_with (at_builtin; go_must (refine wpList_app_oneS slz_part.slt rfl (.tmp 49) (.tmp 51) rfl rfl ((h.alloc _).alloc _) rfl (heap_new_at (by simp)) ((hp.alloc _).alloc _) (fun b h1 h2 _ => hd b h1 h2 (hlt1 b h1)) hby0 hmx0 ?_); intro a5 c5 w5 hF5 hb5 hr5)
    go_ret
    exact ⟨_, rfl, hF5.mono (fun k hk _ => by rcases hk with hk | hk | hk; exact .inl hk; exact .inr (.inl hk); simp at hk; exact .inr (.inr (by omega))), (((Below.refl 0 w).alloc (Nat.zero_le _) _).alloc (Nat.zero_le _) _).trans (hb5 0 (Nat.zero_le _) (fun _ _ _ => Nat.zero_le _)),
      fun k hk hnk => (hr5 k (by simp; omega) hnk).trans ((Below.heap_alloc _ _ _ (by simp; omega)).trans (Below.heap_alloc _ _ _ hk))⟩
end Go.Proofs.YtegknjcifmenpaaGreatDoor
namespace Go.Proofs.YtegknjcifmenpaaGreatDoor
open Go.RowKit Go.Vc
open Go.Vc.Rep (rd)
open Go.Vc.Own (own)

/-- a new variable's cells, behind more memory -/
theorem newpart {w W : World} (h : Below (w.heap.size + 1) (w.alloc (.cells #[.bool false, .slice none 0 0, .slice none 0 0, .slice none 0 0, .slice none 0 0] 95)) W) :
    W.cell? ⟨w.heap.size, 0, none⟩ = some (.bool false) ∧ W.cell? ⟨w.heap.size, 1, none⟩ = some (.slice none 0 0) ∧ W.cell? ⟨w.heap.size, 2, none⟩ = some (.slice none 0 0) ∧ W.cell? ⟨w.heap.size, 3, none⟩ = some (.slice none 0 0) ∧ W.cell? ⟨w.heap.size, 4, none⟩ = some (.slice none 0 0) ∧
      ∀ j, W.frozen? ⟨w.heap.size, j, none⟩ = false := by
  have hb := (h.block w.heap.size (by omega)).trans (heap_alloc_new _ _)
  refine ⟨?_, ?_, ?_, ?_, ?_, fun j => frozen_of_row W _ j _ _ hb⟩ <;> rw [cell_of_row W _ _ _ _ (0, 0) hb] <;> rfl

theorem wdrewN {w : World} {n : Nat} : Below w.heap.size w (w.drewN n) := below_drewN (Below.refl _ _) n

set_option maxHeartbeats 4000000 in
set_option maxRecDepth 100000 in
theorem l3PartL_any {B : Nat} (v u x : Value) (o a b ls : List ByteArray) (w : World) (hv : rd (fun k => k < B) w [v] o) (hu : rd (fun k => k < B) w [u] a) (hx : rd (fun k => k < B) w [x] b) (hB : B ≤ w.heap.size)
    (hla : a.length ≤ 1000) (hlb : b.length ≤ 1000) (h : (a = o ∨ a = b) ∧ ls = b ∨ ¬ (a = o ∨ a = b) ∧ b = o ∧ ls = a) :
    Calls Tryz.prog 170 #[v, u, x] w fun e w' => ∃ a1 c1, e = .returned (.agg #[.bool false, .slice a1 ls.length c1, .slice none 0 0, .slice none 0 0, .slice none 0 0]) ∧
      Fresh w.heap.size w'.heap.size w' [.bool false, .slice a1 ls.length c1, .slice none 0 0, .slice none 0 0, .slice none 0 0] (⟨false, ls, [], [], []⟩ : Part) ∧ Below w.heap.size w w' := by
  obtain ⟨ao, co, rfl, hso⟩ := rd_slice_elim hv
  obtain ⟨aa, ca, rfl, hsa⟩ := rd_slice_elim hu
  obtain ⟨ab, cb, rfl, hsb⟩ := rd_slice_elim hx
  by_cases e1 : a = o
  · have HL : Hid (ls = b) := by
      show _ = _
      rcases h with ⟨_, h⟩ | ⟨h, _⟩
      · exact h
      · exact absurd (.inl e1) h
    have e1d : decide (a = o) = true := decide_eq_true e1
    clear h e1
    have hZ0 : Below w.heap.size w (w.alloc (.cells #[.bool false, .slice none 0 0, .slice none 0 0, .slice none 0 0, .slice none 0 0] 95)) := (Below.refl _ _).alloc (Nat.le_refl _) _
    go_enter Tryz.func170, Tryz.ntmps170
    go_wp2_with fail
    refine (l1Same_is _ _ _ _ _ ((hsa).keep (hZ0.mono hB)).rd ((hso).keep (hZ0.mono hB)).rd e1d).mono ?_
    rintro e wd1 ⟨rfl, nn1, hnn1⟩
    have hZ1 := hZ0.trans ((hnn1 ▸ wdrewN : Below _ _ wd1).mono hZ0.size)
    have hY1 : Below (w.heap.size + 1) (w.alloc (.cells #[.bool false, .slice none 0 0, .slice none 0 0, .slice none 0 0, .slice none 0 0] 95)) wd1 := (hnn1 ▸ wdrewN : Below _ _ wd1).mono (by simp)
    clear hnn1
    have hszy := hY1.size
    simp at hszy
    go_wp2_with (at_builtin; go_must (refine wpList_app_leaf slz_string.slt rfl (.tmp 14) (.tmp 15) rfl rfl (Fresh.empty (β := ByteArray) (by decide) wd1.heap.size wd1 (Nat.le_refl _)) (by simp) rfl rfl ((hsb.keep (hZ1.mono hB)).alloc _) (by simp <;> omega) (by unfold maxLen; simp <;> omega) ?_); intro a5 c5 w5 hG5; have hY9 : Below (w.heap.size + 1) (w.alloc (.cells #[.bool false, .slice none 0 0, .slice none 0 0, .slice none 0 0, .slice none 0 0] 95)) w5 := (hY1.alloc (by omega) _).trans (hG5.below.mono (by omega)); obtain ⟨x0, x1, x2, x3, x4, xf⟩ := newpart hY9)
    have hsz9 := hG5.below.size
    have hF := hG5.fresh
    rw [List.nil_append, List.length_nil, Nat.zero_add] at hF
    refine bodyPost_ret (v := .agg #[.bool false, .slice a5 b.length c5, .slice none 0 0, .slice none 0 0, .slice none 0 0]) (by simp [results, Tryz.results170, go_sem, x0, x1, x2, x3, x4]) rfl ⟨a5, c5, by rw [HL.out], ?_, ?_⟩
    · rw [HL.out]
      have hF2 := (((((hF.setCell (a := ⟨w.heap.size, 0, none⟩) (u := .bool false) (.inl (by simp; omega))).setCell (a := ⟨w.heap.size, 1, none⟩) (u := .slice a5 b.length c5) (.inl (by simp; omega))).setCell (a := ⟨w.heap.size, 2, none⟩) (u := .slice none 0 0) (.inl (by simp; omega))).setCell (a := ⟨w.heap.size, 3, none⟩) (u := .slice none 0 0) (.inl (by simp; omega))).setCell (a := ⟨w.heap.size, 4, none⟩) (u := .slice none 0 0) (.inl (by simp; omega)))
      exact (Fresh.partL hF2).now.mono (by omega) (Nat.le_refl _)
    · have hq : Below w.heap.size w w5 := hZ0.trans (hY9.mono (by omega))
      exact ((((hq.setCell (by simp) _).setCell (by simp) _).setCell (by simp) _).setCell (by simp) _).setCell (by simp) _
  · have e1d : decide (a = o) = false := decide_eq_false e1
    by_cases e2 : a = b
    · have HL : Hid (ls = b) := by
        show _ = _
        rcases h with ⟨_, h⟩ | ⟨h, _⟩
        · exact h
        · exact absurd (.inr e2) h
      have e2d : decide (a = b) = true := decide_eq_true e2
      clear h e1 e2
      have hZ0 : Below w.heap.size w (w.alloc (.cells #[.bool false, .slice none 0 0, .slice none 0 0, .slice none 0 0, .slice none 0 0] 95)) := (Below.refl _ _).alloc (Nat.le_refl _) _
      go_enter Tryz.func170, Tryz.ntmps170
      go_wp2_with fail
      refine (l1Same_is _ _ _ _ _ ((hsa).keep (hZ0.mono hB)).rd ((hso).keep (hZ0.mono hB)).rd e1d).mono ?_
      rintro e wd1 ⟨rfl, nn1, hnn1⟩
      have hZ1 := hZ0.trans ((hnn1 ▸ wdrewN : Below _ _ wd1).mono hZ0.size)
      have hY1 : Below (w.heap.size + 1) (w.alloc (.cells #[.bool false, .slice none 0 0, .slice none 0 0, .slice none 0 0, .slice none 0 0] 95)) wd1 := (hnn1 ▸ wdrewN : Below _ _ wd1).mono (by simp)
      clear hnn1
      go_wp2_with fail
      refine (l1Same_is _ _ _ _ _ ((hsa).keep (hZ1.mono hB)).rd ((hsb).keep (hZ1.mono hB)).rd e2d).mono ?_
      rintro e wd2 ⟨rfl, nn2, hnn2⟩
      have hZ2 := hZ1.trans ((hnn2 ▸ wdrewN : Below _ _ wd2).mono hZ1.size)
      have hY2 : Below (w.heap.size + 1) (w.alloc (.cells #[.bool false, .slice none 0 0, .slice none 0 0, .slice none 0 0, .slice none 0 0] 95)) wd2 := hY1.trans ((hnn2 ▸ wdrewN : Below _ _ wd2).mono (by have := hY1.size; simp at this; omega))
      clear hnn2
      have hszy := hY2.size
      simp at hszy
      go_wp2_with (at_builtin; go_must (refine wpList_app_leaf slz_string.slt rfl (.tmp 14) (.tmp 15) rfl rfl (Fresh.empty (β := ByteArray) (by decide) wd2.heap.size wd2 (Nat.le_refl _)) (by simp) rfl rfl ((hsb.keep (hZ2.mono hB)).alloc _) (by simp <;> omega) (by unfold maxLen; simp <;> omega) ?_); intro a5 c5 w5 hG5; have hY9 : Below (w.heap.size + 1) (w.alloc (.cells #[.bool false, .slice none 0 0, .slice none 0 0, .slice none 0 0, .slice none 0 0] 95)) w5 := (hY2.alloc (by omega) _).trans (hG5.below.mono (by omega)); obtain ⟨x0, x1, x2, x3, x4, xf⟩ := newpart hY9)
      have hsz9 := hG5.below.size
      have hF := hG5.fresh
      rw [List.nil_append, List.length_nil, Nat.zero_add] at hF
      refine bodyPost_ret (v := .agg #[.bool false, .slice a5 b.length c5, .slice none 0 0, .slice none 0 0, .slice none 0 0]) (by simp [results, Tryz.results170, go_sem, x0, x1, x2, x3, x4]) rfl ⟨a5, c5, by rw [HL.out], ?_, ?_⟩
      · rw [HL.out]
        have hF2 := (((((hF.setCell (a := ⟨w.heap.size, 0, none⟩) (u := .bool false) (.inl (by simp; omega))).setCell (a := ⟨w.heap.size, 1, none⟩) (u := .slice a5 b.length c5) (.inl (by simp; omega))).setCell (a := ⟨w.heap.size, 2, none⟩) (u := .slice none 0 0) (.inl (by simp; omega))).setCell (a := ⟨w.heap.size, 3, none⟩) (u := .slice none 0 0) (.inl (by simp; omega))).setCell (a := ⟨w.heap.size, 4, none⟩) (u := .slice none 0 0) (.inl (by simp; omega)))
        exact (Fresh.partL hF2).now.mono (by omega) (Nat.le_refl _)
      · have hq : Below w.heap.size w w5 := hZ0.trans (hY9.mono (by omega))
        exact ((((hq.setCell (by simp) _).setCell (by simp) _).setCell (by simp) _).setCell (by simp) _).setCell (by simp) _
    · have e2d : decide (a = b) = false := decide_eq_false e2
      have h3 : b = o ∧ ls = a := by
        rcases h with ⟨h, _⟩ | ⟨_, h⟩
        · rcases h with h | h
          · exact absurd h e1
          · exact absurd h e2
        · exact h
      have e3d : decide (b = o) = true := decide_eq_true h3.1
      have HL := Lib.hid h3.2
      clear h e1 e2 h3
      have hZ0 : Below w.heap.size w (w.alloc (.cells #[.bool false, .slice none 0 0, .slice none 0 0, .slice none 0 0, .slice none 0 0] 95)) := (Below.refl _ _).alloc (Nat.le_refl _) _
      go_enter Tryz.func170, Tryz.ntmps170
      go_wp2_with fail
      refine (l1Same_is _ _ _ _ _ ((hsa).keep (hZ0.mono hB)).rd ((hso).keep (hZ0.mono hB)).rd e1d).mono ?_
      rintro e wd1 ⟨rfl, nn1, hnn1⟩
      have hZ1 := hZ0.trans ((hnn1 ▸ wdrewN : Below _ _ wd1).mono hZ0.size)
      have hY1 : Below (w.heap.size + 1) (w.alloc (.cells #[.bool false, .slice none 0 0, .slice none 0 0, .slice none 0 0, .slice none 0 0] 95)) wd1 := (hnn1 ▸ wdrewN : Below _ _ wd1).mono (by simp)
      clear hnn1
      go_wp2_with fail
      refine (l1Same_is _ _ _ _ _ ((hsa).keep (hZ1.mono hB)).rd ((hsb).keep (hZ1.mono hB)).rd e2d).mono ?_
      rintro e wd2 ⟨rfl, nn2, hnn2⟩
      have hZ2 := hZ1.trans ((hnn2 ▸ wdrewN : Below _ _ wd2).mono hZ1.size)
      have hY2 : Below (w.heap.size + 1) (w.alloc (.cells #[.bool false, .slice none 0 0, .slice none 0 0, .slice none 0 0, .slice none 0 0] 95)) wd2 := hY1.trans ((hnn2 ▸ wdrewN : Below _ _ wd2).mono (by have := hY1.size; simp at this; omega))
      clear hnn2
      go_wp2_with fail
      refine (l1Same_is _ _ _ _ _ ((hsb).keep (hZ2.mono hB)).rd ((hso).keep (hZ2.mono hB)).rd e3d).mono ?_
      rintro e wd3 ⟨rfl, nn3, hnn3⟩
      have hZ3 := hZ2.trans ((hnn3 ▸ wdrewN : Below _ _ wd3).mono hZ2.size)
      have hY3 : Below (w.heap.size + 1) (w.alloc (.cells #[.bool false, .slice none 0 0, .slice none 0 0, .slice none 0 0, .slice none 0 0] 95)) wd3 := hY2.trans ((hnn3 ▸ wdrewN : Below _ _ wd3).mono (by have := hY2.size; simp at this; omega))
      clear hnn3
      have hszy := hY3.size
      simp at hszy
      go_wp2_with (at_builtin; go_must (refine wpList_app_leaf slz_string.slt rfl (.tmp 22) (.tmp 23) rfl rfl (Fresh.empty (β := ByteArray) (by decide) wd3.heap.size wd3 (Nat.le_refl _)) (by simp) rfl rfl ((hsa.keep (hZ3.mono hB)).alloc _) (by simp <;> omega) (by unfold maxLen; simp <;> omega) ?_); intro a5 c5 w5 hG5; have hY9 : Below (w.heap.size + 1) (w.alloc (.cells #[.bool false, .slice none 0 0, .slice none 0 0, .slice none 0 0, .slice none 0 0] 95)) w5 := (hY3.alloc (by omega) _).trans (hG5.below.mono (by omega)); obtain ⟨x0, x1, x2, x3, x4, xf⟩ := newpart hY9)
      have hsz9 := hG5.below.size
      have hF := hG5.fresh
      rw [List.nil_append, List.length_nil, Nat.zero_add] at hF
      refine bodyPost_ret (v := .agg #[.bool false, .slice a5 a.length c5, .slice none 0 0, .slice none 0 0, .slice none 0 0]) (by simp [results, Tryz.results170, go_sem, x0, x1, x2, x3, x4]) rfl ⟨a5, c5, by rw [HL.out], ?_, ?_⟩
      · rw [HL.out]
        have hF2 := (((((hF.setCell (a := ⟨w.heap.size, 0, none⟩) (u := .bool false) (.inl (by simp; omega))).setCell (a := ⟨w.heap.size, 1, none⟩) (u := .slice a5 a.length c5) (.inl (by simp; omega))).setCell (a := ⟨w.heap.size, 2, none⟩) (u := .slice none 0 0) (.inl (by simp; omega))).setCell (a := ⟨w.heap.size, 3, none⟩) (u := .slice none 0 0) (.inl (by simp; omega))).setCell (a := ⟨w.heap.size, 4, none⟩) (u := .slice none 0 0) (.inl (by simp; omega)))
        exact (Fresh.partL hF2).now.mono (by omega) (Nat.le_refl _)
      · have hq : Below w.heap.size w w5 := hZ0.trans (hY9.mono (by omega))
        exact ((((hq.setCell (by simp) _).setCell (by simp) _).setCell (by simp) _).setCell (by simp) _).setCell (by simp) _
set_option maxHeartbeats 4000000 in
set_option maxRecDepth 100000 in
theorem l3PartC_any {B : Nat} (v u x : Value) (o a b : List ByteArray) (w : World) (hv : rd (fun k => k < B) w [v] o) (hu : rd (fun k => k < B) w [u] a) (hx : rd (fun k => k < B) w [x] b) (hB : B ≤ w.heap.size)
    (hlo : o.length ≤ 1000) (hla : a.length ≤ 1000) (hlb : b.length ≤ 1000) (e1 : ¬ a = o) (e2 : ¬ a = b) (e3 : ¬ b = o) :
    Calls Tryz.prog 170 #[v, u, x] w fun e w' => ∃ a2 c2 a3 c3 a4 c4, e = .returned (.agg #[.bool true, .slice none 0 0, .slice a2 o.length c2, .slice a3 a.length c3, .slice a4 b.length c4]) ∧
      Fresh w.heap.size w'.heap.size w' [.bool true, .slice none 0 0, .slice a2 o.length c2, .slice a3 a.length c3, .slice a4 b.length c4] (⟨true, [], o, a, b⟩ : Part) ∧ Below w.heap.size w w' := by
  obtain ⟨ao, co, rfl, hso⟩ := rd_slice_elim hv
  obtain ⟨aa, ca, rfl, hsa⟩ := rd_slice_elim hu
  obtain ⟨ab, cb, rfl, hsb⟩ := rd_slice_elim hx
  have e1d : decide (a = o) = false := decide_eq_false e1
  have e2d : decide (a = b) = false := decide_eq_false e2
  have e3d : decide (b = o) = false := decide_eq_false e3
  clear e1 e2 e3
  have hZ0 : Below w.heap.size w (w.alloc (.cells #[.bool false, .slice none 0 0, .slice none 0 0, .slice none 0 0, .slice none 0 0] 95)) := (Below.refl _ _).alloc (Nat.le_refl _) _
  go_enter Tryz.func170, Tryz.ntmps170
  go_wp2_with fail
  refine (l1Same_is _ _ _ _ _ ((hsa).keep (hZ0.mono hB)).rd ((hso).keep (hZ0.mono hB)).rd e1d).mono ?_
  rintro e wd1 ⟨rfl, nn1, hnn1⟩
  have hZ1 := hZ0.trans ((hnn1 ▸ wdrewN : Below _ _ wd1).mono hZ0.size)
  have hY1 : Below (w.heap.size + 1) (w.alloc (.cells #[.bool false, .slice none 0 0, .slice none 0 0, .slice none 0 0, .slice none 0 0] 95)) wd1 := (hnn1 ▸ wdrewN : Below _ _ wd1).mono (by simp)
  clear hnn1
  go_wp2_with fail
  refine (l1Same_is _ _ _ _ _ ((hsa).keep (hZ1.mono hB)).rd ((hsb).keep (hZ1.mono hB)).rd e2d).mono ?_
  rintro e wd2 ⟨rfl, nn2, hnn2⟩
  have hZ2 := hZ1.trans ((hnn2 ▸ wdrewN : Below _ _ wd2).mono hZ1.size)
  have hY2 : Below (w.heap.size + 1) (w.alloc (.cells #[.bool false, .slice none 0 0, .slice none 0 0, .slice none 0 0, .slice none 0 0] 95)) wd2 := hY1.trans ((hnn2 ▸ wdrewN : Below _ _ wd2).mono (by have := hY1.size; simp at this; omega))
  clear hnn2
  go_wp2_with fail
  refine (l1Same_is _ _ _ _ _ ((hsb).keep (hZ2.mono hB)).rd ((hso).keep (hZ2.mono hB)).rd e3d).mono ?_
  rintro e wd3 ⟨rfl, nn3, hnn3⟩
  have hZ3 := hZ2.trans ((hnn3 ▸ wdrewN : Below _ _ wd3).mono hZ2.size)
  have hY3 : Below (w.heap.size + 1) (w.alloc (.cells #[.bool false, .slice none 0 0, .slice none 0 0, .slice none 0 0, .slice none 0 0] 95)) wd3 := hY2.trans ((hnn3 ▸ wdrewN : Below _ _ wd3).mono (by have := hY2.size; simp at this; omega))
  clear hnn3
  have hszy := hY3.size
  simp at hszy
  go_wp2_with (first
    | (at_builtin; (with_reducible refine wpList_app_leaf slz_string.slt rfl (.tmp 26) (.tmp 27) rfl rfl (Fresh.empty (β := ByteArray) (by decide) wd3.heap.size wd3 (Nat.le_refl _)) (by simp) rfl rfl ((hso.keep (hZ3.mono hB)).alloc _) (by simp <;> omega) (by unfold maxLen; simp <;> omega) ?_); intro a5 c5 w5 hG5; have hY5 : Below (w.heap.size + 1) (w.alloc (.cells #[.bool false, .slice none 0 0, .slice none 0 0, .slice none 0 0, .slice none 0 0] 95)) w5 := (hY3.alloc (by omega) _).trans (hG5.below.mono (by omega)); have hZ5 : Below w.heap.size w w5 := hZ0.trans (hY5.mono (by omega)); have hz5 := hG5.below.size)
    | (at_builtin; (with_reducible refine wpList_app_leaf slz_string.slt rfl (.tmp 29) (.tmp 30) rfl rfl (Fresh.empty (β := ByteArray) (by decide) w5.heap.size w5 (Nat.le_refl _)) (by simp) rfl rfl ((hsa.keep (hZ5.mono hB)).alloc _) (by simp <;> omega) (by unfold maxLen; simp <;> omega) ?_); intro a6 c6 w6 hG6; have hY6 : Below (w.heap.size + 1) (w.alloc (.cells #[.bool false, .slice none 0 0, .slice none 0 0, .slice none 0 0, .slice none 0 0] 95)) w6 := (hY5.alloc (by simp at hz5; omega) _).trans (hG6.below.mono (by simp at hz5; omega)); have hZ6 : Below w.heap.size w w6 := hZ0.trans (hY6.mono (by omega)); have hz6 := hG6.below.size)
    | (at_builtin; go_must (refine wpList_app_leaf slz_string.slt rfl (.tmp 32) (.tmp 33) rfl rfl (Fresh.empty (β := ByteArray) (by decide) w6.heap.size w6 (Nat.le_refl _)) (by simp) rfl rfl ((hsb.keep (hZ6.mono hB)).alloc _) (by simp <;> omega) (by unfold maxLen; simp <;> omega) ?_); intro a7 c7 w7 hG7; have hY7 : Below (w.heap.size + 1) (w.alloc (.cells #[.bool false, .slice none 0 0, .slice none 0 0, .slice none 0 0, .slice none 0 0] 95)) w7 := (hY6.alloc (by simp at hz5 hz6; omega) _).trans (hG7.below.mono (by simp at hz5 hz6; omega)); have hz7 := hG7.below.size; obtain ⟨x0, x1, x2, x3, x4, xf⟩ := newpart hY7))
  simp at hz5 hz6 hz7
  have hF5 := hG5.fresh
  have hF6 := hG6.fresh
  have hF7 := hG7.fresh
  rw [List.nil_append, List.length_nil, Nat.zero_add] at hF5 hF6 hF7
  have hb6 : Below w5.heap.size w5 w6 := ((Below.refl _ _).alloc (Nat.le_refl _) _).trans hG6.below
  have hb7 : Below w6.heap.size w6 w7 := ((Below.refl _ _).alloc (Nat.le_refl _) _).trans hG7.below
  have hF5 := (hF5.below (Nat.le_refl _) hb6).below (by omega) (hb7)
  have hF6 := hF6.below (Nat.le_refl _) hb7
  refine bodyPost_ret (v := .agg #[.bool true, .slice none 0 0, .slice a5 o.length c5, .slice a6 a.length c6, .slice a7 b.length c7]) (by simp [results, Tryz.results170, go_sem, x0, x1, x2, x3, x4]) rfl ⟨a5, c5, a6, c6, a7, c7, rfl, ?_, ?_⟩
  · have hP := Fresh.partC hF5 hF6 hF7 (by omega) (by omega) (by omega)
    have hF2 := (((((hP.setCell (a := ⟨w.heap.size, 0, none⟩) (u := .bool true) (.inl (by simp; omega))).setCell (a := ⟨w.heap.size, 1, none⟩) (u := .slice none 0 0) (.inl (by simp; omega))).setCell (a := ⟨w.heap.size, 2, none⟩) (u := .slice a5 o.length c5) (.inl (by simp; omega))).setCell (a := ⟨w.heap.size, 3, none⟩) (u := .slice a6 a.length c6) (.inl (by simp; omega))).setCell (a := ⟨w.heap.size, 4, none⟩) (u := .slice a7 b.length c7) (.inl (by simp; omega)))
    exact hF2.now.mono (by omega) (Nat.le_refl _)
  · have hq : Below w.heap.size w w7 := hZ0.trans (hY7.mono (by omega))
    exact ((((hq.setCell (by simp) _).setCell (by simp) _).setCell (by simp) _).setCell (by simp) _).setCell (by simp) _
end Go.Proofs.YtegknjcifmenpaaGreatDoor
namespace Go.Proofs.YtegknjcifmenpaaGreatDoor
open Go.RowKit Go.Vc
open Go.Vc.Rep (rd)
open Go.Vc.Own (own)

set_option maxHeartbeats 4000000 in
set_option maxRecDepth 100000 in
theorem l3Of_any {S T U : Nat → Prop} (v u x : Value) (o as_ bs : List ByteArray) (w : World) (hv : rd S w [v] o) (hu : rd T w [u] as_) (hx : rd U w [x] bs) (hlo : o.length ≤ 10) (hla : as_.length ≤ 10) (hlb : bs.length ≤ 10) :
    Calls Tryz.prog 157 #[v, u, x] w fun e w' => ∃ v', e = .returned v' ∧ Fresh w.heap.size w'.heap.size w' [v'] (mergeT o as_ bs) ∧ Below w.heap.size w w' := by
  obtain ⟨a, cap, rfl, hs⟩ := rd_slice_elim (Rep.lt hv)
  obtain ⟨b, cbp, rfl, ht⟩ := rd_slice_elim (Rep.lt hu)
  obtain ⟨c, ccp, rfl, hz⟩ := rd_slice_elim (Rep.lt hx)
  have hcap := hs.1
  have hcbp := ht.1
  have hccp := hz.1
  have hb0 : Below w.heap.size w (w.alloc (.cells #[] (Tid.tid Part))) := (Below.refl _ _).alloc (Nat.le_refl _) _
  go_enter Tryz.func157, Tryz.ntmps157
  go_wp2_with fail
  refine (l1Match_any _ _ o as_ _ (hs.alloc _).rd (ht.alloc _).rd hlo hla).mono ?_
  rintro e wt1 ⟨v1, rfl, hM, hb1⟩
  obtain ⟨am, cm, rfl, _⟩ := hM.shape
  have hM := hM.mono (B' := w.heap.size + 1) (by simp) (Nat.le_refl _)
  have hb1 : Below (w.heap.size + 1) (w.alloc (.cells #[] (Tid.tid Part))) wt1 := hb1.mono (by simp)
  have hsz1 := hb1.size
  simp at hsz1
  have HML := Lib.hid (matchT_len o as_)
  go_wp2_with (at_builtin; go_must (refine wpList_app_one (xs := matchT o as_) slz_int.slt rfl (.tmp 17) (.tmp 20) rfl rfl (hM.alloc _) (le_alloc (by omega) _) rfl (heap_alloc_new _ _) (Fresh.leaf (α := Int) (m := wt1.heap.size) (own_intm (as_.length : Int) (by unfold I64; omega) _)) (by omega) (by have := HML.out; omega) (by have := HML.out; unfold maxLen; omega) ?_); intro ap cp wp1 hGp)
  have hml := HML.out
  have hP := hGp.fresh
  rw [show matchT o as_ ++ [(as_.length : Int)] = pairsT o as_ from rfl] at hP
  have hbp1 : Below (w.heap.size + 1) (w.alloc (.cells #[] (Tid.tid Part))) wp1 := (hb1.alloc (by omega) _).trans hGp.below
  have hszp1 := hbp1.size
  simp at hszp1
  obtain ⟨ps, hps⟩ : ∃ ps, ps = pairsT o as_ := ⟨_, rfl⟩
  have hpl : ps.length = o.length + 1 := by rw [hps, pairsT_len]
  have hinc : incM (as_.length + 1) 0 ps := by rw [hps]; exact matchT_inc o as_
  have HP := Lib.hid hps
  rw [← hps, hml, ← hpl] at hP
  rw [hml, ← hpl]
  have HPL := Lib.hid hpl
  have hbw1 := hb0.trans (hbp1.mono (by omega))
  clear hps hml hpl hGp hM hb1 HML
  refine (l1Match_any _ _ o bs _ (hs.keep hbw1).rd (hz.keep hbw1).rd hlo hlb).mono ?_
  rintro e wt2 ⟨v2, rfl, hM, hb2⟩
  obtain ⟨am2, cm2, rfl, _⟩ := hM.shape
  have hsz2 := hb2.size
  have HML := Lib.hid (matchT_len o bs)
  go_wp2_with (at_builtin; go_must (refine wpList_app_one (xs := matchT o bs) slz_int.slt rfl (.tmp 24) (.tmp 27) rfl rfl (hM.alloc _) (le_alloc hsz2 _) rfl (heap_alloc_new _ _) (Fresh.leaf (α := Int) (m := wt2.heap.size) (own_intm (bs.length : Int) (by unfold I64; omega) _)) hsz2 (by have := HML.out; omega) (by have := HML.out; unfold maxLen; omega) ?_); intro ap2 cp2 wp hGp)
  have hml := HML.out
  have hQ := hGp.fresh
  rw [show matchT o bs ++ [(bs.length : Int)] = pairsT o bs from rfl] at hQ
  have hbq := (hb2.alloc hsz2 _).trans hGp.below
  have hszq := hbq.size
  obtain ⟨qs, hqs⟩ : ∃ qs, qs = pairsT o bs := ⟨_, rfl⟩
  have hql : qs.length = o.length + 1 := by rw [hqs, pairsT_len]
  have hinc2 : incM (bs.length + 1) 0 qs := by rw [hqs]; exact matchT_inc o bs
  have HQ := Lib.hid hqs
  rw [← hqs, hml, ← hql] at hQ
  rw [hml, ← hql]
  have HQL := Lib.hid hql
  have hP2 := (hP.below (Nat.le_refl _) hbq)
  have hbp2 : Below (w.heap.size + 1) (w.alloc (.cells #[] (Tid.tid Part))) wp := hbp1.trans (hbq.mono (by omega))
  have hbp := hb0.trans (hbp2.mono (by omega))
  have hszp := hbp.size
  have hszp2 : w.heap.size + 1 ≤ wp.heap.size := by have := hbp2.size; simpa using this
  have hO0 : FS (fun k => k = w.heap.size) wp [.slice (some ⟨w.heap.size, 0, none⟩) 0 0] ([] : List Part) := FS.empty (by decide) ((hbp2.block w.heap.size (by omega)).trans (heap_alloc_new _ _))
  have hPs := ((rd_slice_of hP2.rd2).2).mono (S' := fun k => w.heap.size + 1 ≤ k ∧ k < wp.heap.size) (fun k hk => ⟨hk.1, by omega⟩)
  have hQs := ((rd_slice_of hQ.rd2).2).mono (S' := fun k => w.heap.size + 1 ≤ k ∧ k < wp.heap.size) (fun k hk => ⟨by omega, hk.2⟩)
  clear hqs hml hql hGp hM hb2 HML hP hQ hP2 hbq hbp1 hsz1 hsz2 hbp2 hbw1 hszq hszp1
  obtain ⟨bx, hbx⟩ : ∃ bx, bx = w.heap.size := ⟨_, rfl⟩
  go_wp2
  go_loopw [7, 10, 11, 12, 13] (fun out fo fa fb i wr => (∃ (k f p q : Nat) (ol : List Part) (ao : Option Addr) (co : Nat), k ≤ ps.length ∧ f ≤ k ∧ p ≤ as_.length + 1 ∧ q ≤ bs.length + 1 ∧ i = .int .i64 k ∧ fo = .int .i64 f ∧ fa = .int .i64 p ∧ fb = .int .i64 q ∧ out = .slice ao ol.length co ∧ FS (fun k => k = bx ∨ wp.heap.size ≤ k) wr [.slice ao ol.length co] ol ∧ SmallP ol (11 * k) ∧
      Hid (incM (as_.length + 1) p (ps.drop k)) ∧ Hid (incM (bs.length + 1) q (qs.drop k)) ∧ Hid (mergeT o as_ bs = mg o as_ bs (ps.drop k) (qs.drop k) k f p q ol)) ∧ TouchF [bx] wp wr) (fun _ _ _ _ i _ => ps.length - (intOf i).toNat)
  case atStart => exact ⟨⟨0, 0, 0, 0, [], some ⟨w.heap.size, 0, none⟩, 0, by omega, by omega, by omega, by omega, rfl, rfl, rfl, rfl, rfl, hO0.mono (fun k hk _ => .inl (by rw [hbx]; exact hk)), SmallP.nil _, hinc, hinc2, by show _ = _; rw [HP.out, HQ.out]; rfl⟩, TouchF.refl _ _⟩
  case round =>
    obtain ⟨⟨k, f, p, q, out, ao, co, hk, hf, hp, hq, rfl, rfl, rfl, rfl, rfl, hFB, hsm, HI, HJ, HD⟩, hT⟩ := hrel
    obtain ⟨wo, rfl⟩ : ∃ wo : World, wo = wr := ⟨_, rfl⟩
    have hszr := hT.size
    by_cases hlt : k < ps.length
    · have hkx : k ≤ o.length := by have := HPL.out; omega
      have hlt1 : k < o.length + 1 := by omega
      have hltq : k < qs.length := by have := HQL.out; omega
      have hPr := hPs.frame (w' := wo) (S' := fun k => w.heap.size + 1 ≤ k ∧ k < wp.heap.size) (fun k hk hl => ⟨hT.rest k hl (by simp; omega), hk⟩)
      have hQr := hQs.frame (w' := wo) (S' := fun k => w.heap.size + 1 ≤ k ∧ k < wp.heap.size) (fun k hk hl => ⟨hT.rest k hl (by simp; omega), hk⟩)
      obtain ⟨g, off, rfl, hc, _⟩ := hPr.int hlt
      obtain ⟨g', off', rfl, hc', _⟩ := hQr.int hltq
      rcases incM_at HI.out hlt with ⟨he, hI⟩ | ⟨n, he, hqm, hmy, hI⟩
      · have HN := Lib.hid (mg_neg HD.out hlt hltq (.inl (by rw [he]; omega)))
        have HI2 := Lib.hid hI
        rw [he] at hc
        have HJ2 : Hid (incM (bs.length + 1) q (qs.drop (k + 1))) := by
          show incM _ _ _
          rcases incM_at HJ.out hltq with ⟨_, h⟩ | ⟨m, _, h1, _, h2⟩
          · exact h
          · exact incM_lo (by omega) h2
        clear he hI
        go_wp2
        go_roundw
        case rel => exact ⟨⟨k + 1, f, p, q, out, ao, co, by omega, by omega, hp, hq, by go_num, rfl, rfl, rfl, rfl, hFB, hsm.mono (by omega), HI2.out, HJ2.out, HN.out⟩, hT⟩
        case measure => simp [intOf]; omega
      · rcases incM_at HJ.out hltq with ⟨he', hJ⟩ | ⟨m, he', hqm', hmy', hJ⟩
        · have HN := Lib.hid (mg_neg HD.out hlt hltq (.inr (by rw [he']; omega)))
          have HI2 := Lib.hid (incM_lo (lo' := p) (by omega) hI)
          have HJ2 := Lib.hid hJ
          rw [he] at hc
          rw [he'] at hc'
          clear he he' hI hJ
          go_wp2
          go_roundw
          case rel => exact ⟨⟨k + 1, f, p, q, out, ao, co, by omega, by omega, hp, hq, by go_num, rfl, rfl, rfl, rfl, hFB, hsm.mono (by omega), HI2.out, HJ2.out, HN.out⟩, hT⟩
          case measure => simp [intOf]; omega
        · have HX := Lib.hid (mg_put HD.out hlt hltq he he')
          have HI2 := Lib.hid hI
          have HJ2 := Lib.hid hJ
          have HEN := Lib.hid he
          have HEM := Lib.hid he'
          rw [he] at hc
          rw [he'] at hc'
          clear he he' hI hJ
          obtain ⟨c1, hc1⟩ : ∃ c1, c1 = cutF o f k := ⟨_, rfl⟩
          obtain ⟨c2, hc2⟩ : ∃ c2, c2 = cutF as_ p n := ⟨_, rfl⟩
          obtain ⟨c3, hc3⟩ : ∃ c3, c3 = cutF bs q m := ⟨_, rfl⟩
          rw [← hc1, ← hc2, ← hc3] at HX
          have hl1 : c1.length ≤ 10 := by rw [hc1]; have := cutF_le o f k; omega
          have hl2 : c2.length ≤ 10 := by rw [hc2]; have := cutF_le as_ p n; omega
          have hl3 : c3.length ≤ 10 := by rw [hc3]; have := cutF_le bs q m; omega
          have hrd1 : ∀ W, Below w.heap.size w W → rd (fun b => b < w.heap.size) W [.slice (cutA a cap f 1) (k - f) (cap - f)] c1 := fun W h => by rw [hc1]; exact cut_rd (hs.keep h) (by omega) (by omega)
          have hrd2 : ∀ W, Below w.heap.size w W → rd (fun b => b < w.heap.size) W [.slice (cutA b cbp p 1) (n - p) (cbp - p)] c2 := fun W h => by rw [hc2]; exact cut_rd (ht.keep h) (by omega) (by omega)
          have hrd3 : ∀ W, Below w.heap.size w W → rd (fun b => b < w.heap.size) W [.slice (cutA c ccp q 1) (m - q) (ccp - q)] c3 := fun W h => by rw [hc3]; exact cut_rd (hz.keep h) (by omega) (by omega)
          have R1 := Lib.hid hrd1
          have R2 := Lib.hid hrd2
          have R3 := Lib.hid hrd3
          have hct1 := cut_nat a o.length cap f k (by omega) (by omega) hcap
          have hct2 := cut_nat b as_.length cbp p n (by omega) (by omega) hcbp
          have hct3 := cut_nat c bs.length ccp q m (by omega) (by omega) hccp
          obtain ⟨out1, ho1⟩ : ∃ out1, out1 = pieceG out c1 c2 c3 := ⟨_, rfl⟩
          rw [← ho1] at HX
          have HS1 := Lib.hid (show SmallP out1 (11 * k + 10) by rw [ho1]; exact hsm.pieceG hl1 hl2 hl3)
          have HSM := Lib.hid hsm
          clear hc1 hc2 hc3 hrd1 hrd2 hrd3 hsm
          have hbW : Below w.heap.size w wo := hbp.trans (hT.below hszp (by intro x hx; simp at hx; omega))
          have hF0 := hFB.mono (T := fun x => (x = bx ∨ wp.heap.size ≤ x) ∧ x < wo.heap.size) (fun x hx hl => ⟨hx, hl⟩)
          clear hFB
          by_cases e1 : c2 = c1 ∨ c2 = c3
          · have HO1 : Hid (out1 = putL out c3) := by show _ = _; rw [ho1]; exact pieceG_two e1
            clear ho1
            go_wp2_with fail
            go_region_law (first
              | (go_simp; go_at_call 170; with_reducible refine (l3PartL_any _ _ _ c1 c2 c3 c3 _ (R1.out _ hbW.drew) (R2.out _ hbW.drew) (R3.out _ hbW.drew) hbW.drew.size (by omega) (by omega) (.inl ⟨e1, rfl⟩)).mono ?_; rintro e wL ⟨a1, c1', rfl, hP1, hb1⟩; have hszL := hb1.size)
              | (go_simp; go_at_call 169; go_must (refine (l3PutL_any _ out c3 _ (hF0.drew.below hb1 (fun _ _ h => h)) hP1.fs (fun x h1 => by have h3 : (x = bx ∨ wp.heap.size ≤ x) ∧ x < wo.heap.size := h1; simp at hszL; omega) (fun x h1 h2 _ => by have h3 : (x = bx ∨ wp.heap.size ≤ x) ∧ x < wo.heap.size := h1; have h4 : wo.drew.heap.size ≤ x ∧ x < wL.heap.size := h2; simp at h4; omega) (HSM.out.mono (by omega)) (by omega)).mono ?_); rintro e W1 ⟨v1, rfl, hFz, hBz, hrz⟩))
            all_goals
              clear hc hc' hct1 hct2 hct3
              obtain ⟨a1o, c1o, rfl, _⟩ := rd_slice_elim hFz.rd
              have hT1 : TouchF [bx] wp W1 := ((hT.more (Below.refl _ _).drew).more hb1).next hBz (fun x hx hn => hrz x hx (by intro h; have h3 : (x = bx ∨ wp.heap.size ≤ x) ∧ x < wo.heap.size := h; exact hn h3.1))
              have hF1 := hFz.mono (T := fun x => x = bx ∨ wp.heap.size ≤ x) (fun x hx _ => by rcases hx with hx | hx | hx; exact hx.1; exact .inr (by have h4 : wo.drew.heap.size ≤ x ∧ x < wL.heap.size := hx; simp at h4; omega); simp at hszL; exact .inr (by omega))
              rw [← HO1.out] at hF1
              rw [← HO1.out]
              clear hFz hBz hrz hb1 hP1
              have hbW1 : Below w.heap.size w W1 := hbp.trans (hT1.below hszp (by intro x hx; simp at hx; omega))
              have hszW := hT1.size
              by_cases ho : k < o.length
              · have HO := Lib.hid (show SmallP (putL out1 [o[k]]) (11 * k + 11) ∧ mergeT o as_ bs = mg o as_ bs (ps.drop (k + 1)) (qs.drop (k + 1)) (k + 1) (k + 1) (n + 1) (m + 1) (putL out1 [o[k]]) from
                  ⟨(HS1.out.putL (m := 1) (by simp) (by omega)).mono (by omega), by have := HX.out; rw [putO_in ho] at this; exact this⟩)
                obtain ⟨go, oo, rfl, hco, hso⟩ := (hs.keep hbW1).str ho
                have hlit : Fresh W1.heap.size (W1.heap.size + 1) (W1.alloc (.cells #[.string o[k]] (Tid.tid ByteArray))) [.slice (some ⟨W1.heap.size, 0, none⟩) 1 1] [o[k]] := by
                  have := Fresh.lit rfl W1.heap.size W1 (Nat.le_refl _) [.string o[k]] [o[k]] rfl (by unfold maxLen; simp) (fun i hi u hu => by
                    have hi0 : i = 0 := by simpa using hi
                    subst hi0
                    simp at hu
                    subst hu
                    exact ⟨rfl, rfl, hso⟩)
                  exact this
                obtain ⟨lo, hlo1⟩ : ∃ lo, lo = [o[k]] := ⟨_, rfl⟩
                have hlo3 : lo.length = 1 := by rw [hlo1]; rfl
                rw [← hlo1] at HO hlit
                have HLO := Lib.hid hlo3
                have hlp := (Fresh.partL hlit).fs
                have hlp : FS (fun b => W1.heap.size ≤ b ∧ b < W1.heap.size + 1) (W1.alloc (.cells #[.string o[k]] (Tid.tid ByteArray))) [.bool false, .slice (some ⟨W1.heap.size, 0, none⟩) lo.length 1, .slice none 0 0, .slice none 0 0, .slice none 0 0] (⟨false, lo, [], [], []⟩ : Part) := by rw [hlo3]; exact hlp
                have hbnd : ∀ x, ((x = bx ∨ wp.heap.size ≤ x) ∧ x < W1.heap.size) → x < (W1.alloc (.cells #[.string o[k]] (Tid.tid ByteArray))).heap.size := fun x h3 => by simp; omega
                have hput := l3PutL_any _ out1 lo (w := W1.alloc (.cells #[.string o[k]] (Tid.tid ByteArray))) ((hF1.mono (T := fun x => (x = bx ∨ wp.heap.size ≤ x) ∧ x < W1.heap.size) (fun x hx hl => ⟨hx, hl⟩)).alloc _) hlp hbnd (fun x h1 h2 _ => by have h3 : (x = bx ∨ wp.heap.size ≤ x) ∧ x < W1.heap.size := h1; have h4 : W1.heap.size ≤ x ∧ x < W1.heap.size + 1 := h2; omega) (HS1.out.mono (by omega)) (by omega)
                rw [hlo3] at hput
                clear hlo3 hlo1 hlp hlit
                go_wp2_with fail
                refine hput.mono ?_
                rintro e wf ⟨vf, rfl, hFz, hBz, hrz⟩
                obtain ⟨af, cf, rfl, _⟩ := rd_slice_elim hFz.rd
                have hTf : TouchF [bx] wp wf := hT1.next (((Below.refl 0 W1).alloc (Nat.zero_le _) _).trans hBz) (fun x hx hn => (hrz x (by simp; omega) (by intro h; have h3 : (x = bx ∨ wp.heap.size ≤ x) ∧ x < W1.heap.size := h; exact hn h3.1)).trans (Below.heap_alloc _ _ _ hx))
                have hFf := hFz.mono (T := fun x => x = bx ∨ wp.heap.size ≤ x) (fun x hx _ => by rcases hx with hx | hx | hx; exact hx.1; exact .inr (by have h4 : W1.heap.size ≤ x ∧ x < W1.heap.size + 1 := hx; omega); simp at hx; exact .inr (by omega))
                clear hFz hBz hrz hput hF1
                have hPf := hPs.frame (w' := wf) (S' := fun k => w.heap.size + 1 ≤ k ∧ k < wp.heap.size) (fun k hk hl => ⟨hTf.rest k hl (by simp; omega), hk⟩)
                have hQf := hQs.frame (w' := wf) (S' := fun k => w.heap.size + 1 ≤ k ∧ k < wp.heap.size) (fun k hk hl => ⟨hTf.rest k hl (by simp; omega), hk⟩)
                obtain ⟨gf, of, ef, kf, _⟩ := hPf.int hlt
                obtain ⟨gf', of', ef', kf', _⟩ := hQf.int hltq
                obtain ⟨rfl, rfl⟩ : gf = g ∧ of = off := by simpa [eq_comm] using ef
                obtain ⟨rfl, rfl⟩ : gf' = g' ∧ of' = off' := by simpa [eq_comm] using ef'
                rw [HEN.out] at kf
                rw [HEM.out] at kf'
                clear ef ef'
                go_wp2
                go_roundw
                case rel => exact ⟨⟨k + 1, k + 1, n + 1, m + 1, _, _, _, by omega, by omega, by omega, by omega, by go_num, by go_num, by go_num, by go_num, rfl, hFf, HO.out.1.mono (by omega), HI2.out, HJ2.out, HO.out.2⟩, hTf⟩
                case measure => simp [intOf]; omega
              · have HO := Lib.hid (show SmallP out1 (11 * k + 11) ∧ mergeT o as_ bs = mg o as_ bs (ps.drop (k + 1)) (qs.drop (k + 1)) (k + 1) (k + 1) (n + 1) (m + 1) out1 from
                  ⟨HS1.out.mono (by omega), by have := HX.out; rw [putO_end ho] at this; exact this⟩)
                obtain ⟨wf, rfl⟩ : ∃ wf : World, wf = W1 := ⟨_, rfl⟩
                have hFf := hF1
                have hTf := hT1
                have hPf := hPs.frame (w' := wf) (S' := fun k => w.heap.size + 1 ≤ k ∧ k < wp.heap.size) (fun k hk hl => ⟨hTf.rest k hl (by simp; omega), hk⟩)
                have hQf := hQs.frame (w' := wf) (S' := fun k => w.heap.size + 1 ≤ k ∧ k < wp.heap.size) (fun k hk hl => ⟨hTf.rest k hl (by simp; omega), hk⟩)
                obtain ⟨gf, of, ef, kf, _⟩ := hPf.int hlt
                obtain ⟨gf', of', ef', kf', _⟩ := hQf.int hltq
                obtain ⟨rfl, rfl⟩ : gf = g ∧ of = off := by simpa [eq_comm] using ef
                obtain ⟨rfl, rfl⟩ : gf' = g' ∧ of' = off' := by simpa [eq_comm] using ef'
                rw [HEN.out] at kf
                rw [HEM.out] at kf'
                clear ef ef'
                go_wp2
                go_roundw
                case rel => exact ⟨⟨k + 1, k + 1, n + 1, m + 1, _, _, _, by omega, by omega, by omega, by omega, by go_num, by go_num, by go_num, by go_num, rfl, hFf, HO.out.1.mono (by omega), HI2.out, HJ2.out, HO.out.2⟩, hTf⟩
                case measure => simp [intOf]; omega
          · by_cases e3 : c3 = c1
            · have HO1 : Hid (out1 = putL out c2) := by show _ = _; rw [ho1]; exact pieceG_one e1 e3
              clear ho1
              go_wp2_with fail
              go_region_law (first
                | (go_simp; go_at_call 170; with_reducible refine (l3PartL_any _ _ _ c1 c2 c3 c2 _ (R1.out _ hbW.drew) (R2.out _ hbW.drew) (R3.out _ hbW.drew) hbW.drew.size (by omega) (by omega) (.inr ⟨e1, e3, rfl⟩)).mono ?_; rintro e wL ⟨a1, c1', rfl, hP1, hb1⟩; have hszL := hb1.size)
                | (go_simp; go_at_call 169; go_must (refine (l3PutL_any _ out c2 _ (hF0.drew.below hb1 (fun _ _ h => h)) hP1.fs (fun x h1 => by have h3 : (x = bx ∨ wp.heap.size ≤ x) ∧ x < wo.heap.size := h1; simp at hszL; omega) (fun x h1 h2 _ => by have h3 : (x = bx ∨ wp.heap.size ≤ x) ∧ x < wo.heap.size := h1; have h4 : wo.drew.heap.size ≤ x ∧ x < wL.heap.size := h2; simp at h4; omega) (HSM.out.mono (by omega)) (by omega)).mono ?_); rintro e W1 ⟨v1, rfl, hFz, hBz, hrz⟩))
              all_goals
                clear hc hc' hct1 hct2 hct3
                obtain ⟨a1o, c1o, rfl, _⟩ := rd_slice_elim hFz.rd
                have hT1 : TouchF [bx] wp W1 := ((hT.more (Below.refl _ _).drew).more hb1).next hBz (fun x hx hn => hrz x hx (by intro h; have h3 : (x = bx ∨ wp.heap.size ≤ x) ∧ x < wo.heap.size := h; exact hn h3.1))
                have hF1 := hFz.mono (T := fun x => x = bx ∨ wp.heap.size ≤ x) (fun x hx _ => by rcases hx with hx | hx | hx; exact hx.1; exact .inr (by have h4 : wo.drew.heap.size ≤ x ∧ x < wL.heap.size := hx; simp at h4; omega); simp at hszL; exact .inr (by omega))
                rw [← HO1.out] at hF1
                rw [← HO1.out]
                clear hFz hBz hrz hb1 hP1
                have hbW1 : Below w.heap.size w W1 := hbp.trans (hT1.below hszp (by intro x hx; simp at hx; omega))
                have hszW := hT1.size
                by_cases ho : k < o.length
                · have HO := Lib.hid (show SmallP (putL out1 [o[k]]) (11 * k + 11) ∧ mergeT o as_ bs = mg o as_ bs (ps.drop (k + 1)) (qs.drop (k + 1)) (k + 1) (k + 1) (n + 1) (m + 1) (putL out1 [o[k]]) from
                    ⟨(HS1.out.putL (m := 1) (by simp) (by omega)).mono (by omega), by have := HX.out; rw [putO_in ho] at this; exact this⟩)
                  obtain ⟨go, oo, rfl, hco, hso⟩ := (hs.keep hbW1).str ho
                  have hlit : Fresh W1.heap.size (W1.heap.size + 1) (W1.alloc (.cells #[.string o[k]] (Tid.tid ByteArray))) [.slice (some ⟨W1.heap.size, 0, none⟩) 1 1] [o[k]] := by
                    have := Fresh.lit rfl W1.heap.size W1 (Nat.le_refl _) [.string o[k]] [o[k]] rfl (by unfold maxLen; simp) (fun i hi u hu => by
                      have hi0 : i = 0 := by simpa using hi
                      subst hi0
                      simp at hu
                      subst hu
                      exact ⟨rfl, rfl, hso⟩)
                    exact this
                  obtain ⟨lo, hlo1⟩ : ∃ lo, lo = [o[k]] := ⟨_, rfl⟩
                  have hlo3 : lo.length = 1 := by rw [hlo1]; rfl
                  rw [← hlo1] at HO hlit
                  have HLO := Lib.hid hlo3
                  have hlp := (Fresh.partL hlit).fs
                  have hlp : FS (fun b => W1.heap.size ≤ b ∧ b < W1.heap.size + 1) (W1.alloc (.cells #[.string o[k]] (Tid.tid ByteArray))) [.bool false, .slice (some ⟨W1.heap.size, 0, none⟩) lo.length 1, .slice none 0 0, .slice none 0 0, .slice none 0 0] (⟨false, lo, [], [], []⟩ : Part) := by rw [hlo3]; exact hlp
                  have hbnd : ∀ x, ((x = bx ∨ wp.heap.size ≤ x) ∧ x < W1.heap.size) → x < (W1.alloc (.cells #[.string o[k]] (Tid.tid ByteArray))).heap.size := fun x h3 => by simp; omega
                  have hput := l3PutL_any _ out1 lo (w := W1.alloc (.cells #[.string o[k]] (Tid.tid ByteArray))) ((hF1.mono (T := fun x => (x = bx ∨ wp.heap.size ≤ x) ∧ x < W1.heap.size) (fun x hx hl => ⟨hx, hl⟩)).alloc _) hlp hbnd (fun x h1 h2 _ => by have h3 : (x = bx ∨ wp.heap.size ≤ x) ∧ x < W1.heap.size := h1; have h4 : W1.heap.size ≤ x ∧ x < W1.heap.size + 1 := h2; omega) (HS1.out.mono (by omega)) (by omega)
                  rw [hlo3] at hput
                  clear hlo3 hlo1 hlp hlit
                  go_wp2_with fail
                  refine hput.mono ?_
                  rintro e wf ⟨vf, rfl, hFz, hBz, hrz⟩
                  obtain ⟨af, cf, rfl, _⟩ := rd_slice_elim hFz.rd
                  have hTf : TouchF [bx] wp wf := hT1.next (((Below.refl 0 W1).alloc (Nat.zero_le _) _).trans hBz) (fun x hx hn => (hrz x (by simp; omega) (by intro h; have h3 : (x = bx ∨ wp.heap.size ≤ x) ∧ x < W1.heap.size := h; exact hn h3.1)).trans (Below.heap_alloc _ _ _ hx))
                  have hFf := hFz.mono (T := fun x => x = bx ∨ wp.heap.size ≤ x) (fun x hx _ => by rcases hx with hx | hx | hx; exact hx.1; exact .inr (by have h4 : W1.heap.size ≤ x ∧ x < W1.heap.size + 1 := hx; omega); simp at hx; exact .inr (by omega))
                  clear hFz hBz hrz hput hF1
                  have hPf := hPs.frame (w' := wf) (S' := fun k => w.heap.size + 1 ≤ k ∧ k < wp.heap.size) (fun k hk hl => ⟨hTf.rest k hl (by simp; omega), hk⟩)
                  have hQf := hQs.frame (w' := wf) (S' := fun k => w.heap.size + 1 ≤ k ∧ k < wp.heap.size) (fun k hk hl => ⟨hTf.rest k hl (by simp; omega), hk⟩)
                  obtain ⟨gf, of, ef, kf, _⟩ := hPf.int hlt
                  obtain ⟨gf', of', ef', kf', _⟩ := hQf.int hltq
                  obtain ⟨rfl, rfl⟩ : gf = g ∧ of = off := by simpa [eq_comm] using ef
                  obtain ⟨rfl, rfl⟩ : gf' = g' ∧ of' = off' := by simpa [eq_comm] using ef'
                  rw [HEN.out] at kf
                  rw [HEM.out] at kf'
                  clear ef ef'
                  go_wp2
                  go_roundw
                  case rel => exact ⟨⟨k + 1, k + 1, n + 1, m + 1, _, _, _, by omega, by omega, by omega, by omega, by go_num, by go_num, by go_num, by go_num, rfl, hFf, HO.out.1.mono (by omega), HI2.out, HJ2.out, HO.out.2⟩, hTf⟩
                  case measure => simp [intOf]; omega
                · have HO := Lib.hid (show SmallP out1 (11 * k + 11) ∧ mergeT o as_ bs = mg o as_ bs (ps.drop (k + 1)) (qs.drop (k + 1)) (k + 1) (k + 1) (n + 1) (m + 1) out1 from
                    ⟨HS1.out.mono (by omega), by have := HX.out; rw [putO_end ho] at this; exact this⟩)
                  obtain ⟨wf, rfl⟩ : ∃ wf : World, wf = W1 := ⟨_, rfl⟩
                  have hFf := hF1
                  have hTf := hT1
                  have hPf := hPs.frame (w' := wf) (S' := fun k => w.heap.size + 1 ≤ k ∧ k < wp.heap.size) (fun k hk hl => ⟨hTf.rest k hl (by simp; omega), hk⟩)
                  have hQf := hQs.frame (w' := wf) (S' := fun k => w.heap.size + 1 ≤ k ∧ k < wp.heap.size) (fun k hk hl => ⟨hTf.rest k hl (by simp; omega), hk⟩)
                  obtain ⟨gf, of, ef, kf, _⟩ := hPf.int hlt
                  obtain ⟨gf', of', ef', kf', _⟩ := hQf.int hltq
                  obtain ⟨rfl, rfl⟩ : gf = g ∧ of = off := by simpa [eq_comm] using ef
                  obtain ⟨rfl, rfl⟩ : gf' = g' ∧ of' = off' := by simpa [eq_comm] using ef'
                  rw [HEN.out] at kf
                  rw [HEM.out] at kf'
                  clear ef ef'
                  go_wp2
                  go_roundw
                  case rel => exact ⟨⟨k + 1, k + 1, n + 1, m + 1, _, _, _, by omega, by omega, by omega, by omega, by go_num, by go_num, by go_num, by go_num, rfl, hFf, HO.out.1.mono (by omega), HI2.out, HJ2.out, HO.out.2⟩, hTf⟩
                  case measure => simp [intOf]; omega
            · have HO1 : Hid (out1 = out ++ [⟨true, [], c1, c2, c3⟩]) := by show _ = _; rw [ho1]; exact pieceG_clash e1 e3
              clear ho1
              go_wp2_with fail
              go_region_law (first
                | (go_simp; go_at_call 170; go_must (refine (l3PartC_any _ _ _ c1 c2 c3 _ (R1.out _ hbW.drew) (R2.out _ hbW.drew) (R3.out _ hbW.drew) hbW.drew.size (by omega) (by omega) (by omega) (fun h => e1 (.inl h)) (fun h => e1 (.inr h)) e3).mono ?_); rintro e wL ⟨a2, d2, a3, d3, a4, d4, rfl, hP1, hb1⟩; have hszL := hb1.size)
                | (go_simp; go_at_call 169; go_must (refine (l3PutC_any _ out _ _ (hF0.drew.below hb1 (fun _ _ h => h)) hP1.fs (fun x h1 => by have h3 : (x = bx ∨ wp.heap.size ≤ x) ∧ x < wo.heap.size := h1; simp at hszL; omega) (fun x h1 h2 _ => by have h3 : (x = bx ∨ wp.heap.size ≤ x) ∧ x < wo.heap.size := h1; have h4 : wo.drew.heap.size ≤ x ∧ x < wL.heap.size := h2; simp at h4; omega) (HSM.out.mono (by omega))).mono ?_); rintro e W1 ⟨v1, rfl, hFz, hBz, hrz⟩))
              all_goals
                clear hc hc' hct1 hct2 hct3
                obtain ⟨a1o, c1o, rfl, _⟩ := rd_slice_elim hFz.rd
                have hT1 : TouchF [bx] wp W1 := ((hT.more (Below.refl _ _).drew).more hb1).next hBz (fun x hx hn => hrz x hx (by intro h; have h3 : (x = bx ∨ wp.heap.size ≤ x) ∧ x < wo.heap.size := h; exact hn h3.1))
                have hF1 := hFz.mono (T := fun x => x = bx ∨ wp.heap.size ≤ x) (fun x hx _ => by rcases hx with hx | hx | hx; exact hx.1; exact .inr (by have h4 : wo.drew.heap.size ≤ x ∧ x < wL.heap.size := hx; simp at h4; omega); simp at hszL; exact .inr (by omega))
                rw [← HO1.out] at hF1
                rw [← HO1.out]
                clear hFz hBz hrz hb1 hP1
                have hbW1 : Below w.heap.size w W1 := hbp.trans (hT1.below hszp (by intro x hx; simp at hx; omega))
                have hszW := hT1.size
                by_cases ho : k < o.length
                · have HO := Lib.hid (show SmallP (putL out1 [o[k]]) (11 * k + 11) ∧ mergeT o as_ bs = mg o as_ bs (ps.drop (k + 1)) (qs.drop (k + 1)) (k + 1) (k + 1) (n + 1) (m + 1) (putL out1 [o[k]]) from
                    ⟨(HS1.out.putL (m := 1) (by simp) (by omega)).mono (by omega), by have := HX.out; rw [putO_in ho] at this; exact this⟩)
                  obtain ⟨go, oo, rfl, hco, hso⟩ := (hs.keep hbW1).str ho
                  have hlit : Fresh W1.heap.size (W1.heap.size + 1) (W1.alloc (.cells #[.string o[k]] (Tid.tid ByteArray))) [.slice (some ⟨W1.heap.size, 0, none⟩) 1 1] [o[k]] := by
                    have := Fresh.lit rfl W1.heap.size W1 (Nat.le_refl _) [.string o[k]] [o[k]] rfl (by unfold maxLen; simp) (fun i hi u hu => by
                      have hi0 : i = 0 := by simpa using hi
                      subst hi0
                      simp at hu
                      subst hu
                      exact ⟨rfl, rfl, hso⟩)
                    exact this
                  obtain ⟨lo, hlo1⟩ : ∃ lo, lo = [o[k]] := ⟨_, rfl⟩
                  have hlo3 : lo.length = 1 := by rw [hlo1]; rfl
                  rw [← hlo1] at HO hlit
                  have HLO := Lib.hid hlo3
                  have hlp := (Fresh.partL hlit).fs
                  have hlp : FS (fun b => W1.heap.size ≤ b ∧ b < W1.heap.size + 1) (W1.alloc (.cells #[.string o[k]] (Tid.tid ByteArray))) [.bool false, .slice (some ⟨W1.heap.size, 0, none⟩) lo.length 1, .slice none 0 0, .slice none 0 0, .slice none 0 0] (⟨false, lo, [], [], []⟩ : Part) := by rw [hlo3]; exact hlp
                  have hbnd : ∀ x, ((x = bx ∨ wp.heap.size ≤ x) ∧ x < W1.heap.size) → x < (W1.alloc (.cells #[.string o[k]] (Tid.tid ByteArray))).heap.size := fun x h3 => by simp; omega
                  have hput := l3PutL_any _ out1 lo (w := W1.alloc (.cells #[.string o[k]] (Tid.tid ByteArray))) ((hF1.mono (T := fun x => (x = bx ∨ wp.heap.size ≤ x) ∧ x < W1.heap.size) (fun x hx hl => ⟨hx, hl⟩)).alloc _) hlp hbnd (fun x h1 h2 _ => by have h3 : (x = bx ∨ wp.heap.size ≤ x) ∧ x < W1.heap.size := h1; have h4 : W1.heap.size ≤ x ∧ x < W1.heap.size + 1 := h2; omega) (HS1.out.mono (by omega)) (by omega)
                  rw [hlo3] at hput
                  clear hlo3 hlo1 hlp hlit
                  go_wp2_with fail
                  refine hput.mono ?_
                  rintro e wf ⟨vf, rfl, hFz, hBz, hrz⟩
                  obtain ⟨af, cf, rfl, _⟩ := rd_slice_elim hFz.rd
                  have hTf : TouchF [bx] wp wf := hT1.next (((Below.refl 0 W1).alloc (Nat.zero_le _) _).trans hBz) (fun x hx hn => (hrz x (by simp; omega) (by intro h; have h3 : (x = bx ∨ wp.heap.size ≤ x) ∧ x < W1.heap.size := h; exact hn h3.1)).trans (Below.heap_alloc _ _ _ hx))
                  have hFf := hFz.mono (T := fun x => x = bx ∨ wp.heap.size ≤ x) (fun x hx _ => by rcases hx with hx | hx | hx; exact hx.1; exact .inr (by have h4 : W1.heap.size ≤ x ∧ x < W1.heap.size + 1 := hx; omega); simp at hx; exact .inr (by omega))
                  clear hFz hBz hrz hput hF1
                  have hPf := hPs.frame (w' := wf) (S' := fun k => w.heap.size + 1 ≤ k ∧ k < wp.heap.size) (fun k hk hl => ⟨hTf.rest k hl (by simp; omega), hk⟩)
                  have hQf := hQs.frame (w' := wf) (S' := fun k => w.heap.size + 1 ≤ k ∧ k < wp.heap.size) (fun k hk hl => ⟨hTf.rest k hl (by simp; omega), hk⟩)
                  obtain ⟨gf, of, ef, kf, _⟩ := hPf.int hlt
                  obtain ⟨gf', of', ef', kf', _⟩ := hQf.int hltq
                  obtain ⟨rfl, rfl⟩ : gf = g ∧ of = off := by simpa [eq_comm] using ef
                  obtain ⟨rfl, rfl⟩ : gf' = g' ∧ of' = off' := by simpa [eq_comm] using ef'
                  rw [HEN.out] at kf
                  rw [HEM.out] at kf'
                  clear ef ef'
                  go_wp2
                  go_roundw
                  case rel => exact ⟨⟨k + 1, k + 1, n + 1, m + 1, _, _, _, by omega, by omega, by omega, by omega, by go_num, by go_num, by go_num, by go_num, rfl, hFf, HO.out.1.mono (by omega), HI2.out, HJ2.out, HO.out.2⟩, hTf⟩
                  case measure => simp [intOf]; omega
                · have HO := Lib.hid (show SmallP out1 (11 * k + 11) ∧ mergeT o as_ bs = mg o as_ bs (ps.drop (k + 1)) (qs.drop (k + 1)) (k + 1) (k + 1) (n + 1) (m + 1) out1 from
                    ⟨HS1.out.mono (by omega), by have := HX.out; rw [putO_end ho] at this; exact this⟩)
                  obtain ⟨wf, rfl⟩ : ∃ wf : World, wf = W1 := ⟨_, rfl⟩
                  have hFf := hF1
                  have hTf := hT1
                  have hPf := hPs.frame (w' := wf) (S' := fun k => w.heap.size + 1 ≤ k ∧ k < wp.heap.size) (fun k hk hl => ⟨hTf.rest k hl (by simp; omega), hk⟩)
                  have hQf := hQs.frame (w' := wf) (S' := fun k => w.heap.size + 1 ≤ k ∧ k < wp.heap.size) (fun k hk hl => ⟨hTf.rest k hl (by simp; omega), hk⟩)
                  obtain ⟨gf, of, ef, kf, _⟩ := hPf.int hlt
                  obtain ⟨gf', of', ef', kf', _⟩ := hQf.int hltq
                  obtain ⟨rfl, rfl⟩ : gf = g ∧ of = off := by simpa [eq_comm] using ef
                  obtain ⟨rfl, rfl⟩ : gf' = g' ∧ of' = off' := by simpa [eq_comm] using ef'
                  rw [HEN.out] at kf
                  rw [HEM.out] at kf'
                  clear ef ef'
                  go_wp2
                  go_roundw
                  case rel => exact ⟨⟨k + 1, k + 1, n + 1, m + 1, _, _, _, by omega, by omega, by omega, by omega, by go_num, by go_num, by go_num, by go_num, rfl, hFf, HO.out.1.mono (by omega), HI2.out, HJ2.out, HO.out.2⟩, hTf⟩
                  case measure => simp [intOf]; omega
    · have hbW : Below w.heap.size w wo := hbp.trans (hT.below hszp (by intro x hx; simp at hx; omega))
      have HE := Lib.hid (mg_end HD.out hlt)
      have hlt2 : ¬ k < o.length + 1 := by have := HPL.out; omega
      go_wp2
      go_ret
      exact ⟨_, rfl, by rw [HE.out]; exact hFB.fresh (fun x hx hl => by have hx : x = bx ∨ wp.heap.size ≤ x := hx; omega), hbW⟩
end Go.Proofs.YtegknjcifmenpaaGreatDoor
namespace Go.Proofs.YtegknjcifmenpaaGreatDoor
open Go.RowKit Go.Vc
open Go.Vc.Rep (rd)
open Go.Vc.Own (own)

set_option maxHeartbeats 4000000 in
set_option maxRecDepth 100000 in
theorem l3Text_any {S : Nat → Prop} (v : Value) (P : List Part) (w : World) (hv : rd S w [v] P) (hsm : SmallP P 121) :
    Calls Tryz.prog 156 #[v] w fun e w' => ∃ v', e = .returned (.tuple #[v', .bool (pFin (textF P [])).2]) ∧ Fresh w.heap.size w'.heap.size w' [v'] (pFin (textF P [])).1 ∧ Below w.heap.size w w' := by
  obtain ⟨a, cap, rfl, hs⟩ := rd_slice_elim (Rep.lt hv)
  have hpl := hsm.1
  go_enter Tryz.func156, Tryz.ntmps156
  go_wp2
  go_loopw [4, 5] (fun out i wr => (∃ (k : Nat) (ol : List ByteArray), k ≤ P.length ∧ i = .int .i64 k ∧ Fresh w.heap.size wr.heap.size wr [out] ol ∧ ol.length ≤ 121 * k ∧ Hid (textF P [] = textF (P.drop k) ol)) ∧ Below w.heap.size w wr) (fun _ i _ => P.length - (intOf i).toNat)
  case atStart => exact ⟨⟨0, [], by omega, rfl, (Fresh.empty (by decide) _ _ (Nat.le_refl _)).now, by simp, rfl⟩, (Below.refl _ _).alloc (Nat.le_refl _) _⟩
  case round =>
    obtain ⟨⟨k, ol, hk, rfl, hF, hol, HA⟩, hb⟩ := hrel
    obtain ⟨a2, c2, rfl, _⟩ := hF.shape
    have hsz := hb.size
    by_cases hlt : k < P.length
    · obtain ⟨g, off, a1, c1, b2, d2, b3, d3, b4, d4, rfl, x0, x1, x2, x3, x4, y1, y2, y3, y4⟩ := (hs.keep hb).part hlt
      have hsp := hsm.at hlt
      have HC := Lib.hid (textF_clash (R := textF P []) HA.out hlt)
      have HN := Lib.hid (textF_next (R := textF P []) HA.out hlt)
      obtain ⟨pp, hpp⟩ : ∃ pp, pp = P[k] := ⟨_, rfl⟩
      rw [← hpp] at x0 x1 x2 x3 x4 y1 y2 y3 y4 hsp HN HC
      clear hpp
      cases hcl : pp.clash with
      | false =>
        have HN2 := Lib.hid (HN.out hcl)
        rw [hcl] at x0
        clear hcl
        go_wp2_with (at_builtin; go_must (refine wpList_app_leaf slz_string.slt rfl (.tmp 18) (.tmp 23) rfl rfl hF hsz rfl rfl y1 (by omega) (by unfold maxLen; omega) ?_); intro a5 c5 w5 hG5)
        have hG := hG5.fresh
        go_roundw
        case rel => exact ⟨⟨k + 1, ol ++ pp.lines, by omega, by go_num, hG, by simp; omega, HN2.out⟩, hb.trans hG5.below⟩
        case measure => simp [intOf]; omega
      | true =>
        have HZ := Lib.hid (show pFin (textF P []) = ([], false) by rw [HC.out hcl]; rfl)
        rw [hcl] at x0
        clear hcl
        go_wp2
        go_ret2
        exact ⟨.slice none 0 0, by rw [HZ.out]; rfl, by rw [HZ.out]; exact Fresh.nil _ _ _ (by decide), hb⟩
    · have HE := Lib.hid (textF_end (R := textF P []) HA.out hlt)
      cases htx : textB ol with
      | false =>
        have HZ := Lib.hid (show pFin (textF P []) = ([], false) by rw [HE.out, pFin, if_neg (by rw [htx]; simp)])
        go_wp2_with fail
        refine (l1Ok_is _ _ _ hF.rd htx).mono ?_
        rintro e w' ⟨rfl, rfl⟩
        clear htx
        go_wp2
        go_ret2
        exact ⟨.slice none 0 0, by rw [HZ.out]; rfl, by rw [HZ.out]; exact Fresh.nil _ _ _ (by decide), hb⟩
      | true =>
        have HZ := Lib.hid (show pFin (textF P []) = (ol, true) by rw [HE.out, pFin, if_pos htx])
        go_wp2_with fail
        refine (l1Ok_is _ _ _ hF.rd htx).mono ?_
        rintro e w' ⟨rfl, rfl⟩
        clear htx
        go_wp2
        go_ret2
        exact ⟨_, by rw [HZ.out]; rfl, by rw [HZ.out]; exact hF, hb⟩



end Go.Proofs.YtegknjcifmenpaaGreatDoor
