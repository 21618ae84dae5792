/-
  Walks: a file put into the midst of an own slice of files (the library's own text).
-/
import Derived.Test.YtfpneepnnoldeaaDoorIns
import Derived.Test.YtfpneepnnoldeaaDoorVL
import Derived.Test.YtfpneepnnoldeaaDoorVC
import Derived.Deep.RegionHeld3
import Derived.Lib.Overlaps
import Derived.Laws.CopyOwn
set_option linter.unusedVariables false
namespace Go.Proofs.YtfpneepnnoldeaaDoor
open Go.RowKit Go.Vc
open Go.Vc.Rep (rd)
open Go.Vc.Own (own)
/-- at the end -/
theorem insert_end {B m m1 : Nat} (v : Value) (xs : List File) (w : World) (h : Fresh B m w [v] xs) (hB : B ≤ w.heap.size) {vb : Nat} {vs : List Value} {te : TypeId} {y : File} (hvb : w.heap[vb]? = some (.cells vs.toArray te (0, 0))) (hy : Fresh m m1 w vs y) (hBm : B ≤ m) (hl : xs.length ≤ 1000) :
    Calls Tryd.prog 110 #[v, .int .i64 xs.length, .slice (some ⟨vb, 0, none⟩) 1 1] w fun e w' => ∃ a' c', e = .returned (.slice a' (xs.length + 1) c') ∧ Fresh B w'.heap.size w' [.slice a' (xs.length + 1) c'] (xs.take xs.length ++ y :: xs.drop xs.length) ∧ Below B w w' := by
  obtain ⟨a, cap, rfl, hs⟩ := h.shape
  have hct := run_cut slz_file.slt a xs.length cap xs.length (Nat.le_refl _)
  clear hs
  go_enter Tryd.func110, Tryd.ntmps110
  go_wp2_with (at_builtin; go_must (refine wpList_app_one slz_file.slt rfl (.tmp 23) (.tmp 24) rfl rfl h hB rfl hvb hy hBm (by omega) (by unfold maxLen; omega) ?_); intro a5 c5 w5 hG5)
  go_ret
  exact ⟨_, _, rfl, by rw [List.take_length, List.drop_length]; exact hG5.fresh, hG5.below⟩
set_option maxHeartbeats 4000000 in
set_option maxRecDepth 100000 in
/-- in the midst, no room -/
theorem insert_grow {B m m1 : Nat} (g cap k : Nat) (xs : List File) (w : World) (h : Fresh B m w [.slice (some ⟨g, 0, none⟩) xs.length cap] xs) (hB : B ≤ w.heap.size) {vb : Nat} {vs : List Value} {te : TypeId} {y : File} (hvb : w.heap[vb]? = some (.cells vs.toArray te (0, 0))) (hy : Fresh m m1 w vs y) (hBm : B ≤ m) (hvm : m ≤ vb) (hl : xs.length ≤ 1000) (hk : k < xs.length) (hc : ¬ xs.length + 1 ≤ cap) :
    Calls Tryd.prog 110 #[.slice (some ⟨g, 0, none⟩) xs.length cap, .int .i64 k, .slice (some ⟨vb, 0, none⟩) 1 1] w fun e w' => ∃ a' c', e = .returned (.slice a' (xs.length + 1) c') ∧ Fresh B w'.heap.size w' [.slice a' (xs.length + 1) c'] (xs.take k ++ y :: xs.drop k) ∧ Below B w w' := by
  obtain ⟨cur, cells, hg, hBg, hgm, hcs, hnc, hcm, hcl, htk, h1c, hvl, h1v, HF⟩ := h.cut hy (k := k) (by omega)
  rw [show Rep.sz File = 2 from rfl] at hcs hcl htk hvl HF
  obtain ⟨i, z, hi, hz0, hsz, hby, hzs⟩ := slz_file.slt.hi
  rw [show Rep.sz File = 2 from rfl] at hsz hzs
  have hgl := (Array.getElem?_eq_some_iff.1 hg).1
  have hcell : ∀ j u, cells[j]? = some u → w.cell? ⟨g, j, none⟩ = some u := fun j u hj => by
    rw [cell_of_row w g j cur _ (0, 0) hg]
    rw [← htk, List.getElem?_take] at hj
    split at hj
    · simpa using hj
    · cases hj
  have hold : (Builtin.firstCells i.size k (.slice (some ⟨g, 0, none⟩) k cap)).run Tryd.prog w.drew = .ok (cells.take (k * 2)).toArray w.drew := by
    rw [hsz]
    refine run_firstCells_some w.drew 2 k ⟨g, 0, none⟩ k cap (cells.take (k * 2)) (by rw [List.length_take]; omega) (fun j v hj => ?_)
    rw [Addr.add_lit, Nat.zero_add]
    rw [List.getElem?_take] at hj
    split at hj
    · exact hcell j v hj
    · cases hj
  obtain ⟨G, hG⟩ : ∃ G, G = grownCap w (xs.length + 1) cap (Tid.tid File) := ⟨_, rfl⟩
  have hGn : xs.length + 1 ≤ G := by rw [hG]; exact grownCap_ge w _ _ _
  have hGm : G ≤ maxLen := by rw [hG]; exact grownCap_le_maxLen w _ _ _ (by unfold maxLen; omega)
  obtain ⟨A1, hA1⟩ : ∃ A1 : Array Value, A1 = (cells.take (k * 2)).toArray ++ Builtin.zeroCells z.cells (xs.length + 1 - k) ++ Builtin.zeroCells z.cells (G - (xs.length + 1)) := ⟨_, rfl⟩
  have hA1s : A1.size = G * 2 := by
    rw [hA1]
    simp only [Array.size_append, List.size_toArray, size_zeroCells, hzs, List.length_take, hcl]
    omega
  have hA1t : A1.toList.take (k * 2) = cells.take (k * 2) := by
    rw [hA1, Array.toList_append, Array.toList_append, List.append_assoc]
    exact List.take_left' (by simp; omega)
  have hs2 : (Tryd.prog.info? (Tid.tid File)).map (·.size) = some 2 := by rw [hi]; simp [hsz]
  have hrz : ∀ ty, (Builtin.append_ #[33, 3] ty #[.slice (some ⟨g, 0, none⟩) k cap, .int .i64 ((xs.length : Int) + 1 - (k : Int))]).run Tryd.prog w = .ok (.slice (some ⟨w.heap.size, 0, none⟩) (xs.length + 1) G) (w.drew.alloc (.cells A1 (Tid.tid File))) := fun ty => by
    have h := Lib.run_append_grow_zeros w 33 3 ty (Tid.tid File) i z .i64 .i64 slz_file.slt.ht Tryd.underlying3 hi hz0 (some ⟨g, 0, none⟩) k cap _ hold (xs.length + 1 - k) (by omega) (by omega) (by omega) (by omega) (by rw [hby]; omega) (by rw [hby, show k + (xs.length + 1 - k) = xs.length + 1 by omega]; exact growslice_fits (by omega) (by omega))
    rw [show k + (xs.length + 1 - k) = xs.length + 1 by omega, ← hG, ← hA1] at h
    rw [show (xs.length : Int) + 1 - (k : Int) = ((xs.length + 1 - k : Nat) : Int) by omega]
    exact h
  obtain ⟨W1, hW1⟩ : ∃ W1, W1 = w.drew.alloc (.cells A1 (Tid.tid File)) := ⟨_, rfl⟩
  have hg1 : W1.heap[w.heap.size]? = some (.cells A1 (Tid.tid File) (0, 0)) := by rw [hW1]; exact heap_alloc_new w.drew _
  have ho1 : ∀ b, b < w.heap.size → W1.heap[b]? = w.heap[b]? := fun b hb => by rw [hW1]; exact Below.heap_alloc w.drew _ b hb
  have hB1 : Below B w W1 := by rw [hW1]; exact (Below.refl B w).drew.alloc hB _
  have hvbl := (Array.getElem?_eq_some_iff.1 hvb).1
  have hvsrc : ∀ j u, vs[j]? = some u → W1.cell? ⟨vb, j, none⟩ = some u := fun j u hj => by
    rw [World.cell?_of_block (w := w) (ho1 vb hvbl), cell_of_row w vb j _ _ (0, 0) hvb]
    simpa using hj
  obtain ⟨A2, hA2⟩ : ∃ A2 : Array Value, A2 = (A1.toList.take (k * 2) ++ vs ++ A1.toList.drop (k * 2 + vs.length)).toArray := ⟨_, rfl⟩
  have hcA : ∀ ty, (Builtin.copy_ #[33, 33] ty #[.slice (some ⟨w.heap.size, k * 2, none⟩) (xs.length + 1 - k) (G - k), .slice (some ⟨vb, 0, none⟩) 1 1]).run Tryd.prog W1 = .ok (goInt (Nat.min 1 (xs.length + 1 - k))) (W1.setRow w.heap.size A2) := fun ty => by
    rw [hA2]
    exact run_copy_rowZ W1 _ _ ty (Tid.tid File) w.heap.size (k * 2) _ _ ⟨vb, 0, none⟩ 1 1 A1 _ vs 2 slz_file.slt.ht hs2 hg1 (by rw [hvl]; show 2 = min 1 (xs.length + 1 - k) * 2; rw [Nat.min_eq_left (by omega)]) (fun j u hj => by rw [Addr.add_lit, Nat.zero_add]; exact hvsrc j u hj) (by rw [hvl, hA1s]; omega) h1v
  obtain ⟨W2, hW2⟩ : ∃ W2, W2 = W1.setRow w.heap.size A2 := ⟨_, rfl⟩
  have hg2 : W2.heap[w.heap.size]? = some (.cells A2 (Tid.tid File) (0, 0)) := by rw [hW2]; exact setRow_heap W1 _ A1 A2 _ _ hg1
  have ho2 : ∀ b, b < w.heap.size → W2.heap[b]? = w.heap[b]? := fun b hb => by rw [hW2, setRow_other _ _ _ _ (by omega)]; exact ho1 b hb
  have hB2 : Below B w W2 := by rw [hW2]; exact below_setRow hB1 hB _
  have hA2s : A2.size = G * 2 := by rw [hA2]; simp only [List.size_toArray, List.length_append, List.length_take, List.length_drop, Array.length_toList, hvl, hA1s]; omega
  have hdl : (cells.drop (k * 2)).length = (xs.length - k) * 2 := by rw [List.length_drop, hcl]; omega
  obtain ⟨A3, hA3⟩ : ∃ A3 : Array Value, A3 = (A2.toList.take ((k + 1) * 2) ++ cells.drop (k * 2) ++ A2.toList.drop ((k + 1) * 2 + (cells.drop (k * 2)).length)).toArray := ⟨_, rfl⟩
  have hcB : ∀ ty, (Builtin.copy_ #[33, 33] ty #[.slice (some ⟨w.heap.size, (k + 1) * 2, none⟩) (xs.length - k) (G - (k + 1)), .slice (some ⟨g, k * 2, none⟩) (xs.length - k) (cap - k)]).run Tryd.prog W2.drew = .ok (goInt (Nat.min (xs.length - k) (xs.length - k))) (W2.drew.setRow w.heap.size A3) := fun ty => by
    rw [hA3]
    exact run_copy_rowZ W2.drew _ _ ty (Tid.tid File) w.heap.size ((k + 1) * 2) _ _ ⟨g, k * 2, none⟩ _ _ A2 _ (cells.drop (k * 2)) 2 slz_file.slt.ht hs2 hg2 (by rw [hdl]; show (xs.length - k) * 2 = min (xs.length - k) (xs.length - k) * 2; rw [Nat.min_self]) (fun j u hj => by
      rw [Addr.add_lit]
      have hj2 : cells[k * 2 + j]? = some u := by rwa [List.getElem?_drop] at hj
      exact (World.cell?_of_block (w := w) (w' := W2.drew) (ho2 g hgl)).trans (hcell _ u hj2)) (by rw [hdl, hA2s]; omega) (fun u hu => h1c u (List.mem_of_mem_drop hu))
  have hA3s : A3.size = G * 2 := by rw [hA3]; simp only [List.size_toArray, List.length_append, List.length_take, List.length_drop, Array.length_toList, hcl, hA2s]; omega
  have hfin : Fresh B (W2.drew.setRow w.heap.size A3).heap.size (W2.drew.setRow w.heap.size A3) [.slice (some ⟨w.heap.size, 0, none⟩) (xs.length + 1) G] (xs.take k ++ y :: xs.drop k) := by
    refine HF (setRow_heap W2.drew _ A2 A3 _ _ hg2) hA3s hGn hGm ?_ (.inr (Nat.le_refl _)) (fun b hb _ => by rw [setRow_other _ _ _ _ (by omega)]; exact ho2 b hb) hB hBm
    have e1 : (k + 1) * 2 = k * 2 + vs.length := by rw [hvl]; omega
    have e2 : (xs.length + 1) * 2 = cells.length + vs.length := by rw [hvl, hcl]; omega
    rw [hA3, e2, hA2]
    simp only [e1]
    exact ins_cells hA1t (by rw [hcl]; omega) (by rw [hvl, Array.length_toList, hA1s]; omega)
  have hBf : Below B w (W2.drew.setRow w.heap.size A3) := below_setRow hB2.drew hB _
  have hcut : ∀ (a : Nat) (n c j : Nat) (hj : j ≤ n) (hne : c ≠ j) (w : World), (Instr.slice 33 (.slice (some ⟨a, 0, none⟩) n c) (some (.int .i64 (j : Int))) none none).run Tryd.prog w = .ok (.slice (some ⟨a, j * 2, none⟩) (n - j) (c - j)) w := fun a n c j hj hne w => by
    rw [run_cut slz_file.slt _ n c j hj]
    unfold cutA
    rw [if_neg hne]
    simp only [Option.map_some, addr_add, Nat.zero_add]
    rfl
  have c1 := hcut g xs.length cap k (by omega) (by omega)
  have c2 := hcut w.heap.size (xs.length + 1) G k (by omega) (by omega)
  have c3 : ∀ w' : World, (Instr.slice 33 (.slice (some ⟨w.heap.size, 0, none⟩) (xs.length + 1) G) (some (.int .i64 ((k : Int) + 1))) none none).run Tryd.prog w' = .ok (.slice (some ⟨w.heap.size, (k + 1) * 2, none⟩) (xs.length - k) (G - (k + 1))) w' := fun w' => by
    have := hcut w.heap.size (xs.length + 1) G (k + 1) (by omega) (by omega) w'
    rwa [show xs.length + 1 - (k + 1) = xs.length - k by omega] at this
  have c0 := run_cut0 slz_file.slt (some ⟨g, 0, none⟩) xs.length cap k (by omega)
  have e1 : IntKind.i64.wrap ((xs.length : Int) + 1) = (xs.length : Int) + 1 := IntWalk.i64_in _ (by omega)
  have e2 : IntKind.i64.wrap ((k : Int) + 1) = (k : Int) + 1 := IntWalk.i64_in _ (by omega)
  have e3 : IntKind.i64.wrap ((xs.length : Int) + 1 - (k : Int)) = (xs.length : Int) + 1 - (k : Int) := IntWalk.i64_in _ (by omega)
  have h9 : ((k : Int) == (xs.length : Int)) = false := by rw [beq_eq_false_iff_ne]; omega
  have h8 : decide ((cap : Int) < (xs.length : Int) + 1) = true := decide_eq_true (by omega)
  have HFF := Lib.hid hfin
  rw [← hW1] at hrz
  rw [← hW2] at hcA
  clear hG hA1 hA2 hA3 hA1s hA2s hA3s hA1t hs2 hW1 hg1 ho1 hB1 hvsrc hW2 hg2 ho2 hB2 hdl hcut hold hcell HF htk hcl hvl hcs hsz hby hzs hi hz0 hfin h1c h1v h hy
  go_enter Tryd.func110, Tryd.ntmps110
  go_wp2_with (first
    | (at_builtin; refine wpList_append_is rfl (.tmp 34) (.tmp 39) 33 3 rfl rfl rfl hrz ?_)
    | (at_builtin; refine wpList_copy_is rfl (.tmp 43) (.tmp 44) 33 33 rfl rfl rfl hcA ?_))
  go_region_law (refine step_copy_is rfl (.tmp 50) (.tmp 53) 33 33 rfl (v := .slice (some ⟨w.heap.size, (k + 1) * 2, none⟩) (xs.length - k) (G - (k + 1))) (u := .slice (some ⟨g, k * 2, none⟩) (xs.length - k) (cap - k)) (by simp [Act.eval, Act.put]) (by simp [Act.eval, Act.put]) hcB ?_)
  all_goals
    go_wp2
    go_ret
    exact ⟨_, _, rfl, HFF.out, hBf⟩
set_option maxHeartbeats 4000000 in
set_option maxRecDepth 100000 in
/-- in the midst, in place -/
theorem insert_room {B m m1 : Nat} (g cap k : Nat) (xs : List File) (w : World) (h : Fresh B m w [.slice (some ⟨g, 0, none⟩) xs.length cap] xs) (hB : B ≤ w.heap.size) {vb : Nat} {vs : List Value} {te : TypeId} {y : File} (hvb : w.heap[vb]? = some (.cells vs.toArray te (0, 0))) (hy : Fresh m m1 w vs y) (hBm : B ≤ m) (hvm : m ≤ vb) (hl : xs.length ≤ 1000) (hk : k < xs.length) (hc : xs.length + 1 ≤ cap) :
    Calls Tryd.prog 110 #[.slice (some ⟨g, 0, none⟩) xs.length cap, .int .i64 k, .slice (some ⟨vb, 0, none⟩) 1 1] w fun e w' => ∃ a' c', e = .returned (.slice a' (xs.length + 1) c') ∧ Fresh B w'.heap.size w' [.slice a' (xs.length + 1) c'] (xs.take k ++ y :: xs.drop k) ∧ Below B w w' := by
  obtain ⟨cur, cells, hg, hBg, hgm, hcs, hnc, hcm, hcl, htk, h1c, hvl, h1v, HF⟩ := h.cut hy (k := k) (by omega)
  rw [show Rep.sz File = 2 from rfl] at hcs hcl htk hvl HF
  obtain ⟨i, z, hi, hz0, hsz, hby, hzs⟩ := slz_file.slt.hi
  rw [show Rep.sz File = 2 from rfl] at hsz hzs
  have hgl := (Array.getElem?_eq_some_iff.1 hg).1
  have hcell : ∀ j u, cells[j]? = some u → w.cell? ⟨g, j, none⟩ = some u := fun j u hj => by
    rw [cell_of_row w g j cur _ (0, 0) hg]
    rw [← htk, List.getElem?_take] at hj
    split at hj
    · simpa using hj
    · cases hj
  have hs2 : (Tryd.prog.info? (Tid.tid File)).map (·.size) = some 2 := by rw [hi]; simp [hsz]
  have hvbl := (Array.getElem?_eq_some_iff.1 hvb).1
  have hcurt : cur.toList.take (k * 2) = cells.take (k * 2) := by
    rw [← htk, List.take_take]
    congr 1
    omega
  have hdl : (cells.drop (k * 2)).length = (xs.length - k) * 2 := by rw [List.length_drop, hcl]; omega
  have hov : (callFunc 126 #[.slice (some ⟨vb, 0, none⟩) 1 1, .slice (some ⟨g, (k + 1) * 2, none⟩) (xs.length - k) (cap - (k + 1))]).run Tryd.prog w = .ok (.value (.bool false)) w := by
    have hsa : w.shape? vb = some (te, vs.length) := by simp [World.shape?, hvb]
    have hsb : w.shape? g = some (Tid.tid File, cur.size) := by simp [World.shape?, hg]
    rw [run_callFunc_extern Tryd.func126 (by kernel_rfl) (by kernel_rfl) (by kernel_rfl) (e := Extern.SlicesOverlaps.overlaps #[33, 33] #[4]) (by kernel_rfl),
      Lib.run_overlaps_apart w 33 4 (Tid.tid File) slz_file.slt.ht 2 (fun w => by simp [sizeOf, typeInfo, hi, hsz]) ⟨vb, 0, none⟩ ⟨g, (k + 1) * 2, none⟩ 1 1 (xs.length - k) (cap - (k + 1)) (by show vb ≠ g; omega) te (Tid.tid File) vs.length cur.size hsa hsb (by rw [hcs]; omega) (frozen_of_row w vb _ _ _ hvb) (frozen_of_row w vb _ _ _ hvb)]
    rfl
  obtain ⟨A2, hA2⟩ : ∃ A2 : Array Value, A2 = (cur.toList.take ((k + 1) * 2) ++ cells.drop (k * 2) ++ cur.toList.drop ((k + 1) * 2 + (cells.drop (k * 2)).length)).toArray := ⟨_, rfl⟩
  have hcA : ∀ ty, (Builtin.copy_ #[33, 33] ty #[.slice (some ⟨g, (k + 1) * 2, none⟩) (xs.length - k) (cap - (k + 1)), .slice (some ⟨g, k * 2, none⟩) (xs.length + 1 - k) (cap - k)]).run Tryd.prog w.drew = .ok (goInt (Nat.min (xs.length + 1 - k) (xs.length - k))) (w.drew.setRow g A2) := fun ty => by
    rw [hA2]
    exact run_copy_rowZ w.drew _ _ ty (Tid.tid File) g ((k + 1) * 2) _ _ ⟨g, k * 2, none⟩ _ _ cur _ (cells.drop (k * 2)) 2 slz_file.slt.ht hs2 hg (by rw [hdl]; show (xs.length - k) * 2 = min (xs.length + 1 - k) (xs.length - k) * 2; rw [Nat.min_eq_right (by omega)]) (fun j u hj => by
      rw [Addr.add_lit]
      have hj2 : cells[k * 2 + j]? = some u := by rwa [List.getElem?_drop] at hj
      exact hcell _ u hj2) (by rw [hdl, hcs]; omega) (fun u hu => h1c u (List.mem_of_mem_drop hu))
  obtain ⟨W2, hW2⟩ : ∃ W2, W2 = w.drew.setRow g A2 := ⟨_, rfl⟩
  have hg2 : W2.heap[g]? = some (.cells A2 (Tid.tid File) (0, 0)) := by rw [hW2]; exact setRow_heap w.drew _ cur A2 _ _ hg
  have ho2 : ∀ b, b ≠ g → W2.heap[b]? = w.heap[b]? := fun b hb => by rw [hW2, setRow_other _ _ _ _ hb]; rfl
  have hB2 : Below B w W2 := by rw [hW2]; exact below_setRow (Below.refl B w).drew hBg _
  have hA2s : A2.size = cap * 2 := by rw [hA2]; simp only [List.size_toArray, List.length_append, List.length_take, List.length_drop, Array.length_toList, hcl, hcs]; omega
  obtain ⟨A3, hA3⟩ : ∃ A3 : Array Value, A3 = (A2.toList.take (k * 2) ++ vs ++ A2.toList.drop (k * 2 + vs.length)).toArray := ⟨_, rfl⟩
  have hcB : ∀ ty, (Builtin.copy_ #[33, 33] ty #[.slice (some ⟨g, k * 2, none⟩) (xs.length + 1 - k) (cap - k), .slice (some ⟨vb, 0, none⟩) 1 1]).run Tryd.prog W2 = .ok (goInt (Nat.min 1 (xs.length + 1 - k))) (W2.setRow g A3) := fun ty => by
    rw [hA3]
    exact run_copy_rowZ W2 _ _ ty (Tid.tid File) g (k * 2) _ _ ⟨vb, 0, none⟩ 1 1 A2 _ vs 2 slz_file.slt.ht hs2 hg2 (by rw [hvl]; show 2 = min 1 (xs.length + 1 - k) * 2; rw [Nat.min_eq_left (by omega)]) (fun j u hj => by
      rw [Addr.add_lit, Nat.zero_add, World.cell?_of_block (w := w) (ho2 vb (by omega)), cell_of_row w vb j _ _ (0, 0) hvb]
      simpa using hj) (by rw [hvl, hA2s]; omega) h1v
  have hA3s : A3.size = cap * 2 := by rw [hA3]; simp only [List.size_toArray, List.length_append, List.length_take, List.length_drop, Array.length_toList, hvl, hA2s]; omega
  have hfin : Fresh B (W2.setRow g A3).heap.size (W2.setRow g A3) [.slice (some ⟨g, 0, none⟩) (xs.length + 1) cap] (xs.take k ++ y :: xs.drop k) := by
    refine HF (setRow_heap W2 _ A2 A3 _ _ hg2) hA3s hc hcm ?_ (.inl rfl) (fun b _ hb => by rw [setRow_other _ _ _ _ hb]; exact ho2 b hb) hBg hBm
    have e1 : (k + 1) * 2 = k * 2 + vs.length := by rw [hvl]; omega
    have e2 : (xs.length + 1) * 2 = cells.length + vs.length := by rw [hvl, hcl]; omega
    rw [hA3, e2, hA2]
    simp only [e1]
    exact ins_cells2 hcurt (by rw [hcl]; omega) (by rw [hvl, Array.length_toList, hcs]; omega)
  have hBf : Below B w (W2.setRow g A3) := below_setRow hB2 hBg _
  have hcut : ∀ (a : Nat) (n c j : Nat) (hj : j ≤ n) (hne : c ≠ j) (w : World), (Instr.slice 33 (.slice (some ⟨a, 0, none⟩) n c) (some (.int .i64 (j : Int))) none none).run Tryd.prog w = .ok (.slice (some ⟨a, j * 2, none⟩) (n - j) (c - j)) w := fun a n c j hj hne w => by
    rw [run_cut slz_file.slt _ n c j hj]
    unfold cutA
    rw [if_neg hne]
    simp only [Option.map_some, addr_add, Nat.zero_add]
    rfl
  have c1 := hcut g xs.length cap k (by omega) (by omega)
  have c2 := hcut g (xs.length + 1) cap k (by omega) (by omega)
  have c3 : ∀ w' : World, (Instr.slice 33 (.slice (some ⟨g, 0, none⟩) (xs.length + 1) cap) (some (.int .i64 ((k : Int) + 1))) none none).run Tryd.prog w' = .ok (.slice (some ⟨g, (k + 1) * 2, none⟩) (xs.length - k) (cap - (k + 1))) w' := fun w' => by
    have := hcut g (xs.length + 1) cap (k + 1) (by omega) (by omega) w'
    rwa [show xs.length + 1 - (k + 1) = xs.length - k by omega] at this
  have c0 : ∀ w' : World, (Instr.slice 33 (.slice (some ⟨g, 0, none⟩) xs.length cap) none (some (.int .i64 ((xs.length : Int) + 1))) none).run Tryd.prog w' = .ok (.slice (some ⟨g, 0, none⟩) (xs.length + 1) cap) w' := run_cut0 slz_file.slt (some ⟨g, 0, none⟩) xs.length cap (xs.length + 1) hc
  have e1 : IntKind.i64.wrap ((xs.length : Int) + 1) = (xs.length : Int) + 1 := IntWalk.i64_in _ (by omega)
  have e2 : IntKind.i64.wrap ((k : Int) + 1) = (k : Int) + 1 := IntWalk.i64_in _ (by omega)
  have h9 : ((k : Int) == (xs.length : Int)) = false := by rw [beq_eq_false_iff_ne]; omega
  have h8 : decide ((cap : Int) < (xs.length : Int) + 1) = false := decide_eq_false (by omega)
  have HFF := Lib.hid hfin
  rw [← hW2] at hcA
  clear hA2 hA3 hA2s hA3s hs2 hW2 hg2 ho2 hB2 hdl hcut hcell HF htk hcl hvl hcs hsz hby hzs hi hz0 hfin h1c h1v h hy hcurt
  go_enter Tryd.func110, Tryd.ntmps110
  go_wp2_with (first
    | simp only [hov]
    | (at_builtin; refine wpList_copy_is rfl (.tmp 80) (.tmp 81) 33 33 rfl rfl rfl hcB ?_))
  go_region_law (refine step_copy_is rfl (.tmp 73) (.tmp 76) 33 33 rfl (v := .slice (some ⟨g, (k + 1) * 2, none⟩) (xs.length - k) (cap - (k + 1))) (u := .slice (some ⟨g, k * 2, none⟩) (xs.length + 1 - k) (cap - k)) (by simp [Act.eval, Act.put]) (by simp [Act.eval, Act.put]) hcA ?_)
  all_goals
    go_wp2_with (at_builtin; refine wpList_copy_is rfl (.tmp 80) (.tmp 81) 33 33 rfl rfl rfl hcB ?_)
    go_ret
    exact ⟨_, _, rfl, HFF.out, hBf⟩
/-- a file put in at any place -/
theorem insert_file {B m m1 : Nat} (v : Value) (k : Nat) (xs : List File) (w : World) (h : Fresh B m w [v] xs) (hB : B ≤ w.heap.size) {vb : Nat} {vs : List Value} {te : TypeId} {y : File} (hvb : w.heap[vb]? = some (.cells vs.toArray te (0, 0))) (hy : Fresh m m1 w vs y) (hBm : B ≤ m) (hvm : m ≤ vb) (hl : xs.length ≤ 1000) (hk : k ≤ xs.length) :
    Calls Tryd.prog 110 #[v, .int .i64 k, .slice (some ⟨vb, 0, none⟩) 1 1] w fun e w' => ∃ a' c', e = .returned (.slice a' (xs.length + 1) c') ∧ Fresh B w'.heap.size w' [.slice a' (xs.length + 1) c'] (xs.take k ++ y :: xs.drop k) ∧ Below B w w' := by
  by_cases hke : k = xs.length
  · subst hke
    exact insert_end v xs w h hB hvb hy hBm hl
  · obtain ⟨a, cap, rfl, hs⟩ := h.shape
    obtain ⟨g, rfl, _⟩ := h.addr (by omega)
    by_cases hc : xs.length + 1 ≤ cap
    · exact insert_room g cap k xs w h hB hvb hy hBm hvm hl (by omega) hc
    · exact insert_grow g cap k xs w h hB hvb hy hBm hvm hl (by omega) hc
end Go.Proofs.YtfpneepnnoldeaaDoor
