/-
  Walks: what the law of a file set draws.
-/
import Derived.Test.YtfpneepnnoldeaaDoorDrawTL
import Derived.Test.YtfpneepnnoldeaaDoorWTreeS
set_option linter.unusedVariables false
namespace Go
/-- a result in a variable, and one in a box -/
theorem results_tmp_row {P : Program} {fn : Func} {u p : Tmp} {ty : TypeId} (h : fn.results = #[.tmp u, .cell p ty]) (tmps : Array Value) (w : World) (g : Nat) (t : TypeId) (cs : Array Value) (fr : Nat × Nat) (d : TypeDesc)
    (hp : tmps.getD p undef = .pointer (some ⟨g, 0, none⟩)) (hg : w.heap[g]? = some (.cells cs t fr))
    (hu : P.underlying ty = some d) (hd : (match d with | .struct _ | .array _ _ => true | _ => false) = true) (hi : (P.info? ty).map (·.size) = some cs.size) :
    (results fn tmps).run P w = .ok (.tuple #[tmps.getD u undef, .agg cs]) w := by
  have hp' : tmps[p]?.getD undef = .pointer (some ⟨g, 0, none⟩) := by simpa using hp
  simp [results, h, hp', asAddr, run_loadVar_row w g t ty cs fr d hg hu hd hi]
end Go
namespace Go.Proofs.YtfpneepnnoldeaaDoor
open Go.RowKit Go.Vc
open Go.Vc.Rep (rd)
open Go.Vc.Own (own)
/-- a tree and a file drawn -/
def TreeFile (w : World) (e : Ending) (w' : World) : Prop :=
  ∃ (v : Value) (t : List File) (s : ByteArray) (u : Value) (tx : List ByteArray), e = .returned (.tuple #[v, .agg #[.string s, u]]) ∧ SmallF t ∧ s.size ≤ 100 ∧ tx.length ≤ 18 ∧ rd (fun b => w.heap.size ≤ b) w' [v] t ∧ rd (fun b => w.heap.size ≤ b) w' [u] tx ∧ Below w.heap.size w w'
theorem specTreeOk_is {S : Nat → Prop} (v : Value) (xs : List File) (w : World) (hv : rd S w [v] xs) {b : Bool} (h : treeB xs = b) :
    Calls Tryd.prog 33 #[v] w fun e w' => e = .returned (.bool b) ∧ Below w.heap.size w w' := by
  obtain ⟨a, cap, rfl, hs⟩ := rd_slice_elim hv
  go_enter Tryd.func33, Tryd.ntmps33
  go_wp2_with fail
  refine (l4Ok_is _ xs _ hs.rd h).mono ?_
  rintro e w1 ⟨rfl, hb⟩
  go_wp2
  go_ret
  exact ⟨rfl, hb⟩
set_option maxHeartbeats 4000000 in
set_option maxRecDepth 100000 in
theorem drawTreeSet_any {S : Nat → Prop} (v : Value) (bs : List UInt8) (w : World) (hv : rd S w [v] bs) (hl : bs.length ≤ 1048576) :
    Calls Tryd.prog 30 #[v] w (TreeFile w) := by
  have hv := Rep.lt hv
  obtain ⟨wb, hwb⟩ : ∃ wb, wb = w.alloc (.cells #[.string ⟨#[]⟩, .slice none 0 0] 45) := ⟨_, rfl⟩
  have hbx : wb.heap[w.heap.size]? = some (.cells #[.string ⟨#[]⟩, .slice none 0 0] 45 (0, 0)) := by rw [hwb]; exact heap_alloc_new _ _
  have hB0 : Below w.heap.size w wb := by rw [hwb]; exact ((Below.refl _ _).alloc (by simp <;> omega) _)
  have hsb : w.heap.size < wb.heap.size := by rw [hwb]; simp
  have hv := Rep.lt (Rep.keep hv hB0)
  have HW := Lib.hid hwb
  clear hwb
  go_enter Tryd.func30, Tryd.ntmps30
  go_wp2_with fail
  rw [← HW.out]
  refine (l30Open_any v bs wb hv hl).mono ?_
  rintro e w1 ⟨rfl, hr, hb, hsz'⟩
  have hsz : wb.heap.size < w1.heap.size := by omega
  clear hsz'
  go_wp2_with fail
  refine (l30AnyTree_any _ _ _ hr (by omega)).mono ?_
  rintro e w2 ⟨u, t, rfl, hS, ht, hd, hr⟩
  obtain ⟨a2, c2, rfl, _⟩ := rd_slice_elim ht
  have hs2 := hd.size
  go_wp2_with fail
  refine (l30AnyPath_any _ _ _ hr (by omega)).mono ?_
  rintro e w3 ⟨s, rfl, hs, hd3, hr3⟩
  have ht := hd3.rdS ht (fun b hb => by omega)
  have hd4 := hd.tr hd3
  have hs3 := hd3.size
  go_wp2_with fail
  refine (l30AnyText_any _ _ _ hr3 (by omega)).mono ?_
  rintro e w4 ⟨tv, tx, rfl, hx, hT, hd5, hr5⟩
  obtain ⟨a4, c4, rfl, _⟩ := hT.shape
  have ht := hd5.rdS ht (fun b hb => by omega)
  have hd6 := hd4.tr hd5
  have hBB : Below wb.heap.size wb w4 := hb.trans (hd6.low (Nat.le_refl _) (by omega))
  have hbx4 := (hBB.block w.heap.size (by omega)).trans hbx
  have x0 := cell_of_row w4 w.heap.size 0 _ _ (0, 0) hbx4
  have x1 := cell_of_row w4 w.heap.size 1 _ _ (0, 0) hbx4
  have z0 := frozen_of_row w4 w.heap.size 0 _ _ hbx4
  have z1 := frozen_of_row w4 w.heap.size 1 _ _ hbx4
  simp at x0 x1
  have hTr := hT.rd
  have hbx5 : ((w4.setCell ⟨w.heap.size, 0, none⟩ (.string s)).setCell ⟨w.heap.size, 1, none⟩ (.slice a4 tx.length c4)).heap[w.heap.size]? = some (.cells #[.string s, .slice a4 tx.length c4] 45 (0, 0)) := heap_setCell_same _ _ 1 _ _ _ (heap_setCell_same _ _ 0 _ _ _ hbx4)
  clear hr hr3 hr5 hd hd3 hd4 hd5 hbx hbx4 hv hT
  go_wp2
  (try simp only [Exit.inBlock, Exit.then])
  refine bodyPost_ret (results_tmp_row rfl _ _ w.heap.size _ _ _ _ rfl hbx5 Tryd.underlying45 rfl (by kernel_rfl)) rfl ?_
  exact ⟨.slice a2 t.length c2, t, s, _, tx, rfl, hS, hs, hx, Rep.frame (fun b hb hl => ⟨(Below.heap_setCell _ _ _ b (by show b ≠ w.heap.size; omega)).trans (Below.heap_setCell _ _ _ b (by show b ≠ w.heap.size; omega)), by omega⟩) ht, Rep.frame (fun b hb hl => ⟨(Below.heap_setCell _ _ _ b (by show b ≠ w.heap.size; omega)).trans (Below.heap_setCell _ _ _ b (by show b ≠ w.heap.size; omega)), by omega⟩) hTr, ((hB0.trans (hBB.mono hB0.size)).setCell (p := ⟨w.heap.size, 0, none⟩) (Nat.le_refl _) _).setCell (p := ⟨w.heap.size, 1, none⟩) (Nat.le_refl _) _⟩
end Go.Proofs.YtfpneepnnoldeaaDoor
