/-
  Walks: ints turned round.
-/
import Derived.Test.YtmblockojnaffaaDoorPlRev
import Derived.Test.YtmblockojnaffaaDoorWAnc2
set_option linter.unusedVariables false
namespace Go.Proofs.YtmblockojnaffaaDoor
open Go.RowKit Go.Vc
open Go.Vc.Rep (rd)
open Go.Vc.Own (own)
theorem own_i64 (n : Int) (h : I64 n) (w : World) : own [] w [.int .i64 n] n := ⟨rfl, rfl, h⟩
set_option maxHeartbeats 4000000 in
set_option maxRecDepth 100000 in
theorem reverse_any {B m : Nat} (v : Value) (xs : List Int) (w : World) (hv : Fresh B m w [v] xs) (hm : m ≤ w.heap.size) (hB : B ≤ w.heap.size) (hl : xs.length ≤ 1000) :
    Calls Tryd.prog 112 #[v] w fun e w' => e = .returned (.tuple #[]) ∧ Fresh B w'.heap.size w' [v] xs.reverse ∧ Below B w w' := by
  obtain ⟨a, cap, rfl, hs⟩ := hv.shape
  have hF := hv.mono (Nat.le_refl _) hm
  have hle := hs.le
  clear hs hv
  go_enter Tryd.func112, Tryd.ntmps112
  go_wp2
  go_loopw [2, 3] (fun i j wr => (∃ (k : Nat) (ys : List Int), 2 * k ≤ xs.length + 1 ∧ i = .int .i64 k ∧ j = .int .i64 ((xs.length : Int) - 1 - k) ∧ Fresh B wr.heap.size wr [.slice a xs.length cap] ys ∧ Hid (revOk xs ys k)) ∧ Below B w wr) (fun i _ _ => xs.length - (intOf i).toNat)
  case atStart => exact ⟨⟨0, xs, by omega, rfl, by go_num, hF, revOk_start xs⟩, Below.refl _ _⟩
  case round =>
    clear hF
    obtain ⟨⟨k, ys, hk, rfl, rfl, hF, HA⟩, hb⟩ := hrel
    by_cases hlt : 2 * k + 1 < xs.length
    · obtain ⟨j, hj⟩ : ∃ j : Nat, j + k + 1 = xs.length := ⟨xs.length - 1 - k, by omega⟩
      have ej : (xs.length : Int) - 1 - k = (j : Int) := by omega
      rw [ej]
      have hkj : k < j := by omega
      have hyl : ys.length = xs.length := HA.out.1
      obtain ⟨g, rfl, hBg, hgm⟩ := hF.addr (by omega)
      obtain ⟨hq, hs⟩ := rd_slice_of hF.rd2
      obtain ⟨g1, o1, e1, hck, hw1⟩ := hs.int (i := k) (by omega)
      obtain ⟨g2, o2, e2, hcj, hw2⟩ := hs.int (i := j) (by omega)
      obtain ⟨rfl, rfl⟩ : g = g1 ∧ 0 = o1 := by simpa using e1
      obtain ⟨rfl, rfl⟩ : g = g2 ∧ 0 = o2 := by simpa using e2
      rw [Nat.zero_add] at hck hcj
      obtain ⟨⟨u1, hu1⟩, hf1, _, _⟩ := hF.there1 rfl (i := k) (by omega)
      obtain ⟨⟨u2, hu2⟩, hf2, _, _⟩ := hF.there1 rfl (i := j) (by omega)
      have hne : ¬ k = j := by omega
      have hne' : ¬ j = k := by omega
      obtain ⟨x, hx⟩ : ∃ x, x = ys[k]'(by omega) := ⟨_, rfl⟩
      obtain ⟨y, hy⟩ : ∃ y, y = ys[j]'(by omega) := ⟨_, rfl⟩
      rw [← hx] at hck hw1
      rw [← hy] at hcj hw2
      have hN := Lib.hid (revOk_next HA.out hj hkj (a := x) (b := y) (by rw [hx]; exact List.getElem?_eq_getElem (by omega)) (by rw [hy]; exact List.getElem?_eq_getElem (by omega)))
      have HJ := Lib.hid hj
      have HY := Lib.hid hyl
      have HL := Lib.hid hlt
      have hkl : k < xs.length := by omega
      have hjl : j < xs.length := by omega
      have hF2 := ((hF.drew.set1 rfl (i := k) (by omega) (u := .int .i64 y) (y := y) (Fresh.leaf (m := B) (own_i64 y hw2 _)) (by first | exact Nat.le_refl _ | (have := hb.size; simp at *; omega))).set1 rfl (i := j) (by simp; omega) (u := .int .i64 x) (y := x) (Fresh.leaf (m := B) (own_i64 x hw1 _)) (by first | exact Nat.le_refl _ | (have := hb.size; simp at *; omega)))
      have hb2 := (hb.drew.setCell (p := ⟨g, k, none⟩) hBg (.int .i64 y)).setCell (p := ⟨g, j, none⟩) hBg (.int .i64 x)
      have HJ2 : Hid ((j : Int) - 1 = (xs.length : Int) - 1 - ((k + 1 : Nat) : Int)) := by show _ = _; omega
      clear hq hw1 hw2 hx hy e1 e2 hu1 hu2 hs hj hyl ej hlt hk
      go_wp2_with fail
      go_region_law (fail)
      all_goals
        go_wp2
        go_roundw
        case rel => exact ⟨⟨k + 1, (ys.set k y).set j x, by have := HL.out; omega, by go_num, by rw [HJ2.out], hF2, hN.out⟩, hb2⟩
        case measure => have := HL.out; simp [intOf] <;> omega
    · have HE := Lib.hid (revOk_end HA.out hlt)
      have hd : decide ((k : Int) < (xs.length : Int) - 1 - k) = false := decide_eq_false (by omega)
      go_wp2
      (try simp only [Exit.inBlock, Exit.then])
      refine bodyPost_end (results_none rfl _ _ _) rfl ?_
      exact ⟨rfl, by rw [← HE.out]; exact hF, hb⟩
end Go.Proofs.YtmblockojnaffaaDoor
