/-
  Cuts of a text, the bounds as the code has them. / Walks: the differences of two texts.
-/
import Derived.Test.YtlpfoekbccbhlaaGreatDoorVI
import Derived.Test.YtlpfoekbccbhlaaGreatDoorVB
import Derived.Test.YtlpfoekbccbhlaaGreatDoorVP2
import Derived.Test.YtlpfoekbccbhlaaGreatDoorVMT
import Derived.Test.YtlpfoekbccbhlaaGreatDoorWCopy
import Derived.Test.YtlpfoekbccbhlaaGreatDoorVL
set_option linter.unusedVariables false
namespace Go.Proofs.YtlpfoekbccbhlaaGreatDoor
open Go.RowKit Go.Vc
open Go.Vc.Rep (rd)
open Go.Vc.Own (own)
/-- s[f:h], the bounds integers that are not negative -/
theorem cut_int (a : Option Addr) (n cap : Nat) (f m : Int) (hf : 0 ≤ f) (hm : 0 ≤ m) (h : f + m ≤ n) (hc : n ≤ cap) (w : World) :
    (Instr.slice 56 (.slice a n cap) (some (.int .i64 f)) (some (.int .i64 (f + m))) none).run Tryz.prog w = .ok (.slice (cutA a cap f.toNat 1) m.toNat (cap - f.toNat)) w := by
  have := run_cut2 slz_string.slt a n cap f.toNat (f + m).toNat (by omega) (by omega) w
  rw [Int.toNat_of_nonneg hf, Int.toNat_of_nonneg (by omega : 0 ≤ f + m)] at this
  rw [show (f + m).toNat - f.toNat = m.toNat by omega] at this
  exact this
/-- s[f:h] of numbers -/
theorem cut_nat (a : Option Addr) (n cap f h : Nat) (h1 : f ≤ h) (h2 : h ≤ n) (hc : n ≤ cap) (w : World) :
    (Instr.slice 56 (.slice a n cap) (some (.int .i64 f)) (some (.int .i64 h)) none).run Tryz.prog w = .ok (.slice (cutA a cap f 1) (h - f) (cap - f)) w :=
  run_cut2 slz_string.slt a n cap f h h1 (by omega) w
/-- s[f:] -/
theorem cut_from (a : Option Addr) (n cap f : Nat) (h1 : f ≤ n) (w : World) :
    (Instr.slice 56 (.slice a n cap) (some (.int .i64 f)) none none).run Tryz.prog w = .ok (.slice (cutA a cap f 1) (n - f) (cap - f)) w :=
  run_cut slz_string.slt a n cap f h1 w
theorem cutS {S : Nat → Prop} {w : World} {a : Option Addr} {cap : Nat} {xs : List ByteArray} (h : IsSlice S w a cap xs) {f : Nat} (hf : f ≤ xs.length) : IsSlice S w (cutA a cap f 1) (cap - f) (xs.drop f) := h.cut (k := f) hf
/-- lines f to i of a text, as a value -/
theorem cut_rd {B : Nat} {w : World} {a : Option Addr} {cap : Nat} {xs : List ByteArray} (h : IsSlice (fun b => b < B) w a cap xs) {f i : Nat} (h1 : f ≤ i) (h2 : i ≤ xs.length) : rd (fun b => b < B) w [.slice (cutA a cap f 1) (i - f) (cap - f)] (cutF xs f i) := by
  have := ((cutS h (f := f) (by omega)).take (i - f)).rd
  rw [show ((xs.drop f).take (i - f)).length = i - f by simp; omega] at this
  exact this
end Go.Proofs.YtlpfoekbccbhlaaGreatDoor
namespace Go.Proofs.YtlpfoekbccbhlaaGreatDoor
open Go.RowKit Go.Vc
open Go.Vc.Rep (rd)
open Go.Vc.Own (own)

set_option maxHeartbeats 4000000 in
set_option maxRecDepth 100000 in
theorem diff_any {S T : Nat → Prop} (v u : Value) (xs ys : List ByteArray) (w : World) (hv : rd S w [v] xs) (hu : rd T w [u] ys) (hx : xs.length ≤ 10) (hy : ys.length ≤ 10) :
    Calls Tryz.prog 42 #[v, u] w fun e w' => ∃ v', e = .returned v' ∧ Fresh w.heap.size w'.heap.size w' [v'] (diffT xs ys) ∧ Below w.heap.size w w' := by
  obtain ⟨a, cap, rfl, hs⟩ := rd_slice_elim (Rep.lt hv)
  obtain ⟨b, cbp, rfl, ht⟩ := rd_slice_elim (Rep.lt hu)
  have hcap := hs.1
  have hcbp := ht.1
  go_enter Tryz.func42, Tryz.ntmps42
  go_wp2_with fail
  refine (match_any _ _ xs ys _ hs.rd ht.rd hx hy).mono ?_
  rintro e wt ⟨v1, rfl, hM, hb1⟩
  obtain ⟨am, cm, rfl, _⟩ := hM.shape
  have hsz1 := hb1.size
  have HML := Lib.hid (matchT_len xs ys)
  go_wp2_with (at_builtin; go_must (refine wpList_app_one (xs := matchT xs ys) slz_int.slt rfl (.tmp 13) (.tmp 16) rfl rfl (hM.alloc _) (le_alloc hsz1 _) rfl (heap_alloc_new _ _) (Fresh.leaf (α := Int) (m := wt.heap.size) (own_intm (ys.length : Int) (by unfold I64; omega) _)) hsz1 (by have := HML.out; omega) (by have := HML.out; unfold maxLen; omega) ?_); intro ap cp wp hGp)
  have hml := HML.out
  have hP := hGp.fresh
  rw [show matchT xs ys ++ [(ys.length : Int)] = pairsT xs ys from rfl] at hP
  have hbp := (hb1.alloc hsz1 _).trans hGp.below
  have hszp := hbp.size
  obtain ⟨ps, hps⟩ : ∃ ps, ps = pairsT xs ys := ⟨_, rfl⟩
  have hpl : ps.length = xs.length + 1 := by rw [hps, pairsT_len]
  have hinc : incM (ys.length + 1) 0 ps := by rw [hps]; exact matchT_inc xs ys
  have HP := Lib.hid hps
  rw [← hps, hml, ← hpl] at hP
  rw [hml, ← hpl]
  have hPs := (rd_slice_of (Rep.lt hP.rd)).2
  have HPL := Lib.hid hpl
  clear hps hml hpl
  go_wp2
  go_loopw [6, 7, 8, 20] (fun out fa fb i wr => (∃ (k p q : Nat) (ol : List Hunk) (ao : Option Addr) (co : Nat), k ≤ ps.length ∧ p ≤ k ∧ q ≤ ys.length + 1 ∧ i = .int .i64 k ∧ fa = .int .i64 p ∧ fb = .int .i64 q ∧ out = .slice ao ol.length co ∧ Fresh wp.heap.size wr.heap.size wr [.slice ao ol.length co] ol ∧ ol.length ≤ k ∧ Hid (incM (ys.length + 1) q (ps.drop k)) ∧ Hid (diffT xs ys = ol ++ df xs ys (ps.drop k) k p q)) ∧ Below wp.heap.size wp wr) (fun _ _ _ i _ => ps.length - (intOf i).toNat)
  case atStart => exact ⟨⟨0, 0, 0, [], none, 0, by omega, by omega, by omega, rfl, rfl, rfl, rfl, Fresh.nil _ _ _ (by decide), by simp, hinc, by show _ = _; rw [HP.out]; rfl⟩, Below.refl _ _⟩
  case round =>
    obtain ⟨⟨k, p, q, ol, ao, co, hk, hp, hq, rfl, rfl, rfl, rfl, hF, hol, HI, HD⟩, hbr⟩ := hrel
    obtain ⟨wo, rfl⟩ : ∃ wo : World, wo = wr := ⟨_, rfl⟩
    have hszr := hbr.size
    have hb := hbp.trans (hbr.mono hszp)
    by_cases hlt : k < ps.length
    · have hkx : k ≤ xs.length := by have := HPL.out; omega
      obtain ⟨g, off, rfl, hc, _⟩ := (hPs.keep hbr).int hlt
      rcases incM_at HI.out hlt with ⟨he, hI⟩ | ⟨m, he, hqm, hmy, hI⟩
      · have HN := Lib.hid (df_neg HD.out hlt (by rw [he]; omega))
        have HI2 := Lib.hid hI
        rw [he] at hc
        clear he hI
        go_wp2
        go_roundw
        case rel => exact ⟨⟨k + 1, p, q, ol, ao, co, by omega, by omega, hq, by go_num, rfl, rfl, rfl, hF, by omega, HI2.out, HN.out⟩, hbr⟩
        case measure => simp [intOf]; omega
      · have HY := Lib.hid (df_put HD.out hlt he)
        have HN := Lib.hid (df_no HD.out hlt he)
        have HI2 := Lib.hid hI
        rw [he] at hc
        clear he hI
        by_cases hpq : p < k ∨ q < m
        · have HZ := Lib.hid (HY.out hpq)
          have hqm2 : ¬ p < k → q < m := fun h => hpq.resolve_left h
          obtain ⟨z1, hz1⟩ : ∃ z1, z1 = cutF xs p k := ⟨_, rfl⟩
          obtain ⟨z2, hz2⟩ : ∃ z2, z2 = cutF ys q m := ⟨_, rfl⟩
          rw [← hz1, ← hz2] at HZ
          have hl1 : z1.length = k - p := by rw [hz1]; exact cutF_len (by omega) (by omega)
          have hl2 : z2.length = m - q := by rw [hz2]; exact cutF_len (by omega) (by omega)
          have hr1 := ((cutS (hs.keep hb) (f := p) (by omega)).take (k - p)).rd
          have hr2 := ((cutS (ht.keep hb) (f := q) (by omega)).take (m - q)).rd
          rw [show (xs.drop p).take (k - p) = z1 from hz1.symm, hl1] at hr1
          rw [show (ys.drop q).take (m - q) = z2 from hz2.symm, hl2] at hr2
          have hct1 := cut_nat a xs.length cap p k (by omega) (by omega) hcap
          have hct2 := cut_nat b ys.length cbp q m (by omega) (by omega) hcbp
          have H1 := Lib.hid hl1
          have H2 := Lib.hid hl2
          have hzb1 : z1.length ≤ 10 := by omega
          have hzb2 : z2.length ≤ 10 := by omega
          have hi0 : I64 ((p : Nat) : Int) := i64_nat (by omega)
          clear hz1 hz2 hl1 hl2 hpq
          by_cases hpk : p < k
          all_goals
            first | have hqm3 := hqm2 hpk | skip
            clear hqm2
            go_wp2_with fail
            go_region_law (first
              | (go_simp; go_at_call 43; with_reducible refine (copyText_any _ z1 _ (Rep.drew hr1) (by omega)).mono ?_; rintro e wA ⟨aA, cA, rfl, hA, hbA⟩; have hszA := hbA.size; have hr2 := Rep.below (Rep.drew hr2) (Nat.le_refl _) hbA)
              | (go_simp; go_at_call 43; with_reducible refine (copyText_any _ z2 _ hr2 (by omega)).mono ?_; rintro e wB ⟨aB, cB, rfl, hB, hbB⟩; have hszB := hbB.size)
              | (refine step_app_one slz_hunk.slt rfl (.tmp 35) (.tmp 48) rfl rfl (((hF.drew.below (Nat.le_refl _) hbA).below (Nat.le_refl _) hbB).alloc _) (by simp at *; omega) rfl (heap_alloc_new _ _) (Fresh.hunk (p := ⟨(p : Int), z1, z2⟩) hi0 ((hA.below (Nat.le_refl _) hbB).alloc _) (hB.alloc _) hszA hszB) hszr (by omega) (by unfold maxLen; omega) ?_; intro a9 c9 w9 hG9))
            all_goals
              have hF9 := hG9.fresh
              have hb9 : Below wp.heap.size wp w9 := (((hbr.drew.trans (hbA.mono (by simp <;> omega))).trans (hbB.mono (by simp at *; omega))).alloc (by simp at *; omega) _).trans hG9.below
              go_wp2
              go_roundw
              case rel => exact ⟨⟨k + 1, k + 1, m + 1, ol ++ [(⟨(p : Int), z1, z2⟩ : Hunk)], a9, c9, by omega, by omega, by omega, by go_num, by go_num, by go_num, by simp, by rw [List.length_append]; exact hF9, by simp; omega, HI2.out, HZ.out⟩, hb9⟩
              case measure => simp [intOf]; omega
        · have HZ := Lib.hid (HN.out hpq)
          have hpk : ¬ p < k := fun h => hpq (.inl h)
          have hqm2 : ¬ q < m := fun h => hpq (.inr h)
          clear hpq
          go_wp2
          go_roundw
          case rel => exact ⟨⟨k + 1, k + 1, m + 1, ol, ao, co, by omega, by omega, by omega, by go_num, by go_num, by go_num, rfl, hF, by omega, HI2.out, HZ.out⟩, hbr⟩
          case measure => simp [intOf]; omega
    · have HE := Lib.hid (df_end HD.out hlt)
      have hlt2 : ¬ k < xs.length + 1 := by have := HPL.out; omega
      go_wp2
      go_ret
      exact ⟨_, rfl, by rw [HE.out]; exact hF.mono hszp (Nat.le_refl _), hb⟩
end Go.Proofs.YtlpfoekbccbhlaaGreatDoor
