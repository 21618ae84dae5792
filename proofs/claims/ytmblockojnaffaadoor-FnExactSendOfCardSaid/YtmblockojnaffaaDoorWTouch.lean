/-
  Walks: whether a commit changes something at a path.
-/
import Derived.Test.YtmblockojnaffaaDoorWUnder
import Derived.Test.YtmblockojnaffaaDoorWSameT
import Derived.Deep.RegionHeld3
set_option linter.unusedVariables false
namespace Go.Proofs.YtmblockojnaffaaDoor
open Go.RowKit Go.Vc
open Go.Vc.Rep (rd)
open Go.Vc.Own (own)

set_option maxHeartbeats 1000000 in
theorem tree_any {S : Nat → Prop} (v0 v1 : Value) (cs : List Commit) (i : Int) (w : World) (h0 : rd S w [v0] cs) (hi : 0 ≤ i) (hl : i < (cs.length : Int)) :
    Calls Tryd.prog 88 #[.agg #[v0, v1], .int .i64 i] w fun e w' => ∃ v', e = .returned v' ∧ rd (fun b => b < w.heap.size) w' [v'] (treeAtC cs i) ∧ Below w.heap.size w w' := by
  obtain ⟨a, cap, rfl, hs⟩ := rd_slice_elim (Rep.lt h0)
  obtain ⟨k, rfl⟩ : ∃ k : Nat, i = (k : Int) := ⟨i.toNat, by omega⟩
  have hk : k < cs.length := by omega
  have hB0 : Below w.heap.size w (w.alloc (.cells #[.slice a cs.length cap, v1] 32)) := ((Below.refl _ _).alloc (by simp <;> omega) _)
  obtain ⟨g, off, ap, np, at_, nt, rfl, hc0, hc1, hc2, hpar, hz1, htr⟩ := hs.commit hk
  have HT : Hid (treeAtC cs (k : Int) = cs[k].tree) := by show _ = _; unfold treeAtC; rw [Int.toNat_natCast, getD_com hk]
  have hc2 := keepc hc2 hB0
  have hnn : decide ((k : Int) < 0) = false := decide_eq_false (by omega)
  go_enter Tryd.func88, Tryd.ntmps88
  go_wp2
  go_ret
  exact ⟨_, rfl, by rw [HT.out]; exact (htr.keep hB0).rd, hB0⟩

set_option maxHeartbeats 4000000 in
set_option maxRecDepth 100000 in
theorem changes_is {S : Nat → Prop} (v0 v1 : Value) (cs : List Commit) (i : Int) (path : ByteArray) (w : World) (h0 : rd S w [v0] cs) (hP : parOk cs) (hT : ∀ k (hk : k < cs.length), cs[k].tree.length ≤ 1000) (hi : 0 ≤ i) (hl : i < (cs.length : Int)) (hz : path.size ≤ 1048576) :
    Calls Tryd.prog 84 #[.agg #[v0, v1], .int .i64 i, .string path] w fun e w' => e = .returned (.bool (touchB cs path i)) ∧ Below w.heap.size w w' := by
  obtain ⟨a, cap, rfl, hs⟩ := rd_slice_elim (Rep.lt h0)
  obtain ⟨k, rfl⟩ : ∃ k : Nat, i = (k : Int) := ⟨i.toNat, by omega⟩
  have hk : k < cs.length := by omega
  have hB0 : Below w.heap.size w (w.alloc (.cells #[.slice a cs.length cap, v1] 32)) := ((Below.refl _ _).alloc (by simp <;> omega) _)
  have q0 : (w.alloc (.cells #[.slice a cs.length cap, v1] 32)).cell? ⟨w.heap.size, 0, none⟩ = some (.slice a cs.length cap) := by rw [cell_of_row _ _ 0 _ _ (0, 0) (heap_alloc_new _ _)]; rfl
  have q1 : (w.alloc (.cells #[.slice a cs.length cap, v1] 32)).cell? ⟨w.heap.size, 1, none⟩ = some v1 := by rw [cell_of_row _ _ 1 _ _ (0, 0) (heap_alloc_new _ _)]; rfl
  obtain ⟨g, off, ap, np, at_, nt, rfl, hc0, hc1, hc2, hpar, hz1, htr⟩ := hs.commit hk
  have HT : Hid (treeAtC cs (k : Int) = cs[k].tree) := by show _ = _; unfold treeAtC; rw [Int.toNat_natCast, getD_com hk]
  have HTL := Lib.hid (show ∀ j : Nat, j < cs.length → (treeAtC cs (j : Int)).length ≤ 1000 from fun j hj => by unfold treeAtC; rw [Int.toNat_natCast, getD_com hj]; exact hT j hj)
  have HTB : Hid (touchB cs path (k : Int) = if cs[k].parents.length = 0 then decide (0 < (underT (treeAtC cs (k : Int)) path).length) else apartB cs path (underT (treeAtC cs (k : Int)) path) cs[k].parents) := by show _ = _; unfold touchB; rw [Int.toNat_natCast, getD_com hk]
  have hpn : ∀ m (hm : m < cs[k].parents.length), ∃ p : Nat, cs[k].parents[m] = (p : Int) ∧ p < k := fun m hm => par_nat hP hk hm
  have hlp := hpar.le
  have HC0 := Lib.hid hc0
  obtain ⟨ps, hps⟩ : ∃ ps, ps = cs[k].parents := ⟨_, rfl⟩
  have hpn : ∀ m (hm : m < ps.length), ∃ p : Nat, ps[m] = (p : Int) ∧ p < k := by subst hps; exact hpn
  have HPN := Lib.hid hpn
  rw [← hps] at hpar HTB hlp HC0
  clear hps hpn hc1 hc2 htr hc0
  go_enter Tryd.func84, Tryd.ntmps84
  go_wp2_with fail
  refine (tree_any _ _ cs _ _ (hs.keep hB0).rd (by omega) hl).mono ?_
  rintro e w1 ⟨vt, rfl, ht, hb1⟩
  have q0 := keepc q0 hb1
  have q1 := keepc q1 hb1
  have HB := hB0.trans (hb1.mono hB0.size)
  go_wp2_with fail
  refine (under_any _ _ path _ ht (HTL.out k hk) hz).mono ?_
  rintro e w2 ⟨vo, rfl, hO, hb2⟩
  have q0 := keepc q0 hb2
  have q1 := keepc q1 hb2
  have HB := HB.trans (hb2.mono HB.size)
  obtain ⟨own_, hown⟩ : ∃ own_, own_ = underT (treeAtC cs (k : Int)) path := ⟨_, rfl⟩
  rw [← hown] at hO HTB
  obtain ⟨ao, co, hvo, hOs⟩ := rd_slice_elim hO
  subst hvo
  have hlo := hOs.le
  have hc0 := keepc HC0.out HB
  clear hown ht hb1 hb2 hB0
  by_cases h00 : ps.length = 0
  · have hd0 : ((ps.length : Int) == 0) = true := by simp [h00]
    have HN : Hid (touchB cs path (k : Int) = decide (0 < own_.length)) := by show _ = _; rw [HTB.out, if_pos h00]
    have hgt : decide ((0 : Int) < own_.length) = decide (0 < own_.length) := by rw [decide_eq_decide]; omega
    have HG := Lib.hid hgt
    clear h00 hgt
    go_wp2
    go_ret
    exact ⟨ret_bool (by rw [HN.out]), HB⟩
  · have hd0 : ((ps.length : Int) == 0) = false := by rw [beq_eq_false_iff_ne]; omega
    have HTB : Hid (touchB cs path (k : Int) = apartB cs path own_ ps) := by show _ = _; rw [HTB.out, if_neg h00]
    clear h00
    go_wp2
    go_loopw [33] (fun i wr => (∃ m : Nat, m ≤ ps.length ∧ i = .int .i64 m ∧ Hid (apartB cs path own_ ps = apartB cs path own_ (ps.drop m))) ∧ Below w2.heap.size w2 wr) (fun i _ => ps.length - (intOf i).toNat)
    case atStart => exact ⟨⟨0, by omega, rfl, rfl⟩, Below.refl _ _⟩
    case round =>
      obtain ⟨⟨m, hm, rfl, HA⟩, hbr⟩ := hrel
      have hb := HB.trans (hbr.mono HB.size)
      have q0 := keepc q0 hbr
      have q1 := keepc q1 hbr
      by_cases hlm : m < ps.length
      · obtain ⟨p, hp, hpl⟩ := HPN.out m hlm
        obtain ⟨g2, off2, rfl, hd, _⟩ := (hpar.keep hb).int (i := m) hlm
        rw [hp] at hd
        have hpc : p < cs.length := by omega
        have hps : ps[m] = (p : Int) := hp
        have HPS := Lib.hid hps
        clear hp hps
        go_wp2_with fail
        refine (tree_any _ _ cs (p : Int) _ (hs.keep hb).rd (by omega) (by omega)).mono ?_
        rintro e w3 ⟨vt, rfl, ht, hb3⟩
        have hb3' := hbr.trans (hb3.mono hbr.size)
        go_wp2_with fail
        refine (under_any _ _ path _ ht (HTL.out p hpc) hz).mono ?_
        rintro e w4 ⟨vp, rfl, hU, hb4⟩
        have hb4' := hb3'.trans (hb4.mono hb3'.size)
        cases hq : decide (own_ = underT (treeAtC cs (p : Int)) path) with
        | true =>
          have HE := Lib.hid (apart_hit HA.out hlm (by rw [HPS.out]; exact of_decide_eq_true hq))
          go_wp2_with fail
          refine (sameTree_is _ _ _ _ _ (hOs.keep hb4').rd hU hq).mono ?_
          rintro e w5 ⟨rfl, hb5⟩
          have hb5' := hb4'.trans (hb5.mono hb4'.size)
          go_wp2
          go_ret
          exact ⟨ret_bool (by rw [HTB.out, HE.out]), HB.trans (hb5'.mono HB.size)⟩
        | false =>
          have HE := Lib.hid (apart_next HA.out hlm (by rw [HPS.out]; exact of_decide_eq_false hq))
          go_wp2_with fail
          refine (sameTree_is _ _ _ _ _ (hOs.keep hb4').rd hU hq).mono ?_
          rintro e w5 ⟨rfl, hb5⟩
          have hb5' := hb4'.trans (hb5.mono hb4'.size)
          go_wp2
          go_roundw
          case rel => exact ⟨⟨m + 1, by omega, by go_num, HE.out⟩, hb5'⟩
          case measure => simp [intOf] <;> omega
      · have HE := Lib.hid (apart_end HA.out hlm)
        go_wp2
        go_ret
        exact ⟨ret_bool (by rw [HTB.out, HE.out]), hb⟩

set_option maxHeartbeats 4000000 in
set_option maxRecDepth 100000 in
theorem l12Touch_is {S : Nat → Prop} (v0 v1 : Value) (cs : List Commit) (i : Int) (path : ByteArray) (w : World) (h0 : rd S w [v0] cs) (hP : parOk cs) (hT : ∀ k (hk : k < cs.length), cs[k].tree.length ≤ 1000) (hi : 0 ≤ i) (hl : i < (cs.length : Int)) (hz : path.size ≤ 1048576) {b : Bool} (hb : touchB cs path i = b) :
    Calls Tryd.prog 82 #[.agg #[v0, v1], .int .i64 i, .string path] w fun e w' => e = .returned (.bool b) ∧ Below w.heap.size w w' := by
  subst hb
  obtain ⟨a, cap, rfl, hs⟩ := rd_slice_elim (Rep.lt h0)
  obtain ⟨k, rfl⟩ : ∃ k : Nat, i = (k : Int) := ⟨i.toNat, by omega⟩
  have hk : k < cs.length := by omega
  obtain ⟨g, off, ap, np, at_, nt, rfl, hc0, hc1, hc2, hpar, hz1, htr⟩ := hs.commit hk
  have HT : Hid (treeAtC cs (k : Int) = cs[k].tree) := by show _ = _; unfold treeAtC; rw [Int.toNat_natCast, getD_com hk]
  have HTL := Lib.hid (show ∀ j : Nat, j < cs.length → (treeAtC cs (j : Int)).length ≤ 1000 from fun j hj => by unfold treeAtC; rw [Int.toNat_natCast, getD_com hj]; exact hT j hj)
  have HTR := Lib.hid (show ∀ j (hj : j < cs.length), treeAtC cs (j : Int) = cs[j].tree from fun j hj => by unfold treeAtC; rw [Int.toNat_natCast, getD_com hj])
  have HTB : Hid (touchB cs path (k : Int) = if cs[k].parents.length = 0 then decide (0 < (underT cs[k].tree path).length) else apartB cs path (underT cs[k].tree path) cs[k].parents) := by show _ = _; unfold touchB; rw [HT.out, Int.toNat_natCast, getD_com hk]
  have hpn : ∀ m (hm : m < cs[k].parents.length), ∃ p : Nat, cs[k].parents[m] = (p : Int) ∧ p < k := fun m hm => par_nat hP hk hm
  have htl := hT k hk
  obtain ⟨c, hc⟩ : ∃ c, c = cs[k] := ⟨_, rfl⟩
  have hpn : ∀ m (hm : m < c.parents.length), ∃ p : Nat, c.parents[m] = (p : Int) ∧ p < k := by subst hc; exact hpn
  have HPN := Lib.hid hpn
  rw [← hc] at hc0 hc1 hc2 hpar hz1 htr HTB htl
  clear hc hpn
  obtain ⟨wb, hwb⟩ : ∃ wb, wb = w.alloc (.cells #[.slice (some ⟨g, off, none⟩) cs.length cap, v1] 32) := ⟨_, rfl⟩
  obtain ⟨hB0, hsb, hq⟩ := boxed (vs := [.slice (some ⟨g, off, none⟩) cs.length cap, v1]) hwb
  have q0 := hq 0 _ rfl
  have hc0 := keepc hc0 hB0
  have hc1 := keepc hc1 hB0
  have hc2 := keepc hc2 hB0
  obtain ⟨wc, hwc⟩ : ∃ wc, wc = wb.alloc (.cells #[.slice ap c.parents.length np, .string c.who, .slice at_ c.tree.length nt] 74) := ⟨_, rfl⟩
  obtain ⟨hB1, hsc, hq2⟩ := boxed (vs := [.slice ap c.parents.length np, .string c.who, .slice at_ c.tree.length nt]) hwc
  have r0 := hq2 0 _ rfl
  have r2 := hq2 2 _ rfl
  rw [hsb] at r0 r2
  have q0 := keepc q0 hB1
  have HB := hB0.trans (hB1.mono hB0.size)
  have hlp := hpar.le
  clear hq hq2
  subst hwc hwb
  go_enter Tryd.func82, Tryd.ntmps82
  go_wp2_with fail
  refine (l12Under_any _ _ path _ (htr.keep HB).rd htl hz).mono ?_
  rintro e w2 ⟨vo, rfl, hO, hb2⟩
  have q0a := keepc q0 hb2
  have r0a := keepc r0 hb2
  clear q0 r0
  have HBf := HB.trans (hb2.mono HB.size)
  clear HB
  obtain ⟨own_, hown⟩ : ∃ own_, own_ = underT c.tree path := ⟨_, rfl⟩
  rw [← hown] at hO HTB
  obtain ⟨ao, co, hvo, hOs⟩ := rd_slice_elim hO
  subst hvo
  have hlo := hOs.le
  clear hown hb2 hB0 hB1 hc0 hc1 hc2 r2 htr
  obtain ⟨ps, hps⟩ : ∃ ps, ps = c.parents := ⟨_, rfl⟩
  have HPN : Hid (∀ m (hm : m < ps.length), ∃ p : Nat, ps[m] = (p : Int) ∧ p < k) := by subst hps; exact HPN
  rw [← hps] at hpar hlp r0a HTB
  try rw [← hps]
  clear hps
  by_cases h00 : ps.length = 0
  · have hd0 : ((ps.length : Int) == 0) = true := by simp [h00]
    have HN : Hid (touchB cs path (k : Int) = decide (0 < own_.length)) := by show _ = _; rw [HTB.out, if_pos h00]
    have hgt : decide ((0 : Int) < own_.length) = decide (0 < own_.length) := by rw [decide_eq_decide]; omega
    have HG := Lib.hid hgt
    clear h00 hgt
    go_wp2
    go_ret
    exact ⟨ret_bool (by rw [HN.out]), HBf⟩
  · have hd0 : ((ps.length : Int) == 0) = false := by rw [beq_eq_false_iff_ne]; omega
    have HTB : Hid (touchB cs path (k : Int) = apartB cs path own_ ps) := by show _ = _; rw [HTB.out, if_neg h00]
    clear h00
    go_wp2
    go_loopw [9] (fun i wr => (∃ m : Nat, m ≤ ps.length ∧ i = .int .i64 m ∧ Hid (apartB cs path own_ ps = apartB cs path own_ (ps.drop m))) ∧ Below w2.heap.size w2 wr) (fun i _ => ps.length - (intOf i).toNat)
    case atStart => exact ⟨⟨0, by omega, rfl, rfl⟩, Below.refl _ _⟩
    case round =>
      obtain ⟨⟨m, hm, rfl, HA⟩, hbr⟩ := hrel
      have hb := HBf.trans (hbr.mono HBf.size)
      have hsr := hbr.size
      have q0r := keepc q0a hbr
      have r0r := keepc r0a hbr
      by_cases hlm : m < ps.length
      · obtain ⟨p, hp, hpl⟩ := HPN.out m hlm
        obtain ⟨g2, off2, rfl, hd, _⟩ := (hpar.keep hb).int (i := m) hlm
        rw [hp] at hd
        have hpc : p < cs.length := by omega
        have HPS := Lib.hid hp
        have hTR := HTR.out p hpc
        obtain ⟨g3, off3, ap3, np3, at3, nt3, he3, e0, e1, e2, _, _, etr⟩ := (hs.keep hb).commit hpc
        obtain ⟨rfl, rfl⟩ : g = g3 ∧ off = off3 := by simpa using he3
        have htl3 : cs[p].tree.length ≤ 1000 := by rw [← hTR]; exact HTL.out p hpc
        obtain ⟨t3, ht3⟩ : ∃ t, t = cs[p].tree := ⟨_, rfl⟩
        rw [← ht3] at e2 etr htl3 hTR
        have HT3 := Lib.hid hTR
        have etr := etr.lt
        clear hp he3 e0 e1 ht3 hTR
        cases hq : decide (underT t3 path = own_) with
        | true =>
          have HE := Lib.hid (apart_hit HA.out hlm (by rw [HPS.out, HT3.out]; exact (of_decide_eq_true hq).symm))
          go_wp2_with fail
          go_region_held3 (fun w' => w'.cell? ⟨w.heap.size, 0, none⟩ = some (.slice (some ⟨g, off, none⟩) cs.length cap) ∧ w'.cell? ⟨w.heap.size + 1, 0, none⟩ = some (.slice (some ⟨g2, off2, none⟩) ps.length np) ∧ w'.cell? ⟨g2, off2 + m, none⟩ = some (.int .i64 (p : Int)) ∧ w'.cell? ⟨g, off + p * 3 + 2, none⟩ = some (.slice at3 t3.length nt3))
            (first | go_keep | exact KM | exact KL | exact ⟨q0r, r0r, hd, e2⟩)
            (first
              | (go_at_call 117; go_must (refine (l12Under_any _ t3 path _ etr.drew.rd htl3 hz).mono ?_); rintro e wL ⟨vL, rfl, hU, hbL⟩; have KL := And.intro (BW.cell (w := wr.drew) q0r ⟨wL, hbL⟩) (And.intro (BW.cell (w := wr.drew) r0r ⟨wL, hbL⟩) (And.intro (BW.cell (w := wr.drew) hd ⟨wL, hbL⟩) (BW.cell (w := wr.drew) e2 ⟨wL, hbL⟩))))
              | (go_at_call 118; refine (l12Same_is _ _ _ own_ _ hU ((hOs.keep (hbr.drew.trans (hbL.mono (by simp; omega)))).rd) hq).mono ?_; rintro e wM ⟨rfl, hbM⟩; have KM := And.intro (BW.cell (w := wL) KL.1 ⟨wM, hbM⟩) (And.intro (BW.cell (w := wL) KL.2.1 ⟨wM, hbM⟩) (And.intro (BW.cell (w := wL) KL.2.2.1 ⟨wM, hbM⟩) (BW.cell (w := wL) KL.2.2.2 ⟨wM, hbM⟩)))))
          all_goals
            have hbL2 : Below w2.heap.size w2 wL := hbr.drew.trans (hbL.mono (by simp; omega))
            have hbM2 : Below w2.heap.size w2 wM := hbL2.trans (hbM.mono hbL2.size)
            go_wp2
            go_ret
            exact ⟨ret_bool (by rw [HTB.out, HE.out]), HBf.trans (hbM2.mono HBf.size)⟩
        | false =>
          have HE := Lib.hid (apart_next HA.out hlm (by rw [HPS.out, HT3.out]; exact fun h => of_decide_eq_false hq h.symm))
          go_wp2_with fail
          go_region_held3 (fun w' => w'.cell? ⟨w.heap.size, 0, none⟩ = some (.slice (some ⟨g, off, none⟩) cs.length cap) ∧ w'.cell? ⟨w.heap.size + 1, 0, none⟩ = some (.slice (some ⟨g2, off2, none⟩) ps.length np) ∧ w'.cell? ⟨g2, off2 + m, none⟩ = some (.int .i64 (p : Int)) ∧ w'.cell? ⟨g, off + p * 3 + 2, none⟩ = some (.slice at3 t3.length nt3))
            (first | go_keep | exact KM | exact KL | exact ⟨q0r, r0r, hd, e2⟩)
            (first
              | (go_at_call 117; go_must (refine (l12Under_any _ t3 path _ etr.drew.rd htl3 hz).mono ?_); rintro e wL ⟨vL, rfl, hU, hbL⟩; have KL := And.intro (BW.cell (w := wr.drew) q0r ⟨wL, hbL⟩) (And.intro (BW.cell (w := wr.drew) r0r ⟨wL, hbL⟩) (And.intro (BW.cell (w := wr.drew) hd ⟨wL, hbL⟩) (BW.cell (w := wr.drew) e2 ⟨wL, hbL⟩))))
              | (go_at_call 118; refine (l12Same_is _ _ _ own_ _ hU ((hOs.keep (hbr.drew.trans (hbL.mono (by simp; omega)))).rd) hq).mono ?_; rintro e wM ⟨rfl, hbM⟩; have KM := And.intro (BW.cell (w := wL) KL.1 ⟨wM, hbM⟩) (And.intro (BW.cell (w := wL) KL.2.1 ⟨wM, hbM⟩) (And.intro (BW.cell (w := wL) KL.2.2.1 ⟨wM, hbM⟩) (BW.cell (w := wL) KL.2.2.2 ⟨wM, hbM⟩)))))
          all_goals
            have hbL2 : Below w2.heap.size w2 wL := hbr.drew.trans (hbL.mono (by simp; omega))
            have hbM2 : Below w2.heap.size w2 wM := hbL2.trans (hbM.mono hbL2.size)
            go_wp2
            go_roundw
            case rel => exact ⟨⟨m + 1, by omega, by go_num, HE.out⟩, hbM2⟩
            case measure => simp [intOf] <;> omega
      · have HE := Lib.hid (apart_end HA.out hlm)
        go_wp2
        go_ret
        exact ⟨ret_bool (by rw [HTB.out, HE.out]), hb⟩
end Go.Proofs.YtmblockojnaffaaDoor
