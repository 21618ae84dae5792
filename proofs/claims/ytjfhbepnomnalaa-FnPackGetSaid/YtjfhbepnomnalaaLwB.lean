/-
  The walk of a law: every text of a pack is read back. / The walk of a law: a text of a pack is made of one ahead of it. / Plain: the first texts of a pack. No program is in sight here. / The walk of a law: a pack's first texts are a pack.
-/
import Derived.Test.YtjfhbepnomnalaaPkB
import Derived.Test.YtjfhbepnomnalaaPkC
import Derived.Test.YtjfhbepnomnalaaDrB
set_option linter.unusedVariables false
namespace Go.Vc
/-- how large a pack is, if no text is made of another one -/
def plainOf (t : List ByteArray) : Nat := t.length + if 0 < t.length then 1 else 0
theorem sizeD_none (t : List ByteArray) : sizeD (deltaOf [] t) = plainOf t := by
  cases t with
  | nil => rfl
  | cons x r =>
    rw [deltaOf_none, plainOf, if_pos (by simp)]
    simp [sizeD, bsum]
    omega
theorem bsum_le2 {α β : Type} {b : α → Nat} {c : β → Nat} : ∀ {xs : List α} {ys : List β}, xs.length = ys.length → (∀ i (h : i < xs.length) (h' : i < ys.length), b xs[i] ≤ c ys[i]) → bsum b xs ≤ bsum c ys
  | [], [], _, _ => by simp [bsum]
  | x :: r, y :: s, hl, h => by
    rw [bsum_cons, bsum_cons]
    have h0 := h 0 (by simp) (by simp)
    simp only [List.getElem_cons_zero] at h0
    have := bsum_le2 (b := b) (c := c) (xs := r) (ys := s) (by simpa using hl) fun i hi hi' => by
      have := h (i + 1) (by simp; omega) (by simp; omega)
      simpa using this
    omega
  | [], _ :: _, hl, _ => by simp at hl
  | _ :: _, [], hl, _ => by simp at hl
/-- what the law says of a pack -/
theorem packOf_says {l : List (List ByteArray)} (h : packOf l ≠ []) : (packOf l).length = l.length ∧ l.length ≤ 12 ∧ (∀ k (hk : k < l.length), pget (packOf l) k = (l[k], true)) ∧ 0 ≤ sizeP (packOf l) ∧ sizeP (packOf l) ≤ (bsum plainOf l : Nat) := by
  have h12 : ¬ 12 < l.length := fun h12 => h (by rw [packOf, if_pos h12])
  have hall : l.all textB = true := by
    cases ht : l.all textB with
    | true => rfl
    | false => exact absurd (by rw [packOf, if_neg h12, if_neg (by rw [ht]; simp)]) h
  obtain ⟨ds, l1, l2, hf, hg, hd, hs⟩ := packOf_I (by omega) hall
  have hp := packOf_packB l
  refine ⟨l1, by omega, fun k hk => ?_, ?_, ?_⟩
  · rw [pget_in hp (by omega), hg k hk, getD_at hk]
  · rw [sizeP, if_pos hp]; omega
  · rw [sizeP, if_pos hp]
    have := bsum_le2 (b := fun p : Packed => sizeD p.pcs) (c := plainOf) (xs := packOf l) (ys := l) l1 fun i hi hi' => by
      have := hs i hi
      rw [getD_at hi', sizeD_none] at this
      exact this
    omega
theorem plain_le {n : Nat} {l : List (List ByteArray)} (h : l.length ≤ n) (ht : ∀ t, t ∈ l → t.length ≤ 18) : bsum plainOf l ≤ 19 * n := by
  have := bsum_le_of (b := plainOf) (m := 19) (xs := l) fun t hm => by
    have := ht t hm
    unfold plainOf
    split <;> omega
  have := Nat.mul_le_mul_left 19 h
  omega
end Go.Vc
namespace Go.Proofs.Ytjfhbepnomnalaa
open Go.RowKit Go.Vc
open Go.Vc.Rep (rd)
open Go.Vc.Own (own)

theorem implPackOf_is {S : Nat → Prop} (v : Value) (xs : List (List ByteArray)) (w : World) (hv : rd S w [v] xs) {P : List Packed} (h : packOf xs = P) :
    Calls Try.prog 50 #[v] w fun e w' => ∃ v', e = .returned v' ∧ Fresh w.heap.size w'.heap.size w' [v'] P ∧ Below w.heap.size w w' := h ▸ implPackOf v xs w hv
theorem specPackOf_is {S : Nat → Prop} (v : Value) (xs : List (List ByteArray)) (w : World) (hv : rd S w [v] xs) {P : List Packed} (h : packOf xs = P) :
    Calls Try.prog 48 #[v] w fun e w' => ∃ v', e = .returned v' ∧ Fresh w.heap.size w'.heap.size w' [v'] P ∧ Below w.heap.size w w' := h ▸ specPackOf v xs w hv
theorem implPackGet_is {S : Nat → Prop} (v : Value) (xs : List Packed) (k : Int) (w : World) (hv : rd S w [v] xs) (hk : I64 k) {r : List ByteArray} {b : Bool} (h : pget xs k = (r, b)) :
    Calls Try.prog 42 #[v, .int .i64 k] w fun e w' => ∃ v', e = .returned (.tuple #[v', .bool b]) ∧ Fresh w.heap.size w'.heap.size w' [v'] r ∧ Below w.heap.size w w' :=
  (implPackGet v xs k w hv hk).mono fun e w' h' => by rw [h] at h'; exact h'

set_option maxHeartbeats 4000000 in
set_option maxRecDepth 100000 in
theorem lawFnPackOf (v0 : Value) (bs : List UInt8) (w : World) (h0 : rd (fun b => b < w.heap.size) w [v0] bs) :
    Calls Try.prog 14 #[v0] w fun e w' => e = .returned (.bool true) ∧ Below w.heap.size w w' := by
  obtain ⟨a0, c0, rfl, hs0⟩ := rd_slice_elim h0
  have hle := hs0.le
  by_cases hbig : 1048576 < bs.length
  · go_enter Try.func14, Try.ntmps14
    go_wp2
    go_ret
    exact ⟨rfl, Below.refl _ _⟩
  · go_enter Try.func14, Try.ntmps14
    go_wp2_with fail
    refine (drawPackOf_any _ bs w h0 (by omega)).mono ?_
    rintro e w1 ⟨v, xs, rfl, hfew, hx, hb1⟩
    have hx := Rep.lt hx
    have hx1 := hx
    obtain ⟨P, hPe⟩ : ∃ P, packOf xs = P := ⟨_, rfl⟩
    go_wp2_with fail
    refine (implPackOf_is v xs w1 hx hPe).mono ?_
    rintro e w2 ⟨p, rfl, hP, hb2⟩
    have hx2 := Rep.below hx (Nat.le_refl _) hb2
    have hbb2 := hb1.trans (hb2.mono hb1.size)
    obtain ⟨ap, cp, rfl, _⟩ := hP.shape
    go_wp2_with fail
    refine (specPackOf_is v xs w2 hx2 hPe).mono ?_
    rintro e w3 ⟨q, rfl, hQ, hb3⟩
    have hx3 := Rep.below hx2 (Nat.le_refl _) hb3
    have hP3 := hP.below (Nat.le_refl _) hb3
    have hbb3 := hbb2.trans (hb3.mono hbb2.size)
    have HPE := Lib.hid hPe
    clear hPe
    go_wp2_with fail
    refine (smPack_same _ _ P w3 hP3.rd hQ.rd).mono ?_
    rintro e w4 ⟨rfl, hb4⟩
    have hx4 := Rep.below hx3 (Nat.le_refl _) hb4
    have hP4 := hP3.below (Nat.le_refl _) hb4
    have hbb4 := hbb3.trans (hb4.mono hbb3.size)
    by_cases hlen : P.length = 0
    · have hl0 : ((P.length : Int) == 0) = true := by simp [hlen]
      have HL := Lib.hid hlen
      clear hlen
      go_wp2_with fail
      refine (specPackOf_is v xs w4 hx4 HPE.out).mono ?_
      rintro e w5 ⟨q2, rfl, hQ2, hb5⟩
      have hP5 := hP4.below (Nat.le_refl _) hb5
      have hbb5 := hbb4.trans (hb5.mono hbb4.size)
      go_wp2_with fail
      refine (smPack_same _ _ P w5 hP5.rd hQ2.rd).mono ?_
      rintro e w6 ⟨rfl, hb6⟩
      go_wp2
      go_ret
      exact ⟨rfl, hbb5.trans (hb6.mono hbb5.size)⟩
    · have hl0 : ((P.length : Int) == 0) = false := by simp only [beq_eq_false_iff_ne, ne_eq]; omega
      have hsays := packOf_says (l := xs) (by rw [HPE.out]; intro e; exact hlen (by rw [e]; rfl))
      rw [HPE.out] at hsays
      obtain ⟨s1, s2, s3, s4, s5⟩ := hsays
      have S3 := Lib.hid s3
      have hpl := plain_le (n := 14) hfew.1 hfew.2
      have HB : packB P = true := by rw [← HPE.out]; exact packOf_packB xs
      have HBH := Lib.hid HB
      have S5 := Lib.hid s5
      have S1 := Lib.hid s1
      clear s3 s5 hlen HB s1
      obtain ⟨ax, cx, rfl, hsx⟩ := rd_slice_elim hx4
      clear hx hx1 hx2 hx3 hP hP3 hQ hb1 hb2 hb3 hb4 hbb2 hbb3
      go_wp2
      go_loopw [5, 6] (fun s i wr => (∃ (k n : Nat), k ≤ xs.length ∧ i = .int .i64 k ∧ s = .int .i64 n ∧ n + bsum plainOf (xs.drop k) ≤ 266 ∧ Hid (bsum plainOf xs = n + bsum plainOf (xs.drop k))) ∧ Below w4.heap.size w4 wr) (fun _ i _ => xs.length - (intOf i).toNat)
      case atStart => exact ⟨⟨0, 0, by omega, rfl, rfl, by simpa using hpl, by show _ = _; simp⟩, Below.refl _ _⟩
      case round =>
        obtain ⟨⟨k, n, hk, rfl, rfl, hn, HA⟩, hb⟩ := hrel
        by_cases hlt : k < xs.length
        · have hPk := hP4.below (Nat.le_refl _) hb
          have HG := Lib.hid (S3.out k hlt)
          go_wp2_with fail
          refine (implPackGet_is _ P k _ hPk.rd (i64_nat (by omega)) HG.out).mono ?_
          rintro e w5 ⟨t, rfl, hT, hb5⟩
          have hb6 := hb.trans (hb5.mono hb.size)
          obtain ⟨g, off, b, m, rfl, hc, hl⟩ := elem_SS (hsx.below (Nat.le_refl _) hb6) hlt
          have hdrop := bsum_drop plainOf xs k hlt
          have HD := Lib.hid hdrop
          go_wp2_with fail
          refine (smTexts_eq _ _ xs[k] _ hT.rd hl.rd).mono ?_
          rintro e w6 ⟨rfl, hb7⟩
          have hc := keepc hc hb7
          have hb8 := hb6.trans (hb7.mono hb6.size)
          by_cases hpos : 0 < xs[k].length
          · have hd : decide (0 < xs[k].length) = true := decide_eq_true hpos
            have hpo : plainOf xs[k] = xs[k].length + 1 := by unfold plainOf; rw [if_pos hpos]
            have hn1 : n + (xs[k].length + 1) + bsum plainOf (xs.drop (k + 1)) ≤ 266 := by omega
            have hn2 : n + xs[k].length + 1 ≤ 266 := by omega
            have HP := Lib.hid hpo
            clear hpo hdrop hn
            go_wp2
            go_roundw
            case rel => exact ⟨⟨k + 1, n + (xs[k].length + 1), by omega, by go_num, by go_num, hn1, by show _ = _; rw [HA.out, HD.out, HP.out]; omega⟩, hb8⟩
            case measure => simp [intOf]; omega
          · have hd : decide (0 < xs[k].length) = false := decide_eq_false hpos
            have hpo : plainOf xs[k] = xs[k].length := by unfold plainOf; rw [if_neg hpos]; omega
            have hn1 : n + xs[k].length + bsum plainOf (xs.drop (k + 1)) ≤ 266 := by omega
            have hn2 : n + xs[k].length ≤ 266 := by omega
            have HP := Lib.hid hpo
            clear hpo hdrop hn
            go_wp2
            go_roundw
            case rel => exact ⟨⟨k + 1, n + xs[k].length, by omega, by go_num, by go_num, hn1, by show _ = _; rw [HA.out, HD.out, HP.out]; omega⟩, hb8⟩
            case measure => simp [intOf]; omega
        · have hz := bsum_end plainOf xs k hlt
          have hPk := hP4.below (Nat.le_refl _) hb
          have hS5 := S5.out
          have hHA := HA.out
          have hle2 : sizeP P ≤ (n : Int) := by omega
          have hleq : decide (sizeP P ≤ (n : Int)) = true := decide_eq_true hle2
          have hll : ((P.length : Int) == (xs.length : Int)) = true := by simp [S1.out]
          clear hz hS5 hHA
          go_wp2_with fail
          refine (implPackOk_is _ P _ hPk.rd HBH.out).mono ?_
          rintro e w5 ⟨rfl, hb5⟩
          have hPk5 := hPk.below (Nat.le_refl _) hb5
          go_wp2_with fail
          refine (implPackSize _ P _ hPk5.rd).mono ?_
          rintro e w6 ⟨rfl, hb6⟩
          go_wp2
          go_ret
          have hbz := hbb4.trans (hb.mono hbb4.size)
          exact ⟨rfl, (hbz.trans (hb5.mono hbz.size)).trans (hb6.mono (by have := hb5.size; have := hbz.size; omega))⟩
end Go.Proofs.Ytjfhbepnomnalaa
namespace Go.Vc
theorem pget_true {xs : List Packed} {k : Int} {r : List ByteArray} (h : pget xs k = (r, true)) : ∃ q : Nat, k = (q : Int) ∧ q < xs.length ∧ packB xs = true ∧ getAt xs q = (r, true) := by
  unfold pget at h
  by_cases hp : packB xs = true
  · rw [if_pos hp] at h
    by_cases hw : withinB k 0 ((xs.length : Int) - 1) = true
    · rw [if_pos hw] at h
      have hr := (withinB_iff _ _ _).1 hw
      exact ⟨k.toNat, by omega, by omega, hp, h⟩
    · rw [if_neg hw] at h; simp at h
  · rw [if_neg hp] at h; simp at h
theorem pget_get {xs : List Packed} {q : Nat} (hp : packB xs = true) (hq : q < xs.length) : pget xs q = getAt xs q := by
  rw [pget_in hp hq]
  have := ((packB_of hp).1 q hq).2.1
  rw [← this]
end Go.Vc
namespace Go.Proofs.Ytjfhbepnomnalaa
open Go.RowKit Go.Vc
open Go.Vc.Rep (rd)
open Go.Vc.Own (own)

theorem specPackGet_is {S : Nat → Prop} (v : Value) (xs : List Packed) (k : Int) (w : World) (hv : rd S w [v] xs) (hk : I64 k) (hl : xs.length ≤ 1048576) {r : List ByteArray} {b : Bool} (h : pget xs k = (r, b)) :
    Calls Try.prog 43 #[v, .int .i64 k] w fun e w' => ∃ v', e = .returned (.tuple #[v', .bool b]) ∧ Fresh w.heap.size w'.heap.size w' [v'] r ∧ Below w.heap.size w w' :=
  (specPackGet v xs k w hv hk hl).mono fun e w' h' => by rw [h] at h'; exact h'

set_option maxHeartbeats 4000000 in
set_option maxRecDepth 100000 in
theorem lawFnPackGet (v0 : Value) (bs : List UInt8) (w : World) (h0 : rd (fun b => b < w.heap.size) w [v0] bs) :
    Calls Try.prog 9 #[v0] w fun e w' => e = .returned (.bool true) ∧ Below w.heap.size w w' := by
  obtain ⟨a0, c0, rfl, hs0⟩ := rd_slice_elim h0
  have hle := hs0.le
  by_cases hbig : 1048576 < bs.length
  · go_enter Try.func9, Try.ntmps9
    go_wp2
    go_ret
    exact ⟨rfl, Below.refl _ _⟩
  · go_enter Try.func9, Try.ntmps9
    go_wp2_with fail
    refine (drawPackGet_any _ bs w h0 (by omega)).mono ?_
    rintro e w1 ⟨v, xs, k, rfl, hxl, hk0, hk1, hx, hb1⟩
    have hx := Rep.lt hx
    have hki : I64 k := by unfold I64; omega
    obtain ⟨r, ok, hr⟩ : ∃ r ok, pget xs k = (r, ok) := ⟨_, _, rfl⟩
    obtain ⟨pb, hpb⟩ : ∃ pb, packB xs = pb := ⟨_, rfl⟩
    go_wp2_with fail
    refine (implPackGet_is v xs k w1 hx hki hr).mono ?_
    rintro e w2 ⟨t, rfl, hT, hb2⟩
    have hx := Rep.below hx (Nat.le_refl _) hb2
    have HB := hb1.trans (hb2.mono hb1.size)
    go_wp2_with fail
    refine (specPackGet_is v xs k w2 hx hki (by omega) hr).mono ?_
    rintro e w3 ⟨u, rfl, hU, hb3⟩
    have hx := Rep.below hx (Nat.le_refl _) hb3
    have hT := hT.below (Nat.le_refl _) hb3
    have HB := HB.trans (hb3.mono HB.size)
    have HR := Lib.hid hr
    have HP := Lib.hid hpb
    clear hr hpb hb1 hb2 hb3
    go_wp2_with fail
    refine (smTexts_eq _ _ r w3 hT.rd hU.rd).mono ?_
    rintro e w4 ⟨rfl, hb4⟩
    have hx := Rep.below hx (Nat.le_refl _) hb4
    have hT := hT.below (Nat.le_refl _) hb4
    have hU := hU.below (Nat.le_refl _) hb4
    have HB := HB.trans (hb4.mono HB.size)
    clear hb4
    go_wp2_with fail
    refine (implPackOk_is v xs w4 hx HP.out).mono ?_
    rintro e w5 ⟨rfl, hb5⟩
    have hx := Rep.below hx (Nat.le_refl _) hb5
    have hT := hT.below (Nat.le_refl _) hb5
    have hU := hU.below (Nat.le_refl _) hb5
    have HB := HB.trans (hb5.mono HB.size)
    clear hb5
    go_wp2_with fail
    refine (specPackOk_is v xs w5 hx (by omega) HP.out).mono ?_
    rintro e w6 ⟨rfl, hb6⟩
    have hx := Rep.below hx (Nat.le_refl _) hb6
    have hT := hT.below (Nat.le_refl _) hb6
    have hU := hU.below (Nat.le_refl _) hb6
    have HB := HB.trans (hb6.mono HB.size)
    clear hb6
    have hpp : (pb != pb) = false := by simp
    have hpe : (pb == pb) = true := by simp
    cases ok with
    | false =>
      go_wp2_with fail
      refine (smTexts_eq _ _ r w6 hT.rd hU.rd).mono ?_
      rintro e w7 ⟨rfl, hb7⟩
      have hx := Rep.below hx (Nat.le_refl _) hb7
      have HB := HB.trans (hb7.mono HB.size)
      go_wp2_with fail
      refine (implPackOk_is v xs w7 hx HP.out).mono ?_
      rintro e w8 ⟨rfl, hb8⟩
      have hx := Rep.below hx (Nat.le_refl _) hb8
      have HB := HB.trans (hb8.mono HB.size)
      go_wp2_with fail
      refine (specPackOk_is v xs w8 hx (by omega) HP.out).mono ?_
      rintro e w9 ⟨rfl, hb9⟩
      have HB := HB.trans (hb9.mono HB.size)
      go_wp2
      go_ret
      exact ⟨rfl, HB⟩
    | true =>
      obtain ⟨q, rfl, hq, hp, hg⟩ := pget_true HR.out
      obtain ⟨hgd, _⟩ := packB_of hp
      obtain ⟨hf1, hf2, hf3⟩ := (hgd q hq).1 hq
      have hfm : ∀ j, j ≤ q → PForm xs j := fun j hj => (hgd j (by omega)).1
      obtain ⟨av, cv, rfl, hsx⟩ := rd_slice_elim hx
      obtain ⟨g, off, b1, n1, rfl, hc0, hc1, hi1, hl1⟩ := (hsx.alloc (.cells #[] 9)).packed hq
      have hx2 := (hsx.alloc (.cells #[] 9)).rd
      have hT2 := hT.alloc (.cells #[] 9)
      have HB2 := HB.alloc HB.size (.cells #[] 9)
      by_cases h1 : xs[q].base = -1
      · have hd : dDo [] xs[q].pcs = (r, true) := by rw [dDo_ok rfl hf3, ← getAt_none hq h1]; exact hg
        have HD := Lib.hid hd
        rw [h1] at hc0
        have hlt : decide ((-1 : Int) < (q : Int)) = true := decide_eq_true (by omega)
        clear h1 hf1 hf2 hi1 hd
        go_wp2_with fail
        refine (implDo_is _ [] _ xs[q].pcs _ (Fresh.empty (β := ByteArray) (by decide) w6.heap.size w6 (Nat.le_refl _)).rd hl1.rd HD.out).mono ?_
        rintro e w7 ⟨x, rfl, hX, hb7⟩
        have hT3 := hT2.below (Nat.le_refl _) hb7
        have HB3 := HB2.trans (hb7.mono HB2.size)
        have hc0 := keepc hc0 hb7
        go_wp2_with fail
        refine (smTexts_eq _ _ r w7 hX.rd hT3.rd).mono ?_
        rintro e w8 ⟨rfl, hb8⟩
        have hc0 := keepc hc0 hb8
        have HB4 := HB3.trans (hb8.mono HB3.size)
        go_wp2
        go_ret
        exact ⟨rfl, HB4⟩
      · obtain ⟨z, hz⟩ : ∃ z : Nat, xs[q].base = z := ⟨xs[q].base.toNat, by omega⟩
        have hzq : z < q := by omega
        obtain ⟨tz, hgz⟩ : ∃ tz, getAt xs z = (tz, true) := ⟨(getAt xs z).1, by have := (hgd z (by omega)).2.1; rw [← this]⟩
        have htz : textB tz = true := by
          have := getAt_text (xs := xs) (k := z) (by omega) (fun j hj => hfm j (by omega)) (by rw [hgz])
          rw [hgz] at this
          exact this
        have hd : dDo tz xs[q].pcs = (r, true) := by
          rw [dDo_ok htz hf3, ← hg, getAt_base hq hfm hz, hgz, if_pos rfl]
        have hpz : pget xs (z : Int) = (tz, true) := by rw [pget_get hp (by omega), hgz]
        have HD := Lib.hid hd
        have HZ := Lib.hid hpz
        rw [hz] at hc0
        have hlt : decide ((z : Int) < (q : Int)) = true := decide_eq_true (by omega)
        have hlt2 : decide (z < q) = true := decide_eq_true hzq
        clear h1 hf1 hf2 hi1 hd hz hgz hpz htz
        go_wp2_with fail
        refine (implPackGet_is _ xs z _ hx2 (i64_nat (by omega)) HZ.out).mono ?_
        rintro e w7 ⟨y, rfl, hY, hb7⟩
        have hT3 := hT2.below (Nat.le_refl _) hb7
        have HB3 := HB2.trans (hb7.mono HB2.size)
        have hl2 := hl1.below (Nat.le_refl _) hb7
        have hc0 := keepc hc0 hb7
        have hc1 := keepc hc1 hb7
        go_wp2_with fail
        refine (implDo_is _ tz _ xs[q].pcs _ hY.rd hl2.rd HD.out).mono ?_
        rintro e w8 ⟨x, rfl, hX, hb8⟩
        have hT4 := hT3.below (Nat.le_refl _) hb8
        have HB4 := HB3.trans (hb8.mono HB3.size)
        have hc0 := keepc hc0 hb8
        go_wp2_with fail
        refine (smTexts_eq _ _ r w8 hX.rd hT4.rd).mono ?_
        rintro e w9 ⟨rfl, hb9⟩
        have hc0 := keepc hc0 hb9
        have HB5 := HB4.trans (hb9.mono HB4.size)
        go_wp2
        go_ret
        exact ⟨rfl, HB5⟩
end Go.Proofs.Ytjfhbepnomnalaa
namespace Go.Vc
section
variable {xs : List Packed} {n : Nat}
theorem pform_take {j : Nat} (h : PForm xs j) : PForm (xs.take n) j := by
  intro hj
  rw [List.getElem_take]
  exact h (by simp at hj; omega)
theorem getAt_take (hf : ∀ j, j < xs.length → PForm xs j) : ∀ (m j : Nat), j < m → j < (xs.take n).length → getAt (xs.take n) j = getAt xs j ∧ deepAt (xs.take n) j = deepAt xs j
  | 0, j, h, _ => by omega
  | m + 1, j, h, hj => by
    have hj' : j < xs.length := by simp at hj; omega
    have hb : (xs.take n)[j] = xs[j] := List.getElem_take
    obtain ⟨h1, h2, _⟩ := hf j hj' hj'
    have hf' : ∀ i, i ≤ j → PForm xs i := fun i hi => hf i (by omega)
    by_cases h0 : xs[j].base = -1
    · rw [getAt_none hj (by rw [hb]; exact h0), getAt_none hj' h0, deepAt_none hj (by rw [hb]; exact h0), deepAt_none hj' h0, hb]
      exact ⟨rfl, rfl⟩
    · obtain ⟨q, hq⟩ : ∃ q : Nat, xs[j].base = q := ⟨xs[j].base.toNat, by omega⟩
      obtain ⟨i1, i2⟩ := getAt_take hf m q (by omega) (by omega)
      rw [getAt_base hj (fun i hi => pform_take (hf' i hi)) (by rw [hb]; exact hq), getAt_base hj' hf' hq, deepAt_base hj (fun i hi => pform_take (hf' i hi)) (by rw [hb]; exact hq), deepAt_base hj' hf' hq, hb, i1, i2]
      exact ⟨rfl, rfl⟩
theorem packB_take (h : packB xs = true) : packB (xs.take n) = true := by
  obtain ⟨h1, h2⟩ := packB_of h
  refine packB_t (fun j hj => ?_) (by simp; omega)
  have hj' : j < xs.length := by simp at hj; omega
  obtain ⟨e1, e2⟩ := getAt_take (n := n) (fun j hj => (h1 j hj).1) (j + 1) j (by omega) hj
  obtain ⟨g1, g2, g3⟩ := h1 j hj'
  exact ⟨pform_take g1, by rw [e1]; exact g2, by rw [e2]; exact g3⟩
theorem pget_take (h : packB xs = true) {j : Nat} (hj : j < n) (hj' : j < xs.length) : pget (xs.take n) (j : Int) = pget xs (j : Int) := by
  have hl : j < (xs.take n).length := by simp; omega
  rw [pget_get h hj', pget_get (packB_take h) hl]
  exact (getAt_take (fun j hj => ((packB_of h).1 j hj).1) (j + 1) j (by omega) hl).1
theorem sizeP_take (h : packB xs = true) : sizeP (xs.take n) ≤ sizeP xs := by
  rw [sizeP, if_pos (packB_take h), sizeP, if_pos h]
  have := bsum_take_le (fun p : Packed => sizeD p.pcs) xs n
  omega
end
end Go.Vc
namespace Go.Proofs.Ytjfhbepnomnalaa
open Go.RowKit Go.Vc
open Go.Vc.Rep (rd)
open Go.Vc.Own (own)

theorem implPackSize_is {S : Nat → Prop} (v : Value) (xs : List Packed) (w : World) (hv : rd S w [v] xs) {z : Int} (h : sizeP xs = z) :
    Calls Try.prog 45 #[v] w fun e w' => e = .returned (.int .i64 z) ∧ Below w.heap.size w w' := h ▸ implPackSize v xs w hv
theorem specPackSize_is {S : Nat → Prop} (v : Value) (xs : List Packed) (w : World) (hv : rd S w [v] xs) (hl : xs.length ≤ 1048576) {z : Int} (h : sizeP xs = z) :
    Calls Try.prog 44 #[v] w fun e w' => e = .returned (.int .i64 z) ∧ Below w.heap.size w w' := h ▸ specPackSize v xs w hv hl

set_option maxHeartbeats 4000000 in
set_option maxRecDepth 100000 in
theorem lawFnPackFew (v0 : Value) (bs : List UInt8) (v1 : Value) (ms : List UInt8) (w : World) (h0 : rd (fun b => b < w.heap.size) w [v0] bs) (h1 : rd (fun b => b < w.heap.size) w [v1] ms) :
    Calls Try.prog 11 #[v0, v1] w fun e w' => e = .returned (.bool true) ∧ Below w.heap.size w w' := by
  obtain ⟨a0, c0, rfl, hs0⟩ := rd_slice_elim h0
  obtain ⟨a1, c1, rfl, hs1⟩ := rd_slice_elim h1
  have hle := hs0.le
  have hle1 := hs1.le
  by_cases hbig : 1048576 < bs.length
  · go_enter Try.func11, Try.ntmps11
    go_wp2
    go_ret
    exact ⟨rfl, Below.refl _ _⟩
  · by_cases hbig1 : 1048576 < ms.length
    · go_enter Try.func11, Try.ntmps11
      go_wp2
      go_ret
      exact ⟨rfl, Below.refl _ _⟩
    · go_enter Try.func11, Try.ntmps11
      go_wp2_with fail
      refine (drawPackSize_any _ bs w h0 (by omega)).mono ?_
      rintro e w1 ⟨v, xs, rfl, hxl, hx, hb1⟩
      have hx := Rep.lt hx
      obtain ⟨z, hz⟩ : ∃ z, sizeP xs = z := ⟨_, rfl⟩
      have HZ := Lib.hid hz
      go_wp2_with fail
      refine (implPackSize_is v xs w1 hx hz).mono ?_
      rintro e w2 ⟨rfl, hb2⟩
      have hx := Rep.below hx (Nat.le_refl _) hb2
      have HB := hb1.trans (hb2.mono hb1.size)
      go_wp2_with fail
      refine (specPackSize_is v xs w2 hx (by omega) hz).mono ?_
      rintro e w3 ⟨rfl, hb3⟩
      have hx := Rep.below hx (Nat.le_refl _) hb3
      have HB := HB.trans (hb3.mono HB.size)
      have hzz : (z != z) = false := by simp
      have hze : (z == z) = true := by simp
      clear hz hb1 hb2 hb3
      cases hp : packB xs with
      | false =>
        have hz1 : z = -1 := by rw [← HZ.out, sizeP, if_neg (by rw [hp]; simp)]
        have hzn : z < 0 := by omega
        have hznd : decide (z < 0) = true := decide_eq_true hzn
        have HP := Lib.hid hp
        clear hz1 hp
        go_wp2_with fail
        refine (specPackSize_is v xs w3 hx (by omega) HZ.out).mono ?_
        rintro e w4 ⟨rfl, hb4⟩
        have hx := Rep.below hx (Nat.le_refl _) hb4
        have HB := HB.trans (hb4.mono HB.size)
        go_wp2_with fail
        refine (implPackOk_is v xs w4 hx HP.out).mono ?_
        rintro e w5 ⟨rfl, hb5⟩
        have HB := HB.trans (hb5.mono HB.size)
        go_wp2
        go_ret
        exact ⟨rfl, HB⟩
      | true =>
        have hz0 : 0 ≤ z := by rw [← HZ.out, sizeP, if_pos hp]; omega
        have hznd : decide (z < 0) = false := decide_eq_false (by omega)
        obtain ⟨k, hk⟩ : ∃ k, k = ms.length % (xs.length + 1) := ⟨_, rfl⟩
        have hkl : k ≤ xs.length := by have := Nat.mod_lt ms.length (show 0 < xs.length + 1 by omega); omega
        have hrem : (ms.length : Int) % ((xs.length : Int) + 1) = (k : Int) := by rw [hk]; simp
        obtain ⟨av, cv, rfl, hsx⟩ := rd_slice_elim hx
        have hct := run_cut0 slz_packed.slt av xs.length cv k (by have := hsx.1; omega)
        have htk : (xs.take k).length = k := by simp; omega
        have HTK := Lib.hid htk
        have HP := Lib.hid hp
        clear hp htk hk
        go_wp2
        simp only [hrem]
        clear hct hrem
        obtain ⟨wo, rfl⟩ : ∃ wo : World, wo = w3 := ⟨_, rfl⟩
        go_loopw [9] (fun i wr => (∃ i' : Nat, i' ≤ k ∧ i = .int .i64 i') ∧ Below wo.heap.size wo wr) (fun i _ => k - (intOf i).toNat)
        case atStart => exact ⟨⟨0, by omega, rfl⟩, Below.refl _ _⟩
        case round =>
          obtain ⟨⟨i, hi, rfl⟩, hb⟩ := hrel
          have hsr := hsx.below (Nat.le_refl _) hb
          have hfw : rd (fun b => b < w1.heap.size) wr [.slice av k cv] (xs.take k) := by
            have := (hsr.take k).rd
            rw [HTK.out] at this
            exact this
          by_cases hik : i < k
          · have hil : i < xs.length := by omega
            have HG := Lib.hid (pget_in HP.out hil)
            have HG2 := Lib.hid ((pget_take (n := k) HP.out hik hil).trans HG.out)
            go_wp2_with fail
            refine (implPackGet_is _ xs i _ hsr.rd (i64_nat (by omega)) HG.out).mono ?_
            rintro e w5 ⟨x, rfl, hX, hb5⟩
            have hfw := Rep.below hfw (Nat.le_refl _) hb5
            have hb := hb.trans (hb5.mono hb.size)
            go_wp2_with fail
            refine (implPackGet_is _ (xs.take k) i _ hfw (i64_nat (by omega)) HG2.out).mono ?_
            rintro e w6 ⟨y, rfl, hY, hb6⟩
            have hX := hX.below (Nat.le_refl _) hb6
            have hb := hb.trans (hb6.mono hb.size)
            go_wp2_with fail
            refine (smTexts_eq _ _ (getAt xs i).1 _ hX.rd hY.rd).mono ?_
            rintro e w7 ⟨rfl, hb7⟩
            have hb := hb.trans (hb7.mono hb.size)
            go_wp2
            go_roundw
            case rel => exact ⟨⟨i + 1, by omega, by go_num⟩, hb⟩
            case measure => simp [intOf]; omega
          · obtain ⟨y, hy⟩ : ∃ y, sizeP (xs.take k) = y := ⟨_, rfl⟩
            have hyz : y ≤ z := by rw [← hy, ← HZ.out]; exact sizeP_take HP.out
            have hyd : decide (y ≤ z) = true := decide_eq_true hyz
            have HY := Lib.hid hy
            clear hy
            go_wp2_with fail
            refine (implPackOk_is _ (xs.take k) _ hfw (packB_take HP.out)).mono ?_
            rintro e w5 ⟨rfl, hb5⟩
            have hfw := Rep.below hfw (Nat.le_refl _) hb5
            have hb := hb.trans (hb5.mono hb.size)
            go_wp2_with fail
            refine (implPackSize_is _ (xs.take k) _ hfw HY.out).mono ?_
            rintro e w6 ⟨rfl, hb6⟩
            have hb := hb.trans (hb6.mono hb.size)
            go_wp2
            go_ret
            exact ⟨rfl, HB.trans (hb.mono HB.size)⟩
end Go.Proofs.Ytjfhbepnomnalaa
