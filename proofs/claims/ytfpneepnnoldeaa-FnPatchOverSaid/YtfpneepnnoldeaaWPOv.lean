/-
  Walks: two patches, one over the other.
-/
import Derived.Test.YtfpneepnnoldeaaWM3
import Derived.Test.YtfpneepnnoldeaaWM4
import Derived.Test.YtfpneepnnoldeaaWP2
import Derived.Test.YtfpneepnnoldeaaWP3
import Derived.Test.YtfpneepnnoldeaaVPM
import Derived.Test.YtfpneepnnoldeaaWEq
set_option linter.unusedVariables false
namespace Go.Proofs.Ytfpneepnnoldeaa
open Go.RowKit Go.Vc
open Go.Vc.Rep (rd)
open Go.Vc.Own (own)
set_option maxHeartbeats 4000000 in
set_option maxRecDepth 100000 in
theorem implPatchOver (v u1 u2 : Value) (t : List ByteArray) (a b : List Hunk) (w : World) (hv : rd (fun b => b < w.heap.size) w [v] t) (h1 : rd (fun b => b < w.heap.size) w [u1] a) (h2 : rd (fun b => b < w.heap.size) w [u2] b) {o : Bool} (ho : (pOver t a b).2 = o) {d : List Hunk} (hd : (pOver t a b).1 = d) :
    Calls Try.prog 20 #[v, u1, u2] w fun e w' => ∃ v', e = .returned (.tuple #[v', .bool o]) ∧ Fresh w.heap.size w'.heap.size w' [v'] d ∧ Below w.heap.size w w' := by
  obtain ⟨av, cv, rfl, hs⟩ := rd_slice_elim hv
  obtain ⟨a1, c1, rfl, hs1⟩ := rd_slice_elim h1
  obtain ⟨a2, c2, rfl, hs2⟩ := rd_slice_elim h2
  have I1 := implPatchDo _ t _ a w hv h1
  obtain ⟨x, hx⟩ : ∃ x, (pDo t a).1 = x := ⟨_, rfl⟩
  obtain ⟨p, hp⟩ : ∃ p, (pDo t a).2 = p := ⟨_, rfl⟩
  rw [hx, hp] at I1
  cases p with
  | false =>
    have e := pOver_bad1 (b := b) hp
    rw [e] at ho hd
    subst ho hd
    clear hx hp e
    go_enter Try.func20, Try.ntmps20
    go_wp2_with fail
    refine I1.mono ?_
    rintro e w1 ⟨v1, rfl, hX, hb1⟩
    go_wp2
    go_ret2
    exact ⟨.slice none 0 0, rfl, Fresh.nil _ _ _ (by decide), hb1⟩
  | true =>
    have I2 := fun (q : World) (v' : Value) (hv : rd (fun b => b < q.heap.size) q [v'] x) (hu : rd (fun b => b < q.heap.size) q [.slice a2 b.length c2] b) => implPatchDo v' x _ b q hv hu
    obtain ⟨y, hy⟩ : ∃ y, (pDo x b).1 = y := ⟨_, rfl⟩
    obtain ⟨p2, hp2⟩ : ∃ p2, (pDo x b).2 = p2 := ⟨_, rfl⟩
    rw [hy, hp2] at I2
    cases p2 with
    | false =>
      have e := pOver_bad2 (t := t) (a := a) (b := b) (by rw [hx]; exact hp2)
      rw [e] at ho hd
      subst ho hd
      clear hx hp e hy hp2
      go_enter Try.func20, Try.ntmps20
      go_wp2_with fail
      refine I1.mono ?_
      rintro e w1 ⟨v1, rfl, hX, hb1⟩
      have hs1 := hb1.size
      obtain ⟨ax, cx, hxv, _⟩ := hX.shape
      subst hxv
      go_wp2_with fail
      refine (I2 _ _ (Rep.lt hX.rd) (Rep.lt (hs2.keep hb1).rd)).mono ?_
      rintro e w2 ⟨v2, rfl, hY, hb2⟩
      go_wp2
      go_ret2
      exact ⟨.slice none 0 0, rfl, Fresh.nil _ _ _ (by decide), hb1.trans (hb2.mono hs1)⟩
    | true =>
      have e := pOver_ok (t := t) (a := a) (b := b) hp (by rw [hx]; exact hp2)
      rw [e, hx, hy] at ho hd
      have ht10 := text_len10 (pDo_text hp).1
      have hy10 := text_len10 (pDo_text hp2).2.2
      rw [hy] at hy10
      have HD := Lib.hid hd
      subst ho
      clear hx hp e hy hp2 hd
      go_enter Try.func20, Try.ntmps20
      go_wp2_with fail
      refine I1.mono ?_
      rintro e w1 ⟨v1, rfl, hX, hb1⟩
      have hs1 := hb1.size
      obtain ⟨ax, cx, hxv, _⟩ := hX.shape
      subst hxv
      go_wp2_with fail
      refine (I2 _ _ (Rep.lt hX.rd) (Rep.lt (hs2.keep hb1).rd)).mono ?_
      rintro e w2 ⟨v2, rfl, hY, hb2⟩
      have hB := hb1.trans (hb2.mono hs1)
      have hsB := hB.size
      obtain ⟨ay, cy, hyv, _⟩ := hY.shape
      subst hyv
      go_wp2_with fail
      refine (diff_any _ _ t y _ (hs.keep hB).rd hY.rd ht10 hy10).mono ?_
      rintro e w3 ⟨v3, rfl, hZ, hb3⟩
      go_wp2
      go_ret2
      exact ⟨v3, rfl, by rw [← HD.out]; exact hZ.mono hsB (Nat.le_refl _), hB.trans (hb3.mono hsB)⟩
set_option maxHeartbeats 4000000 in
set_option maxRecDepth 100000 in
theorem specPatchOver (v u1 u2 : Value) (t : List ByteArray) (a b : List Hunk) (w : World) (hv : rd (fun b => b < w.heap.size) w [v] t) (h1 : rd (fun b => b < w.heap.size) w [u1] a) (h2 : rd (fun b => b < w.heap.size) w [u2] b) {o : Bool} (ho : (pOver t a b).2 = o) {d : List Hunk} (hd : (pOver t a b).1 = d) :
    Calls Try.prog 21 #[v, u1, u2] w fun e w' => ∃ v', e = .returned (.tuple #[v', .bool o]) ∧ Fresh w.heap.size w'.heap.size w' [v'] d ∧ Below w.heap.size w w' := by
  obtain ⟨av, cv, rfl, hs⟩ := rd_slice_elim hv
  obtain ⟨a1, c1, rfl, hs1⟩ := rd_slice_elim h1
  obtain ⟨a2, c2, rfl, hs2⟩ := rd_slice_elim h2
  have I1 := specPatchDo _ t _ a w hv h1
  obtain ⟨x, hx⟩ : ∃ x, (pDo t a).1 = x := ⟨_, rfl⟩
  obtain ⟨p, hp⟩ : ∃ p, (pDo t a).2 = p := ⟨_, rfl⟩
  rw [hx, hp] at I1
  have I2 := fun (q : World) (v' : Value) (hv : rd (fun b => b < q.heap.size) q [v'] x) (hu : rd (fun b => b < q.heap.size) q [.slice a2 b.length c2] b) => specPatchDo v' x _ b q hv hu
  obtain ⟨y, hy⟩ : ∃ y, (pDo x b).1 = y := ⟨_, rfl⟩
  obtain ⟨p2, hp2⟩ : ∃ p2, (pDo x b).2 = p2 := ⟨_, rfl⟩
  rw [hy, hp2] at I2
  cases hpp : (p && p2) with
  | false =>
    have e : pOver t a b = ([], false) := by
      cases p with
      | false => exact pOver_bad1 hp
      | true =>
        cases p2 with
        | false => exact pOver_bad2 (by rw [hx]; exact hp2)
        | true => cases hpp
    rw [e] at ho hd
    subst ho hd
    clear hx hp e hy hp2
    go_enter Try.func21, Try.ntmps21
    go_wp2_with fail
    refine I1.mono ?_
    rintro e w1 ⟨v1, rfl, hX, hb1⟩
    have hs1 := hb1.size
    obtain ⟨ax, cx, hxv, _⟩ := hX.shape
    subst hxv
    go_wp2_with fail
    refine (I2 _ _ (Rep.lt hX.rd) (Rep.lt (hs2.keep hb1).rd)).mono ?_
    rintro e w2 ⟨v2, rfl, hY, hb2⟩
    obtain ⟨ay, cy, hyv, _⟩ := hY.shape
    subst hyv
    cases p with
    | false =>
      go_wp2
      go_ret2
      exact ⟨.slice none 0 0, rfl, Fresh.nil _ _ _ (by decide), hb1.trans (hb2.mono hs1)⟩
    | true =>
      cases p2 with
      | false =>
        go_wp2
        go_ret2
        exact ⟨.slice none 0 0, rfl, Fresh.nil _ _ _ (by decide), hb1.trans (hb2.mono hs1)⟩
      | true => cases hpp
  | true =>
    obtain ⟨rfl, rfl⟩ : p = true ∧ p2 = true := by simpa using hpp
    have e := pOver_ok (t := t) (a := a) (b := b) hp (by rw [hx]; exact hp2)
    rw [e, hx, hy] at ho hd
    have ht10 := text_len10 (pDo_text hp).1
    have hy10 := text_len10 (pDo_text hp2).2.2
    rw [hy] at hy10
    have HD := Lib.hid hd
    subst ho
    clear hx hp e hy hp2 hd hpp
    go_enter Try.func21, Try.ntmps21
    go_wp2_with fail
    refine I1.mono ?_
    rintro e w1 ⟨v1, rfl, hX, hb1⟩
    have hs1 := hb1.size
    obtain ⟨ax, cx, hxv, _⟩ := hX.shape
    subst hxv
    go_wp2_with fail
    refine (I2 _ _ (Rep.lt hX.rd) (Rep.lt (hs2.keep hb1).rd)).mono ?_
    rintro e w2 ⟨v2, rfl, hY, hb2⟩
    have hB := hb1.trans (hb2.mono hs1)
    have hsB := hB.size
    obtain ⟨ay, cy, hyv, _⟩ := hY.shape
    subst hyv
    go_wp2_with fail
    refine (l1Of_any _ _ t y _ (hs.keep hB).rd hY.rd ht10 hy10).mono ?_
    rintro e w3 ⟨v3, rfl, hZ, hb3⟩
    go_wp2
    go_ret2
    exact ⟨v3, rfl, by rw [← HD.out]; exact hZ.mono hsB (Nat.le_refl _), hB.trans (hb3.mono hsB)⟩
set_option maxHeartbeats 4000000 in
set_option maxRecDepth 100000 in
theorem smHunks_same {S T : Nat → Prop} (v u : Value) (xs : List Hunk) (w : World) (hv : rd S w [v] xs) (hu : rd T w [u] xs) :
    Calls Try.prog 22 #[v, u] w fun e w' => e = .returned (.bool true) ∧ Below w.heap.size w w' := by
  obtain ⟨a, cap, rfl, hs⟩ := rd_slice_elim (Rep.lt hv)
  obtain ⟨b, cbp, rfl, ht⟩ := rd_slice_elim (Rep.lt hu)
  have hle := hs.le
  go_enter Try.func22, Try.ntmps22
  go_wp2
  go_loopw [5] (fun i wr => (∃ k : Nat, k ≤ xs.length ∧ i = .int .i64 k) ∧ Below w.heap.size w wr) (fun i _ => xs.length - (intOf i).toNat)
  case atStart => exact ⟨⟨0, by omega, rfl⟩, Below.refl _ _⟩
  case round =>
    obtain ⟨⟨k, hk, rfl⟩, hb⟩ := hrel
    by_cases hlt : k < xs.length
    · obtain ⟨g, off, a1, n1, a2, n2, rfl, hc0, hc1, hc2, hi, hl, hm⟩ := (hs.keep hb).hunk hlt
      obtain ⟨g', off', b1, m1, b2, m2, rfl, hd0, hd1, hd2, _, hl', hm'⟩ := (ht.keep hb).hunk hlt
      obtain ⟨f, hf⟩ : ∃ f, f = xs[k] := ⟨_, rfl⟩
      rw [← hf] at hc0 hc1 hc2 hd0 hd1 hd2 hl hm hl' hm'
      have hc0 := BW.cell hc0
      have hc1 := BW.cell hc1
      have hc2 := BW.cell hc2
      have hd0 := BW.cell hd0
      have hd1 := BW.cell hd1
      have hd2 := BW.cell hd2
      have ee : decide (f.less = f.less) = true := decide_eq_true rfl
      have ef : decide (f.more = f.more) = true := decide_eq_true rfl
      clear hf hi
      go_wp2
      refine wp_region_bw (by kernel_rfl) (by kernel_rfl) ?_
      repeat (go_big_quiet_step ((go_at_call 8; first | exact Calls.bw_drew (smTexts_any _ _ f.less f.less _ (hl.bw _).rd (hl'.bw _).rd) | exact Calls.bw_drew (smTexts_any _ _ f.more f.more _ (hm.bw _).rd (hm'.bw _).rd))))
      refine wpQuiet_nil ?_
      rintro w1 ⟨⟨_, hbw⟩, rfl⟩
      go_wp2
      go_roundw
      case rel => exact ⟨⟨k + 1, by omega, by go_num⟩, hb.trans (hbw.mono hb.size)⟩
      case measure => simp [intOf]; omega
    · go_wp2
      go_ret
      exact ⟨rfl, hb⟩
end Go.Proofs.Ytfpneepnnoldeaa
