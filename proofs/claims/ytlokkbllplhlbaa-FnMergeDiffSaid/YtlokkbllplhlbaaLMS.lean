/-
  The walk of a law: MergeSide.
-/
import Derived.Test.YtlokkbllplhlbaaDrawG
import Derived.Test.YtlokkbllplhlbaaWG6
import Derived.Test.YtlokkbllplhlbaaWG7
import Derived.Test.YtlokkbllplhlbaaPlMS
import Derived.Test.YtlokkbllplhlbaaWEq
set_option linter.unusedVariables false
namespace Go.Proofs.Ytlokkbllplhlbaa
open Go.RowKit Go.Vc
open Go.Vc.Rep (rd)
open Go.Vc.Own (own)

theorem results_tmp4 {fn : Func} {t u v x : Tmp} (h : fn.results = #[.tmp t, .tmp u, .tmp v, .tmp x]) (tmps : Array Value) (P : Program) (w : World) :
    (results fn tmps).run P w = .ok (.tuple #[tmps.getD t undef, tmps.getD u undef, tmps.getD v undef, tmps.getD x undef]) w := by
  simp [results, h]
set_option maxHeartbeats 1000000 in
theorem drawMergeSide_any {S : Nat → Prop} (v : Value) (bs : List UInt8) (w : World) (hv : rd S w [v] bs) (hl : bs.length ≤ 1048576) :
    Calls Try.prog 14 #[v] w fun e w' => ∃ (v u x : Value) (os xs ys : List ByteArray) (s : Int), e = .returned (.tuple #[v, u, x, .int .i64 s]) ∧ os.length ≤ 18 ∧ xs.length ≤ 18 ∧ ys.length ≤ 18 ∧ rd (fun b => w.heap.size ≤ b) w' [v] os ∧ rd (fun b => w.heap.size ≤ b) w' [u] xs ∧ rd (fun b => w.heap.size ≤ b) w' [x] ys ∧ Below w.heap.size w w' := by
  obtain ⟨a, cap, rfl, hs⟩ := rd_slice_elim hv
  go_enter Try.func14, Try.ntmps14
  go_wp2_with fail
  refine (l30Three_any _ bs w hs.rd hl).mono ?_
  rintro e w1 ⟨v, u, x, os, xs, ys, rfl, r⟩
  go_wp2
  refine bodyPost_ret (results_tmp4 rfl _ _ _) rfl ?_
  exact ⟨v, u, x, os, xs, ys, _, rfl, r⟩
theorem smTexts_b {S T : Nat → Prop} (v u : Value) (xs ys : List ByteArray) (w : World) (hv : rd S w [v] xs) (hu : rd T w [u] ys) {b : Bool} (h : decide (xs = ys) = b) :
    Calls Try.prog 17 #[v, u] w fun e w' => e = .returned (.bool b) ∧ Below w.heap.size w w' :=
  (smTexts_is v u xs ys w hv hu h).mono fun e w' h' => by
    obtain ⟨h1, n, rfl⟩ := h'
    exact ⟨h1, below_drewN (Below.refl _ _) n⟩
theorem implMergeSide_is {S T U : Nat → Prop} (v u x : Value) (o a b : List ByteArray) (s : Int) (w : World) (hv : rd S w [v] o) (hu : rd T w [u] a) (hx : rd U w [x] b) {r : List ByteArray} {c : Bool} (h : mSide o a b s = (r, c)) :
    Calls Try.prog 15 #[v, u, x, .int .i64 s] w fun e w' => ∃ v', e = .returned (.tuple #[v', .bool c]) ∧ Fresh w.heap.size w'.heap.size w' [v'] r ∧ Below w.heap.size w w' :=
  (implMergeSide v u x o a b s w hv hu hx).mono fun e w' h' => by rw [h] at h'; exact h'
theorem specMergeSide_is {S T U : Nat → Prop} (v u x : Value) (o a b : List ByteArray) (s : Int) (w : World) (hv : rd S w [v] o) (hu : rd T w [u] a) (hx : rd U w [x] b) {r : List ByteArray} {c : Bool} (h : mSide o a b s = (r, c)) :
    Calls Try.prog 16 #[v, u, x, .int .i64 s] w fun e w' => ∃ v', e = .returned (.tuple #[v', .bool c]) ∧ Fresh w.heap.size w'.heap.size w' [v'] r ∧ Below w.heap.size w w' :=
  (specMergeSide v u x o a b s w hv hu hx).mono fun e w' h' => by rw [h] at h'; exact h'
theorem implMergeText_is {S T U : Nat → Prop} (v u x : Value) (o a b : List ByteArray) (w : World) (hv : rd S w [v] o) (hu : rd T w [u] a) (hx : rd U w [x] b) {r : List ByteArray} {c : Bool} (h : mText o a b = (r, c)) :
    Calls Try.prog 18 #[v, u, x] w fun e w' => ∃ v', e = .returned (.tuple #[v', .bool c]) ∧ Fresh w.heap.size w'.heap.size w' [v'] r ∧ Below w.heap.size w w' :=
  (implMergeText v u x o a b w hv hu hx).mono fun e w' h' => by rw [h] at h'; exact h'
theorem specMergeText_is {S T U : Nat → Prop} (v u x : Value) (o a b : List ByteArray) (w : World) (hv : rd S w [v] o) (hu : rd T w [u] a) (hx : rd U w [x] b) {r : List ByteArray} {c : Bool} (h : mText o a b = (r, c)) :
    Calls Try.prog 36 #[v, u, x] w fun e w' => ∃ v', e = .returned (.tuple #[v', .bool c]) ∧ Fresh w.heap.size w'.heap.size w' [v'] r ∧ Below w.heap.size w w' :=
  (specMergeText v u x o a b w hv hu hx).mono fun e w' h' => by rw [h] at h'; exact h'

set_option maxHeartbeats 4000000 in
set_option maxRecDepth 100000 in
theorem lawFnMergeSide (v0 : Value) (bs : List UInt8) (w : World) (h0 : rd (fun b => b < w.heap.size) w [v0] bs) :
    Calls Try.prog 4 #[v0] w fun e w' => e = .returned (.bool true) ∧ Below w.heap.size w w' := by
  obtain ⟨a0, c0, rfl, hs0⟩ := rd_slice_elim h0
  have hle := hs0.le
  by_cases hbig : 1048576 < bs.length
  · go_enter Try.func4, Try.ntmps4
    go_wp2
    go_ret
    exact ⟨rfl, Below.refl _ _⟩
  · go_enter Try.func4, Try.ntmps4
    go_wp2_with fail
    refine (drawMergeSide_any _ bs w h0 (by omega)).mono ?_
    rintro e w1 ⟨v, u, x, os, xs, ys, s, rfl, _, _, _, ho, hx, hy, HB⟩
    have ho := Rep.lt ho
    have hx := Rep.lt hx
    have hy := Rep.lt hy
    obtain ⟨r, hr⟩ : ∃ r, mSide os xs ys s = r := ⟨_, rfl⟩
    obtain ⟨r, c⟩ := r
    have HR := Lib.hid hr
    clear hr
    go_wp2_with fail
    refine (implMergeSide_is _ _ _ os xs ys s _ ho hx hy HR.out).mono ?_
    rintro e w2 ⟨p, rfl, hP, hb2⟩
    have ho := Rep.lt (Rep.keep ho hb2)
    have hx := Rep.lt (Rep.keep hx hb2)
    have hy := Rep.lt (Rep.keep hy hb2)
    have hP := Rep.lt hP.rd
    have HB := HB.trans (hb2.mono HB.size)
    go_wp2_with fail
    refine (specMergeSide_is _ _ _ os xs ys s _ ho hx hy HR.out).mono ?_
    rintro e w3 ⟨q, rfl, hQ, hb3⟩
    have ho := Rep.lt (Rep.keep ho hb3)
    have hx := Rep.lt (Rep.keep hx hb3)
    have hy := Rep.lt (Rep.keep hy hb3)
    have hP := Rep.lt (Rep.keep hP hb3)
    have hQ := Rep.lt hQ.rd
    have HB := HB.trans (hb3.mono HB.size)
    have hcc : (c != c) = false := by simp

    cases c with
    | false =>
      go_wp2_with fail
      refine (smTexts_b _ _ r r _ hP hQ (decide_eq_true rfl)).mono ?_
      rintro e w4 ⟨rfl, hb4⟩
      have ho := Rep.lt (Rep.keep ho hb4)
      have hx := Rep.lt (Rep.keep hx hb4)
      have hy := Rep.lt (Rep.keep hy hb4)
      have hP := Rep.lt (Rep.keep hP hb4)
      have hQ := Rep.lt (Rep.keep hQ hb4)
      have HB := HB.trans (hb4.mono HB.size)
      go_wp2_with fail
      refine (smTexts_b _ _ r r _ hP hQ (decide_eq_true rfl)).mono ?_
      rintro e w5 ⟨rfl, hb5⟩
      have ho := Rep.lt (Rep.keep ho hb5)
      have hx := Rep.lt (Rep.keep hx hb5)
      have hy := Rep.lt (Rep.keep hy hb5)
      have hP := Rep.lt (Rep.keep hP hb5)
      have hQ := Rep.lt (Rep.keep hQ hb5)
      have HB := HB.trans (hb5.mono HB.size)
      go_wp2
      go_ret
      exact ⟨rfl, HB⟩
    | true =>
      go_wp2_with fail
      refine (smTexts_b _ _ r r _ hP hQ (decide_eq_true rfl)).mono ?_
      rintro e w4 ⟨rfl, hb4⟩
      have ho := Rep.lt (Rep.keep ho hb4)
      have hx := Rep.lt (Rep.keep hx hb4)
      have hy := Rep.lt (Rep.keep hy hb4)
      have hP := Rep.lt (Rep.keep hP hb4)
      have hQ := Rep.lt (Rep.keep hQ hb4)
      have HB := HB.trans (hb4.mono HB.size)
      obtain ⟨k1, k2, k3, k4⟩ := mSide_true HR.out
      have HT := Lib.hid (mSide_turn HR.out)
      have HK4 := Lib.hid k4
      obtain ⟨z, hz⟩ : ∃ z, mText os xs ys = z := ⟨_, rfl⟩
      obtain ⟨z, d⟩ := z
      have HZ := Lib.hid hz
      have HZX : Hid (d = true → z = r) := by
        show _ → _
        intro hd
        subst hd
        exact mText_side HR.out HZ.out
      clear hz k1 k3 k4
      have hst : turnS s = if 0 < s then 3 - s else s := rfl
      obtain ⟨t, ht⟩ : ∃ t, t = turnS s := ⟨_, rfl⟩
      rw [← ht] at HT hst
      clear ht
      have e3 : IntKind.i64.wrap (3 - s) = 3 - s := IntWalk.i64_in _ (by omega)
      by_cases hs0 : 0 < s
      all_goals
        first | rw [if_pos hs0] at hst | rw [if_neg hs0] at hst
        subst hst
        go_wp2_with fail
        refine (implMergeSide_is _ _ _ os ys xs _ _ ho hy hx HT.out).mono ?_
        rintro e w5 ⟨p2, rfl, hP2, hb5⟩
        have ho := Rep.lt (Rep.keep ho hb5)
        have hx := Rep.lt (Rep.keep hx hb5)
        have hy := Rep.lt (Rep.keep hy hb5)
        have hP := Rep.lt (Rep.keep hP hb5)
        have hQ := Rep.lt (Rep.keep hQ hb5)
        have hP2 := Rep.lt hP2.rd
        have HB := HB.trans (hb5.mono HB.size)
        go_wp2_with fail
        refine (implMergeText_is _ _ _ os xs ys _ ho hx hy HZ.out).mono ?_
        rintro e w6 ⟨p3, rfl, hP3, hb6⟩
        have ho := Rep.lt (Rep.keep ho hb6)
        have hx := Rep.lt (Rep.keep hx hb6)
        have hy := Rep.lt (Rep.keep hy hb6)
        have hP := Rep.lt (Rep.keep hP hb6)
        have hQ := Rep.lt (Rep.keep hQ hb6)
        have hP2 := Rep.lt (Rep.keep hP2 hb6)
        have hP3 := Rep.lt hP3.rd
        have HB := HB.trans (hb6.mono HB.size)
        go_wp2_with fail
        refine (smTexts_b _ _ r r _ hP2 hP (decide_eq_true rfl)).mono ?_
        rintro e w7 ⟨rfl, hb7⟩
        have ho := Rep.lt (Rep.keep ho hb7)
        have hx := Rep.lt (Rep.keep hx hb7)
        have hy := Rep.lt (Rep.keep hy hb7)
        have hP := Rep.lt (Rep.keep hP hb7)
        have hQ := Rep.lt (Rep.keep hQ hb7)
        have hP2 := Rep.lt (Rep.keep hP2 hb7)
        have hP3 := Rep.lt (Rep.keep hP3 hb7)
        have HB := HB.trans (hb7.mono HB.size)
        cases d with
        | false =>
          go_wp2_with fail
          refine (textOk_is _ _ _ hP HK4.out).mono ?_
          rintro e w' ⟨rfl, rfl⟩
          go_wp2
          go_ret
          exact ⟨rfl, HB⟩
        | true =>
          have hz2 := HZX.out rfl
          subst hz2
          go_wp2_with fail
          refine (smTexts_b _ _ _ _ _ hP3 hP (decide_eq_true rfl)).mono ?_
          rintro e w8 ⟨rfl, hb8⟩
          have ho := Rep.lt (Rep.keep ho hb8)
          have hx := Rep.lt (Rep.keep hx hb8)
          have hy := Rep.lt (Rep.keep hy hb8)
          have hP := Rep.lt (Rep.keep hP hb8)
          have hQ := Rep.lt (Rep.keep hQ hb8)
          have hP2 := Rep.lt (Rep.keep hP2 hb8)
          have hP3 := Rep.lt (Rep.keep hP3 hb8)
          have HB := HB.trans (hb8.mono HB.size)
          go_wp2_with fail
          refine (textOk_is _ _ _ hP HK4.out).mono ?_
          rintro e w' ⟨rfl, rfl⟩
          go_wp2
          go_ret
          exact ⟨rfl, HB⟩
end Go.Proofs.Ytlokkbllplhlbaa
