/-
  Walks: what comes of a merge, as the program has it.
-/
import Derived.Test.YtlpfoekbccbhlaaWG2
import Derived.Test.YtlpfoekbccbhlaaVI
set_option linter.unusedVariables false
namespace Go.Proofs.Ytlpfoekbccbhlaa
open Go.RowKit Go.Vc
open Go.Vc.Rep (rd)
open Go.Vc.Own (own)

/-- as one side has it, whichever -/
def mSideV (o a b : List ByteArray) (s : Int) : List ByteArray × Bool := if threeB o a b = true then pFin (some (sideF s (mergeT o a b))) else ([], false)

set_option maxHeartbeats 1000000 in
theorem areTexts_any {S T U : Nat → Prop} (v u x : Value) (o a b : List ByteArray) (w : World) (hv : rd S w [v] o) (hu : rd T w [u] a) (hx : rd U w [x] b) :
    Calls Try.prog 21 #[v, u, x] w fun e w' => e = .returned (.bool (threeB o a b)) ∧ w = w' := by
  cases h1 : textB o with
  | false =>
    have HZ := Lib.hid (three_bad1 (a := a) (b := b) h1)
    go_enter Try.func21, Try.ntmps21
    go_wp2_with fail
    refine (textOk_is _ _ _ hv h1).mono ?_
    rintro e w' ⟨rfl, rfl⟩
    go_wp2
    go_ret
    exact ⟨ret_bool HZ.out.symm, rfl⟩
  | true =>
    cases h2 : textB a with
    | false =>
      have HZ := Lib.hid (three_bad2 (o := o) (b := b) h2)
      go_enter Try.func21, Try.ntmps21
      go_wp2_with fail
      refine (textOk_is _ _ _ hv h1).mono ?_
      rintro e w' ⟨rfl, rfl⟩
      go_wp2_with fail
      refine (textOk_is _ _ _ hu h2).mono ?_
      rintro e w' ⟨rfl, rfl⟩
      go_wp2
      go_ret
      exact ⟨ret_bool HZ.out.symm, rfl⟩
    | true =>
      have HZ := Lib.hid (show textB b = threeB o a b by rw [threeB, h1, h2]; rfl)
      go_enter Try.func21, Try.ntmps21
      go_wp2_with fail
      refine (textOk_is _ _ _ hv h1).mono ?_
      rintro e w' ⟨rfl, rfl⟩
      go_wp2_with fail
      refine (textOk_is _ _ _ hu h2).mono ?_
      rintro e w' ⟨rfl, rfl⟩
      go_wp2_with fail
      refine (textOk_is _ _ _ hx HZ.out).mono ?_
      rintro e w' ⟨rfl, rfl⟩
      go_wp2
      go_ret
      exact ⟨rfl, rfl⟩
theorem areTexts_is {S T U : Nat → Prop} (v u x : Value) (o a b : List ByteArray) (w : World) (hv : rd S w [v] o) (hu : rd T w [u] a) (hx : rd U w [x] b) {c : Bool} (h : threeB o a b = c) :
    Calls Try.prog 21 #[v, u, x] w fun e w' => e = .returned (.bool c) ∧ w = w' := by rw [← h]; exact areTexts_any v u x o a b w hv hu hx

set_option maxHeartbeats 1000000 in
theorem mergeText1_any (v0 v1 v2 v3 v4 : Value) (w : World) :
    Calls Try.prog 24 #[.agg #[v0, v1, v2, v3, v4]] w fun e w' => e = .returned (.tuple #[.slice none 0 0, .bool false]) ∧ Below w.heap.size w w' := by
  go_enter Try.func24, Try.ntmps24
  go_wp2
  go_ret2
  exact ⟨rfl, (Below.refl _ _).alloc (Nat.le_refl _) _⟩

set_option maxHeartbeats 4000000 in
set_option maxRecDepth 100000 in
theorem mergedText_any {S T U : Nat → Prop} (v u x : Value) (o as_ bs : List ByteArray) (w : World) (hv : rd S w [v] o) (hu : rd T w [u] as_) (hx : rd U w [x] bs) :
    Calls Try.prog 23 #[v, u, x, .func (Fn.func 24) #[] #[]] w fun e w' => ∃ v', e = .returned (.tuple #[v', .bool (mText o as_ bs).2]) ∧ Fresh w.heap.size w'.heap.size w' [v'] (mText o as_ bs).1 ∧ Below w.heap.size w w' := by
  have hv := Rep.lt hv
  have hu := Rep.lt hu
  have hx := Rep.lt hx
  cases h1 : threeB o as_ bs with
  | false =>
    have HD : Hid ((mText o as_ bs) = ([], false)) := by show _ = _; rw [mText, if_neg (by rw [h1]; simp)]
    go_enter Try.func23, Try.ntmps23
    go_wp2_with fail
    refine (areTexts_is _ _ _ o as_ bs _ hv hu hx h1).mono ?_
    rintro e w' ⟨rfl, rfl⟩
    go_wp2
    go_ret2
    exact ⟨.slice none 0 0, by rw [HD.out]; rfl, by rw [HD.out]; exact Fresh.nil _ _ _ (by decide), Below.refl _ _⟩
  | true =>
    obtain ⟨t1, t2, t3⟩ := three_iff.1 h1
    have HD : Hid ((mText o as_ bs) = pFin (textF (mergeT o as_ bs) [])) := by show _ = _; rw [mText, if_pos h1]
    have l1 := text_len10 t1
    have l2 := text_len10 t2
    have l3 := text_len10 t3
    have hsm := mergeT_small l1 l2 l3
    go_enter Try.func23, Try.ntmps23
    go_wp2_with fail
    refine (areTexts_is _ _ _ o as_ bs _ hv hu hx h1).mono ?_
    rintro e w' ⟨rfl, rfl⟩
    go_wp2_with fail
    refine (mergeOf_any _ _ _ o as_ bs _ hv hu hx l1 l2 l3).mono ?_
    rintro e wm ⟨vm, rfl, hM, hbm⟩
    obtain ⟨P, hP⟩ : ∃ P, P = mergeT o as_ bs := ⟨_, rfl⟩
    rw [← hP] at hM hsm HD
    clear hP h1 t1 t2 t3
    obtain ⟨am, cm, rfl, hMs⟩ := rd_slice_elim (Rep.lt hM.rd)
    have hpl := hsm.1
    have hszm := hbm.size
    skip
    go_wp2
    go_loopw [10, 26] (fun out i wr => (∃ (k : Nat) (ol : List ByteArray), k ≤ P.length ∧ i = .int .i64 k ∧ Fresh wm.heap.size wr.heap.size wr [out] ol ∧ ol.length ≤ 121 * k ∧ Hid (textF P [] = textF (P.drop k) ol)) ∧ Below wm.heap.size wm wr) (fun _ i _ => P.length - (intOf i).toNat)
    case atStart => exact ⟨⟨0, [], by omega, rfl, Fresh.nil _ _ _ (by decide), by simp, rfl⟩, Below.refl _ _⟩
    case round =>
      obtain ⟨⟨k, ol, hk, rfl, hF, hol, HA⟩, hb⟩ := hrel
      obtain ⟨a2, c2, rfl, _⟩ := hF.shape
      have hsz := hb.size
      by_cases hlt : k < P.length
      · obtain ⟨g, off, a1, c1, b2, d2, b3, d3, b4, d4, rfl, x0, x1, x2, x3, x4, y1, y2, y3, y4⟩ := (hMs.keep hb).part hlt
        have hsp := hsm.at hlt
        have HC := Lib.hid (textF_clash (R := textF P []) HA.out hlt)
        have HN := Lib.hid (textF_next (R := textF P []) HA.out hlt)
        obtain ⟨pp, hpp⟩ : ∃ pp, pp = P[k] := ⟨_, rfl⟩
        rw [← hpp] at x0 x1 x2 x3 x4 y1 y2 y3 y4 hsp HN HC
        clear hpp
        have hB9 : Below wm.heap.size wm (wr.alloc (.cells #[.bool pp.clash, .slice a1 pp.lines.length c1, .slice b2 pp.old.length d2, .slice b3 pp.one.length d3, .slice b4 pp.two.length d4] 45)) := hb.alloc hsz _
        cases hcl : pp.clash with
        | false =>
          have HN2 := Lib.hid (HN.out hcl)
          rw [hcl] at x0
          clear hcl
          go_wp2_with (at_builtin; go_must (refine wpList_app_leaf slz_string.slt rfl (.tmp 43) (.tmp 44) rfl rfl (hF.alloc _) (by simp; omega) rfl rfl (y1.alloc _) (by omega) (by unfold maxLen; omega) ?_); intro a5 c5 w5 hG5)
          have hG := hG5.fresh
          go_roundw
          case rel => exact ⟨⟨k + 1, ol ++ pp.lines, by omega, by go_num, hG, by simp; omega, HN2.out⟩, (hb.alloc hsz _).trans hG5.below⟩
          case measure => simp [intOf]; omega
        | true =>
          have HZ := Lib.hid (show pFin (textF P []) = ([], false) by rw [HC.out hcl]; rfl)
          rw [hcl] at x0 hB9
          clear hcl
          go_wp2_with fail
          refine (mergeText1_any _ _ _ _ _ _).mono ?_
          rintro e w3 ⟨rfl, hb3⟩
          have hB3 := hB9.trans (hb3.mono hB9.size)
          go_wp2
          go_ret2
          exact ⟨.slice none 0 0, by rw [HD.out, HZ.out]; rfl, by rw [HD.out, HZ.out]; exact Fresh.nil _ _ _ (by decide), hbm.trans (hB3.mono hszm)⟩
      · have HE := Lib.hid (textF_end (R := textF P []) HA.out hlt)
        cases htx : textB ol with
        | false =>
          have HZ := Lib.hid (show pFin (textF P []) = ([], false) by rw [HE.out, pFin, if_neg (by rw [htx]; simp)])
          go_wp2_with fail
          refine (textOk_is _ _ _ hF.rd htx).mono ?_
          rintro e w' ⟨rfl, rfl⟩
          clear htx
          go_wp2
          go_ret2
          exact ⟨.slice none 0 0, by rw [HD.out, HZ.out]; rfl, by rw [HD.out, HZ.out]; exact Fresh.nil _ _ _ (by decide), hbm.trans (hb.mono hszm)⟩
        | true =>
          have HZ := Lib.hid (show pFin (textF P []) = (ol, true) by rw [HE.out, pFin, if_pos htx])
          go_wp2_with fail
          refine (textOk_is _ _ _ hF.rd htx).mono ?_
          rintro e w' ⟨rfl, rfl⟩
          clear htx
          go_wp2
          go_ret2
          exact ⟨_, by rw [HD.out, HZ.out]; rfl, by rw [HD.out, HZ.out]; exact hF.mono hszm (Nat.le_refl _), hbm.trans (hb.mono hszm)⟩


set_option maxHeartbeats 1000000 in
theorem implMergeText {S T U : Nat → Prop} (v u x : Value) (o a b : List ByteArray) (w : World) (hv : rd S w [v] o) (hu : rd T w [u] a) (hx : rd U w [x] b) :
    Calls Try.prog 10 #[v, u, x] w fun e w' => ∃ v', e = .returned (.tuple #[v', .bool (mText o a b).2]) ∧ Fresh w.heap.size w'.heap.size w' [v'] (mText o a b).1 ∧ Below w.heap.size w w' := by
  go_enter Try.func10, Try.ntmps10
  go_wp2_with fail
  refine (mergedText_any _ _ _ o a b _ hv hu hx).mono ?_
  rintro e w1 ⟨v', rfl, hF, hb⟩
  go_wp2
  go_ret2
  exact ⟨v', rfl, hF, hb⟩
set_option maxHeartbeats 1000000 in
theorem implMergeOf {S T U : Nat → Prop} (v u x : Value) (o a b : List ByteArray) (w : World) (hv : rd S w [v] o) (hu : rd T w [u] a) (hx : rd U w [x] b) :
    Calls Try.prog 19 #[v, u, x] w fun e w' => ∃ v', e = .returned v' ∧ Fresh w.heap.size w'.heap.size w' [v'] (mOf o a b) ∧ Below w.heap.size w w' := by
  cases h1 : threeB o a b with
  | false =>
    have HD := Lib.hid (show mOf o a b = [] by rw [mOf, if_neg (by rw [h1]; simp)])
    go_enter Try.func19, Try.ntmps19
    go_wp2_with fail
    refine (areTexts_is _ _ _ o a b _ hv hu hx h1).mono ?_
    rintro e w1 ⟨rfl, rfl⟩
    go_wp2
    go_ret
    exact ⟨.slice none 0 0, rfl, by rw [HD.out]; exact Fresh.nil _ _ _ (by decide), Below.refl _ _⟩
  | true =>
    have HD := Lib.hid (show mOf o a b = mergeT o a b by rw [mOf, if_pos h1])
    obtain ⟨t1, t2, t3⟩ := three_iff.1 h1
    go_enter Try.func19, Try.ntmps19
    go_wp2_with fail
    refine (areTexts_is _ _ _ o a b _ hv hu hx h1).mono ?_
    rintro e w1 ⟨rfl, rfl⟩
    go_wp2_with fail
    refine (mergeOf_any _ _ _ o a b _ hv hu hx (text_len10 t1) (text_len10 t2) (text_len10 t3)).mono ?_
    rintro e w1 ⟨v', rfl, hF, hb⟩
    go_wp2
    go_ret
    exact ⟨v', rfl, by rw [HD.out]; exact hF, hb⟩
end Go.Proofs.Ytlpfoekbccbhlaa
