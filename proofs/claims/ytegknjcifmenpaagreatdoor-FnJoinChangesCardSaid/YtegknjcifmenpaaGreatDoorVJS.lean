/-
  Walks: what becomes of a path, as the reference has it. / Walks: all paths in order, as the reference has them. / Walks: what two sides made of a tree, as the reference has it. / Walks: the joined tree, and whether nothing was changed on both sides, as the reference has it. / Walks: the joined tree, and whether nothing was changed on both sides, as the reference has it.
-/
import Derived.Test.YtegknjcifmenpaaGreatDoorVJA
import Derived.Test.YtegknjcifmenpaaGreatDoorVG3
import Derived.Test.YtegknjcifmenpaaGreatDoorVPJ
import Derived.Test.YtegknjcifmenpaaGreatDoorVDJ
import Derived.Test.YtegknjcifmenpaaGreatDoorVI
import Derived.Test.YtegknjcifmenpaaGreatDoorVK
import Derived.Test.YtegknjcifmenpaaGreatDoorVTR
import Derived.Test.YtegknjcifmenpaaGreatDoorVJI
set_option linter.unusedVariables false
namespace Go.Vc
open Go.RowKit
theorem mText_ok {o a b : List ByteArray} (h1 : textB o = true) (h2 : textB a = true) (h3 : textB b = true) : mText o a b = pFin (textF (mergeT o a b) []) := by
  unfold mText
  rw [if_pos (three_iff.2 ⟨h1, h2, h3⟩)]
theorem mText_len (o a b : List ByteArray) : (mText o a b).1.length ≤ 10 := by
  unfold mText
  split
  · cases h : textF (mergeT o a b) [] with
    | none => simp [pFin]
    | some x =>
      unfold pFin
      simp only
      split
      · rename_i h2; exact text_len10 h2
      · simp
  · simp
theorem joinOne_len {O A Q : Option (List ByteArray)} (h1 : (O.getD []).length ≤ 10) (h2 : (A.getD []).length ≤ 10) (h3 : (Q.getD []).length ≤ 10) : ((joinOne O A Q).1.getD []).length ≤ 10 := by
  unfold joinOne
  split
  · exact h3
  · split
    · exact h2
    · split
      · exact h1
      · split
        · simp
        · split
          · exact mText_len _ _ _
          · exact h1
theorem getT_textB {t : List File} (h : treeB t = true) (p : ByteArray) : textB ((getT t p).getD []) = true := by
  cases hg : getT t p with
  | none => rfl
  | some x =>
    obtain ⟨f, hf, _, rfl⟩ := getT_mem hg
    exact (((tree_iff t).1 h).2.1 f hf).2
end Go.Vc
namespace Go.Proofs.YtegknjcifmenpaaGreatDoor
open Go.RowKit Go.Vc
open Go.Vc.Rep (rd)
open Go.Vc.Own (own)
set_option maxHeartbeats 4000000 in
set_option maxRecDepth 100000 in
theorem l6Same_is {S T : Nat → Prop} (v1 v2 : Value) (M1 M2 : Option (List ByteArray)) (w : World) (h1 : rd S w [v1] (M1.getD [])) (h2 : rd T w [v2] (M2.getD [])) {b : Bool} (hb : decide (M1 = M2) = b) :
    Calls Tryz.prog 80 #[v1, .bool M1.isSome, v2, .bool M2.isSome] w fun e w' => e = .returned (.bool b) ∧ ∃ n, w' = w.drewN n := by
  obtain ⟨a1, c1, rfl, hs1⟩ := rd_slice_elim h1
  obtain ⟨a2, c2, rfl, hs2⟩ := rd_slice_elim h2
  cases M1 with
  | none =>
    cases M2 with
    | none =>
      subst hb
      go_enter Tryz.func80, Tryz.ntmps80
      go_wp2
      go_ret
      exact ⟨rfl, 0, rfl⟩
    | some y =>
      subst hb
      go_enter Tryz.func80, Tryz.ntmps80
      go_wp2
      go_ret
      exact ⟨rfl, 0, rfl⟩
  | some x =>
    cases M2 with
    | none =>
      subst hb
      go_enter Tryz.func80, Tryz.ntmps80
      go_wp2
      go_ret
      exact ⟨rfl, 0, rfl⟩
    | some y =>
      have hd : decide (x = y) = b := by rw [← hb]; simp
      go_enter Tryz.func80, Tryz.ntmps80
      go_wp2_with fail
      refine (l1Same_is _ _ x y _ hs1.rd hs2.rd hd).mono ?_
      rintro e w3 ⟨rfl, n, rfl⟩
      go_wp2
      go_ret
      exact ⟨rfl, n, rfl⟩
-- l6One: printed by gen_l6one.py
set_option maxHeartbeats 8000000 in
set_option maxRecDepth 100000 in
theorem l6One_any {B : Nat} (v u x : Value) (o a b : List File) (path : ByteArray) (w : World) (hv : rd (fun k => k < B) w [v] o) (hu : rd (fun k => k < B) w [u] a) (hx : rd (fun k => k < B) w [x] b) (hB : B ≤ w.heap.size) (tro : treeB o = true) (tra : treeB a = true) (trb : treeB b = true) {R : Option (List ByteArray) × Nat} (hRR : joinAt o a b path = R) :
    Calls Tryz.prog 137 #[v, u, x, .string path] w fun e w' => ∃ v', e = .returned (.tuple #[v', .bool R.1.isSome, .int .i64 R.2]) ∧ rd (fun k => k < B ∨ w.heap.size ≤ k) w' [v'] (R.1.getD []) ∧ Below w.heap.size w w' := by
  obtain ⟨O, hO⟩ : ∃ O, getT o path = O := ⟨_, rfl⟩
  obtain ⟨A, hA⟩ : ∃ A, getT a path = A := ⟨_, rfl⟩
  obtain ⟨Q, hQ⟩ : ∃ Q, getT b path = Q := ⟨_, rfl⟩
  have hR : joinOne O A Q = R := by rw [← hRR]; unfold joinAt; rw [hO, hA, hQ]
  have tO : textB (O.getD []) = true := by rw [← hO]; exact getT_textB tro path
  have tA : textB (A.getD []) = true := by rw [← hA]; exact getT_textB tra path
  have tQ : textB (Q.getD []) = true := by rw [← hQ]; exact getT_textB trb path
  have HO := Lib.hid hO
  have HA := Lib.hid hA
  have HQ := Lib.hid hQ
  clear hRR hO hA hQ tro tra trb
  go_enter Tryz.func137, Tryz.ntmps137
  go_wp2_with fail
  refine (l4Get_in _ o path _ hv HO.out).mono ?_
  rintro e w1 ⟨vo, rfl, hO, rfl⟩
  go_wp2_with fail
  refine (l4Get_in _ a path _ hu HA.out).mono ?_
  rintro e w2 ⟨va, rfl, hA, rfl⟩
  go_wp2_with fail
  refine (l4Get_in _ b path _ hx HQ.out).mono ?_
  rintro e w3 ⟨vq, rfl, hQ, rfl⟩
  obtain ⟨ao, co, rfl, _⟩ := rd_slice_elim hO
  obtain ⟨aa, ca, rfl, _⟩ := rd_slice_elim hA
  obtain ⟨aq, cq, rfl, _⟩ := rd_slice_elim hQ
  obtain ⟨xo, hxo⟩ : ∃ x, x = O.getD [] := ⟨_, rfl⟩
  obtain ⟨xa, hxa⟩ : ∃ x, x = A.getD [] := ⟨_, rfl⟩
  obtain ⟨xq, hxq⟩ : ∃ x, x = Q.getD [] := ⟨_, rfl⟩
  obtain ⟨bo, hbo⟩ : ∃ b, b = O.isSome := ⟨_, rfl⟩
  obtain ⟨ba, hba⟩ : ∃ b, b = A.isSome := ⟨_, rfl⟩
  obtain ⟨bq, hbq⟩ : ∃ b, b = Q.isSome := ⟨_, rfl⟩
  have CAO := fun (W : World) (b : Bool) (h1 : rd (fun _ => True) W [.slice aa xa.length ca] xa) (h2 : rd (fun _ => True) W [.slice ao xo.length co] xo) (hb : decide (A = O) = b) => show Calls Tryz.prog 80 #[.slice aa xa.length ca, .bool ba, .slice ao xo.length co, .bool bo] W fun e w' => e = .returned (.bool b) ∧ ∃ n, w' = W.drewN n from by rw [hba, hbo]; exact l6Same_is _ _ A O W (by rw [← hxa]; exact h1) (by rw [← hxo]; exact h2) hb
  have CAQ := fun (W : World) (b : Bool) (h1 : rd (fun _ => True) W [.slice aa xa.length ca] xa) (h2 : rd (fun _ => True) W [.slice aq xq.length cq] xq) (hb : decide (A = Q) = b) => show Calls Tryz.prog 80 #[.slice aa xa.length ca, .bool ba, .slice aq xq.length cq, .bool bq] W fun e w' => e = .returned (.bool b) ∧ ∃ n, w' = W.drewN n from by rw [hba, hbq]; exact l6Same_is _ _ A Q W (by rw [← hxa]; exact h1) (by rw [← hxq]; exact h2) hb
  have CQO := fun (W : World) (b : Bool) (h1 : rd (fun _ => True) W [.slice aq xq.length cq] xq) (h2 : rd (fun _ => True) W [.slice ao xo.length co] xo) (hb : decide (Q = O) = b) => show Calls Tryz.prog 80 #[.slice aq xq.length cq, .bool bq, .slice ao xo.length co, .bool bo] W fun e w' => e = .returned (.bool b) ∧ ∃ n, w' = W.drewN n from by rw [hbq, hbo]; exact l6Same_is _ _ Q O W (by rw [← hxq]; exact h1) (by rw [← hxo]; exact h2) hb
  have E1 : A = O → R = (Q, 0) := fun e => by rw [← hR]; exact one_1 e
  have E2 : A = Q → R = (Q, 0) := fun e => by rw [← hR]; exact one_2 e
  have E3 : ¬ A = O → ¬ A = Q → Q = O → R = (A, 0) := fun h1 h2 e => by rw [← hR]; exact one_3 h1 h2 e
  have E4 : ¬ A = O → ¬ A = Q → ¬ Q = O → (ba = false ∨ bq = false) → R = (O, 1) := fun h1 h2 h3 e => by rw [← hR]; exact one_4 h1 h2 h3 (by rw [← hba, ← hbq]; exact e)
  have E5 : ¬ A = O → ¬ A = Q → ¬ Q = O → ba = true → bq = true → bo = false → R = (none, 2) := fun h1 h2 h3 e1 e2 e3 => by rw [← hR]; rw [one_5 h1 h2 h3 (by rw [← hba]; exact e1) (by rw [← hbq]; exact e2) (by rw [← hbo]; exact e3)]; rw [show O = none from by rw [hbo] at e3; cases O with | none => rfl | some _ => cases e3]
  have E6 : ¬ A = O → ¬ A = Q → ¬ Q = O → ba = true → bq = true → bo = true → R = if (pFin (textF (mergeT xo xa xq) [])).2 = true then (some (pFin (textF (mergeT xo xa xq) [])).1, 0) else (O, 3) := fun h1 h2 h3 e1 e2 e3 => by rw [← hR, hxo, hxa, hxq, ← mText_ok tO tA tQ]; exact one_6 h1 h2 h3 (by rw [← hba]; exact e1) (by rw [← hbq]; exact e2) (by rw [← hbo]; exact e3)
  have l1 : xo.length ≤ 10 := by rw [hxo]; exact text_len10 tO
  have l2 : xa.length ≤ 10 := by rw [hxa]; exact text_len10 tA
  have l3 : xq.length ≤ 10 := by rw [hxq]; exact text_len10 tQ
  rw [← hxo, ← hxa, ← hxq, ← hbo, ← hba, ← hbq]
  rw [← hxo] at hO
  rw [← hxa] at hA
  rw [← hxq] at hQ
  have HRO : Hid (∀ n : Nat, R = (O, n) → R.1.isSome = bo ∧ R.1.getD [] = xo ∧ R.2 = n) := fun n e => by rw [e]; exact ⟨hbo.symm, hxo.symm, rfl⟩
  have HRA : Hid (∀ n : Nat, R = (A, n) → R.1.isSome = ba ∧ R.1.getD [] = xa ∧ R.2 = n) := fun n e => by rw [e]; exact ⟨hba.symm, hxa.symm, rfl⟩
  have HRQ : Hid (∀ n : Nat, R = (Q, n) → R.1.isSome = bq ∧ R.1.getD [] = xq ∧ R.2 = n) := fun n e => by rw [e]; exact ⟨hbq.symm, hxq.symm, rfl⟩
  have HCAO := Lib.hid CAO
  have HCAQ := Lib.hid CAQ
  have HCQO := Lib.hid CQO
  clear hxo hxa hxq hbo hba hbq hR CAO CAQ CQO hv hu hx tO tA tQ HO HA HQ
  go_wp2_with fail
  by_cases h1 : A = O
  · have HE := Lib.hid (E1 h1)
    refine (HCAO.out _ true (Rep.mono (fun _ _ => trivial) (hA)) (Rep.mono (fun _ _ => trivial) (hO)) (decide_eq_true h1)).mono ?_
    rintro e w5 ⟨rfl, n5, hen5⟩
    have hWn5 : Below w.heap.size w w5 := by rw [hen5]; exact below_drewN (Below.refl w.heap.size w) n5
    clear hen5
    clear E1 E2 E3 E4 E5 E6 h1 HCAO HCAQ HCQO

    go_wp2
    go_ret3
    exact ⟨_, by rw [(HRQ.out 0 HE.out).1, (HRQ.out 0 HE.out).2.2]; rfl, by rw [(HRQ.out 0 HE.out).2.1]; exact Rep.mono (fun b hb => .inl hb) (Rep.keep hQ (hWn5.mono hB)), hWn5⟩
  · refine (HCAO.out _ false (Rep.mono (fun _ _ => trivial) (hA)) (Rep.mono (fun _ _ => trivial) (hO)) (decide_eq_false h1)).mono ?_
    rintro e w5 ⟨rfl, n5, hen5⟩
    have hWn5 : Below w.heap.size w w5 := by rw [hen5]; exact below_drewN (Below.refl w.heap.size w) n5
    clear hen5
    go_wp2_with fail
    by_cases h2 : A = Q
    · have HE := Lib.hid (E2 h2)
      refine (HCAQ.out _ true (Rep.mono (fun _ _ => trivial) (Rep.keep hA (hWn5.mono hB))) (Rep.mono (fun _ _ => trivial) (Rep.keep hQ (hWn5.mono hB))) (decide_eq_true h2)).mono ?_
      rintro e w6 ⟨rfl, n6, hen6⟩
      have hWn6 : Below w.heap.size w w6 := by rw [hen6]; exact below_drewN (hWn5) n6
      clear hen6
      clear E1 E2 E3 E4 E5 E6 h1 h2 HCAO HCAQ HCQO

      go_wp2
      go_ret3
      exact ⟨_, by rw [(HRQ.out 0 HE.out).1, (HRQ.out 0 HE.out).2.2]; rfl, by rw [(HRQ.out 0 HE.out).2.1]; exact Rep.mono (fun b hb => .inl hb) (Rep.keep hQ (hWn6.mono hB)), hWn6⟩
    · refine (HCAQ.out _ false (Rep.mono (fun _ _ => trivial) (Rep.keep hA (hWn5.mono hB))) (Rep.mono (fun _ _ => trivial) (Rep.keep hQ (hWn5.mono hB))) (decide_eq_false h2)).mono ?_
      rintro e w6 ⟨rfl, n6, hen6⟩
      have hWn6 : Below w.heap.size w w6 := by rw [hen6]; exact below_drewN (hWn5) n6
      clear hen6
      go_wp2_with fail
      by_cases h3 : Q = O
      · have HE := Lib.hid (E3 h1 h2 h3)
        refine (HCQO.out _ true (Rep.mono (fun _ _ => trivial) (Rep.keep hQ (hWn6.mono hB))) (Rep.mono (fun _ _ => trivial) (Rep.keep hO (hWn6.mono hB))) (decide_eq_true h3)).mono ?_
        rintro e w7 ⟨rfl, n7, hen7⟩
        have hWn7 : Below w.heap.size w w7 := by rw [hen7]; exact below_drewN (hWn6) n7
        clear hen7
        clear E1 E2 E3 E4 E5 E6 h1 h2 h3 HCAO HCAQ HCQO

        go_wp2
        go_ret3
        exact ⟨_, by rw [(HRA.out 0 HE.out).1, (HRA.out 0 HE.out).2.2]; rfl, by rw [(HRA.out 0 HE.out).2.1]; exact Rep.mono (fun b hb => .inl hb) (Rep.keep hA (hWn7.mono hB)), hWn7⟩
      · refine (HCQO.out _ false (Rep.mono (fun _ _ => trivial) (Rep.keep hQ (hWn6.mono hB))) (Rep.mono (fun _ _ => trivial) (Rep.keep hO (hWn6.mono hB))) (decide_eq_false h3)).mono ?_
        rintro e w7 ⟨rfl, n7, hen7⟩
        have hWn7 : Below w.heap.size w w7 := by rw [hen7]; exact below_drewN (hWn6) n7
        clear hen7
        cases ba with
        | false =>
          have HE := Lib.hid (E4 h1 h2 h3 (.inl rfl))
          clear E1 E2 E3 E4 E5 E6 h1 h2 h3 HCAO HCAQ HCQO
          go_wp2
          go_ret3
          exact ⟨_, by rw [(HRO.out 1 HE.out).1, (HRO.out 1 HE.out).2.2]; rfl, by rw [(HRO.out 1 HE.out).2.1]; exact Rep.mono (fun b hb => .inl hb) (Rep.keep hO (hWn7.mono hB)), hWn7⟩
        | true =>
          cases bq with
          | false =>
            have HE := Lib.hid (E4 h1 h2 h3 (.inr rfl))
            clear E1 E2 E3 E4 E5 E6 h1 h2 h3 HCAO HCAQ HCQO
            go_wp2
            go_ret3
            exact ⟨_, by rw [(HRO.out 1 HE.out).1, (HRO.out 1 HE.out).2.2]; rfl, by rw [(HRO.out 1 HE.out).2.1]; exact Rep.mono (fun b hb => .inl hb) (Rep.keep hO (hWn7.mono hB)), hWn7⟩
          | true =>
            cases bo with
            | false =>
              have HE := Lib.hid (E5 h1 h2 h3 rfl rfl rfl)
              clear E1 E2 E3 E4 E5 E6 h1 h2 h3 HCAO HCAQ HCQO
              go_wp2
              go_ret3
              exact ⟨.slice none 0 0, by rw [HE.out]; rfl, by rw [HE.out]; exact rd_slice_nil _ _, hWn7⟩
            | true =>
              have HE := Lib.hid (E6 h1 h2 h3 rfl rfl rfl)
              clear E1 E2 E3 E4 E5 E6 h1 h2 h3 HCAO HCAQ HCQO
              go_wp2_with fail
              refine (l3Of_any _ _ _ xo xa xq _ (Rep.keep hO (hWn7.mono hB)) (Rep.keep hA (hWn7.mono hB)) (Rep.keep hQ (hWn7.mono hB)) l1 l2 l3).mono ?_
              rintro e w8 ⟨v8, rfl, hP, hb8⟩
              have hW8 := hWn7.trans (hb8.mono hWn7.size)
              have hsm := mergeT_small l1 l2 l3
              obtain ⟨P, hPe⟩ : ∃ P, P = mergeT xo xa xq := ⟨_, rfl⟩
              rw [← hPe] at hP hsm HE
              obtain ⟨a8, c8, rfl, _⟩ := hP.shape
              clear hPe
              go_wp2_with fail
              refine (l3Text_any _ P _ hP.rd hsm).mono ?_
              rintro e w9 ⟨v9, rfl, hT, hb9⟩
              have hW9 := hW8.trans (hb9.mono hW8.size)
              obtain ⟨M, hM⟩ : ∃ M, M = pFin (textF P []) := ⟨_, rfl⟩
              rw [← hM] at hT HE ⊢
              obtain ⟨xm, bm⟩ := M
              simp only at hT HE ⊢
              obtain ⟨a9, c9, rfl, _⟩ := hT.shape
              clear hM hP hsm
              cases bm with
              | false =>
                have HE2 : Hid (R = (O, 3)) := by show _ = _; rw [HE.out]; rfl
                clear HE hT
                go_wp2
                go_ret3
                exact ⟨_, by rw [(HRO.out 3 HE2.out).1, (HRO.out 3 HE2.out).2.2]; rfl, by rw [(HRO.out 3 HE2.out).2.1]; exact Rep.mono (fun b hb => .inl hb) (Rep.keep hO (hW9.mono hB)), hW9⟩
              | true =>
                have HE2 : Hid (R = (some xm, 0)) := by show _ = _; rw [HE.out]; rfl
                clear HE
                go_wp2
                go_ret3
                exact ⟨_, by rw [HE2.out]; rfl, by rw [HE2.out]; exact Rep.mono (fun b hb => .inr (by have := hW8.size; have := hb.1; omega)) hT.rd2, hW9⟩
end Go.Proofs.YtegknjcifmenpaaGreatDoor
namespace Go.Vc
open Go.RowKit
theorem putP_same {ps : List ByteArray} {s : ByteArray} {K : Nat} (hK : lowP s ps = K) (h : K < ps.length) (e : ps[K] = s) : putP ps s = ps := by
  unfold putP; subst hK; rw [if_pos]; rw [List.getElem?_eq_getElem h, e]
theorem putP_new {ps : List ByteArray} {s : ByteArray} {K : Nat} (hK : lowP s ps = K) (h : ¬ K < ps.length ∨ ∃ h : K < ps.length, ¬ ps[K] = s) : putP ps s = ps.take K ++ [s] ++ ps.drop K := by
  unfold putP; subst hK; rw [if_neg]
  rcases h with h | ⟨h, e⟩
  · rw [List.getElem?_eq_none (by omega)]; simp
  · rw [List.getElem?_eq_getElem h]; simpa using e
end Go.Vc
namespace Go.Proofs.YtegknjcifmenpaaGreatDoor
open Go.RowKit Go.Vc
open Go.Vc.Rep (rd)
open Go.Vc.Own (own)
set_option maxHeartbeats 4000000 in
set_option maxRecDepth 100000 in
theorem l5Put_any {B : Nat} (v : Value) (ps : List ByteArray) (s : ByteArray) (w : World) (hv : Fresh B w.heap.size w [v] ps) (hB : B ≤ w.heap.size) (hl : ps.length ≤ 1000) (hz : s.size ≤ maxLen) :
    Calls Tryz.prog 86 #[v, .string s] w fun e w' => ∃ v', e = .returned v' ∧ Fresh B w'.heap.size w' [v'] (putP ps s) ∧ Below w.heap.size w w' := by
  obtain ⟨a, cap, rfl, hs0⟩ := hv.shape
  have hs := hs0.lt
  have hle := hs.le
  have hcap := hs.1
  go_enter Tryz.func86, Tryz.ntmps86
  go_wp2
  go_loopw [5] (fun i wr => (∃ k : Nat, k ≤ ps.length ∧ i = .int .i64 k ∧ Hid (lowP s ps = k + lowP s (ps.drop k))) ∧ wr = w) (fun i _ => ps.length - (intOf i).toNat)
  case atStart => exact ⟨⟨0, by omega, rfl, by show _ = _; simp⟩, rfl⟩
  case round =>
    obtain ⟨⟨k, hk, rfl, HA⟩, rfl⟩ := hrel
    have ins : ¬ k < ps.length ∨ (∃ h : k < ps.length, ¬ ps[k] = s) → lowP s ps = k → Hid (putP ps s = ps.take k ++ [s] ++ ps.drop k) := fun h1 h2 => putP_new h2 h1
    have INS := Lib.hid ins
    have hpl : (ps.take k).length = k := by simp; omega
    have hdl : (ps.drop k).length = ps.length - k := by simp
    have hct := run_cut0 slz_string.slt a ps.length cap k (by omega)
    have hct2 := run_cut slz_string.slt a ps.length cap k hk
    clear ins
    by_cases hlt : k < ps.length
    · obtain ⟨g, off, hag, hcp, hzp⟩ := hs.str hlt
      have hNx := low_next HA.out hlt
      have hSt := low_stop HA.out hlt
      have hSm := fun h1 => putP_same (s := s) (K := k) h1 hlt
      have hIn := fun h1 h2 => INS.out (.inr ⟨hlt, h1⟩) h2
      obtain ⟨p, hp⟩ : ∃ p, p = ps[k] := ⟨_, rfl⟩
      rw [← hp] at hcp hzp hNx hSt hSm hIn
      cases hls : lessB p s with
      | true =>
        have hl' : Op.bytesLess p.toList s.toList = true := hls
        have HN := Lib.hid (hNx hls)
        subst hag
        clear hNx hSt hSm hIn hls hp
        go_wp2
        go_roundw
        case rel => exact ⟨⟨k + 1, by omega, by go_num, HN.out⟩, trivial⟩
        case measure => simp [intOf] <;> omega
      | false =>
        have hl' : Op.bytesLess p.toList s.toList = false := hls
        have hK := hSt hls
        by_cases he : p = s
        · have hd : decide (p = s) = true := decide_eq_true he
          have HP := Lib.hid (hSm hK he)
          subst hag
          clear hNx hSt hSm hIn hls hp he hK
          go_wp2
          go_ret
          exact ⟨_, rfl, by rw [HP.out]; exact hv, Below.refl _ _⟩
        · have hd : decide (p = s) = false := decide_eq_false he
          have HP := hIn he hK
          have HP := Lib.hid HP
          subst hag
          clear hNx hSt hSm hIn hls hp he hK hs0
          have hsl : IsSlice (fun b => b < wr.heap.size) wr (some ⟨g, off, none⟩) cap ps := hs
          have HB : B ≤ wr.heap.size := hB
          clear hs hv
          go_wp2_with (first
            | (at_builtin; (refine wpList_app_leaf slz_string.slt rfl (.tmp 34) (.tmp 37) rfl rfl (Fresh.empty (β := ByteArray) Nat.one_pos wr.heap.size wr (Nat.le_refl _)) (le_alloc (Nat.le_refl _) _) rfl hpl.symm ((hsl.take k).alloc _) (by simp <;> omega) (by unfold maxLen; simp <;> omega) ?_); intro a5 c5 w5 hG5; have hF5 := (show Fresh wr.heap.size w5.heap.size w5 [.slice a5 k c5] (ps.take k) from (by have := hG5.fresh; simpa only [List.length_nil, Nat.zero_add, hpl, List.nil_append] using this)); have hb5 := ((Below.refl _ wr).alloc (Nat.le_refl _) _).trans hG5.below; have hsz5 := hb5.size; have hsrc := (show IsSlice (fun b => b = w5.heap.size) (w5.alloc (.cells #[.string s] (Tid.tid ByteArray))) (some ⟨w5.heap.size, 0, none⟩) 1 [s] from lit_strs [s] (heap_alloc_new _ _) (by simpa using hz) (by unfold maxLen; simp)))
            | (at_builtin; (refine wpList_app_leaf slz_string.slt rfl (.tmp 39) (.tmp 41) rfl rfl (hF5.alloc _) (le_alloc (by omega) _) rfl rfl hsrc (by simp <;> omega) (by unfold maxLen; simp <;> omega) ?_); intro a8 c8 w8 hG8; have hF8 := (show Fresh wr.heap.size w8.heap.size w8 [.slice a8 (k + 1) c8] (ps.take k ++ [s]) from (by have := hG8.fresh; rw [hpl] at this; exact this)); have hb8 := (hb5.alloc hsz5 (.cells #[.string s] (Tid.tid ByteArray))).trans hG8.below; have hsz8 := hb8.size; have hs8 := hsl.keep hb8)
            | (at_builtin; go_must (refine wpList_app_leaf slz_string.slt rfl (.tmp 43) (.tmp 46) rfl rfl hF8 (by omega) rfl hdl.symm (hs8.cut (k := k) hk) (by simp <;> omega) (by unfold maxLen; simp <;> omega) ?_); intro a9 c9 w9 hG9))
          have hF9 : Fresh wr.heap.size w9.heap.size w9 [.slice a9 (k + 1 + (ps.length - k)) c9] (ps.take k ++ [s] ++ ps.drop k) := by
            have := hG9.fresh
            simpa only [List.length_append, hpl, hdl, List.length_singleton] using this
          go_ret
          exact ⟨_, rfl, by rw [HP.out]; exact hF9.mono HB (Nat.le_refl _), hb8.trans hG9.below⟩
    · have HP := Lib.hid (INS.out (.inl hlt) (low_end HA.out hlt))
      clear hs0
      have hsl : IsSlice (fun b => b < wr.heap.size) wr a cap ps := hs
      have HB : B ≤ wr.heap.size := hB
      clear hs hv
      go_wp2_with (first
        | (at_builtin; (refine wpList_app_leaf slz_string.slt rfl (.tmp 34) (.tmp 37) rfl rfl (Fresh.empty (β := ByteArray) Nat.one_pos wr.heap.size wr (Nat.le_refl _)) (le_alloc (Nat.le_refl _) _) rfl hpl.symm ((hsl.take k).alloc _) (by simp <;> omega) (by unfold maxLen; simp <;> omega) ?_); intro a5 c5 w5 hG5; have hF5 := (show Fresh wr.heap.size w5.heap.size w5 [.slice a5 k c5] (ps.take k) from (by have := hG5.fresh; simpa only [List.length_nil, Nat.zero_add, hpl, List.nil_append] using this)); have hb5 := ((Below.refl _ wr).alloc (Nat.le_refl _) _).trans hG5.below; have hsz5 := hb5.size; have hsrc := (show IsSlice (fun b => b = w5.heap.size) (w5.alloc (.cells #[.string s] (Tid.tid ByteArray))) (some ⟨w5.heap.size, 0, none⟩) 1 [s] from lit_strs [s] (heap_alloc_new _ _) (by simpa using hz) (by unfold maxLen; simp)))
        | (at_builtin; (refine wpList_app_leaf slz_string.slt rfl (.tmp 39) (.tmp 41) rfl rfl (hF5.alloc _) (le_alloc (by omega) _) rfl rfl hsrc (by simp <;> omega) (by unfold maxLen; simp <;> omega) ?_); intro a8 c8 w8 hG8; have hF8 := (show Fresh wr.heap.size w8.heap.size w8 [.slice a8 (k + 1) c8] (ps.take k ++ [s]) from (by have := hG8.fresh; rw [hpl] at this; exact this)); have hb8 := (hb5.alloc hsz5 (.cells #[.string s] (Tid.tid ByteArray))).trans hG8.below; have hsz8 := hb8.size; have hs8 := hsl.keep hb8)
        | (at_builtin; go_must (refine wpList_app_leaf slz_string.slt rfl (.tmp 43) (.tmp 46) rfl rfl hF8 (by omega) rfl hdl.symm (hs8.cut (k := k) hk) (by simp <;> omega) (by unfold maxLen; simp <;> omega) ?_); intro a9 c9 w9 hG9))
      have hF9 : Fresh wr.heap.size w9.heap.size w9 [.slice a9 (k + 1 + (ps.length - k)) c9] (ps.take k ++ [s] ++ ps.drop k) := by
        have := hG9.fresh
        simpa only [List.length_append, hpl, hdl, List.length_singleton] using this
      go_ret
      exact ⟨_, rfl, by rw [HP.out]; exact hF9.mono HB (Nat.le_refl _), hb8.trans hG9.below⟩
-- l6Paths: printed by gen_l6paths.py
set_option maxHeartbeats 4000000 in
set_option maxRecDepth 100000 in
theorem l6Paths_any {S T U : Nat → Prop} (v u x : Value) (o a b : List File) (w : World) (hv : rd S w [v] o) (hu : rd T w [u] a) (hx : rd U w [x] b) (l1 : o.length ≤ 100) (l2 : a.length ≤ 100) (l3 : b.length ≤ 100) :
    Calls Tryz.prog 78 #[v, u, x] w fun e w' => ∃ v', e = .returned v' ∧ Fresh w.heap.size w'.heap.size w' [v'] (allP o a b) ∧ Below w.heap.size w w' := by
  obtain ⟨a1, c1, rfl, h1⟩ := rd_slice_elim (Rep.lt hv)
  obtain ⟨a2, c2, rfl, h2⟩ := rd_slice_elim (Rep.lt hu)
  obtain ⟨a3, c3, rfl, h3⟩ := rd_slice_elim (Rep.lt hx)
  have n1 := h1.le
  have n2 := h2.le
  have n3 := h3.le
  have hE := Fresh.empty (β := ByteArray) Nat.one_pos w.heap.size w (Nat.le_refl _)
  clear hv hu hx
  go_enter Tryz.func78, Tryz.ntmps78
  go_wp2
  go_loopw [7, 8] (fun out i wr => (∃ (k : Nat) (cur : List ByteArray), k ≤ o.length ∧ i = .int .i64 k ∧ cur.length ≤ 0 + k ∧ Fresh w.heap.size wr.heap.size wr [out] cur ∧ Hid (foldP ([] : List ByteArray) o = foldP cur (o.drop k))) ∧ Below w.heap.size w wr) (fun _ i _ => o.length - (intOf i).toNat)
  case atStart => exact ⟨⟨0, ([] : List ByteArray), by omega, rfl, by simp, hE.now, rfl⟩, (Below.refl _ _).alloc (Nat.le_refl _) _⟩
  case round =>
    obtain ⟨⟨k, cur, hk, rfl, hcl, hF, HA⟩, hb⟩ := hrel
    have hsz := hb.size
    by_cases hlt : k < o.length
    · obtain ⟨g, off, a9, c9, hag, hc1, hc2, hz1, hft⟩ := (h1.keep hb).file hlt
      have HN := Lib.hid (foldP_next HA.out hlt)
      obtain ⟨f, hf⟩ : ∃ f, f = o[k] := ⟨_, rfl⟩
      rw [← hf] at hc1 hz1
      have HN2 : Hid (foldP ([] : List ByteArray) o = foldP (putP cur f.path) (o.drop (k + 1))) := by rw [hf]; exact HN
      have hpl := putP_len cur f.path
      have hlt2 : cur.length ≤ 1000 := by omega
      subst hag
      clear hf hc2 hft HN
      go_wp2_with fail
      refine (l5Put_any _ cur f.path _ hF hsz hlt2 hz1).mono ?_
      rintro e w3 ⟨v3, rfl, hF3, hb3⟩
      go_wp2
      go_roundw
      case rel => exact ⟨⟨k + 1, _, by omega, by go_num, by omega, hF3, HN2.out⟩, hb.trans (hb3.mono hsz)⟩
      case measure => simp [intOf] <;> omega
    · have HN := Lib.hid (foldP_end HA.out hlt)
      have hkn : cur.length ≤ 0 + o.length := by omega
      have E8 : Hid (foldP ([] : List ByteArray) o = cur) := HN
      clear HA HN
      obtain ⟨q1, rfl⟩ : ∃ q1 : List ByteArray, q1 = cur := ⟨_, rfl⟩
      obtain ⟨ws, rfl⟩ : ∃ ws : World, ws = wr := ⟨_, rfl⟩
      have hF1 := hF
      have hB1 := hb
      clear hF hb hsz hcl

      go_wp2
      go_loopw [7, 9] (fun out i wr => (∃ (k : Nat) (cur : List ByteArray), k ≤ a.length ∧ i = .int .i64 k ∧ cur.length ≤ o.length + k ∧ Fresh w.heap.size wr.heap.size wr [out] cur ∧ Hid (foldP q1 a = foldP cur (a.drop k))) ∧ Below w.heap.size w wr) (fun _ i _ => a.length - (intOf i).toNat)
      case atStart => exact ⟨⟨0, q1, by omega, rfl, by omega, hF1, rfl⟩, hB1⟩
      case round =>
        obtain ⟨⟨k, cur, hk, rfl, hcl, hF, HA⟩, hb⟩ := hrel
        have hsz := hb.size
        by_cases hlt : k < a.length
        · obtain ⟨g, off, a9, c9, hag, hc1, hc2, hz1, hft⟩ := (h2.keep hb).file hlt
          have HN := Lib.hid (foldP_next HA.out hlt)
          obtain ⟨f, hf⟩ : ∃ f, f = a[k] := ⟨_, rfl⟩
          rw [← hf] at hc1 hz1
          have HN2 : Hid (foldP q1 a = foldP (putP cur f.path) (a.drop (k + 1))) := by rw [hf]; exact HN
          have hpl := putP_len cur f.path
          have hlt2 : cur.length ≤ 1000 := by omega
          subst hag
          clear hf hc2 hft HN
          go_wp2_with fail
          refine (l5Put_any _ cur f.path _ hF hsz hlt2 hz1).mono ?_
          rintro e w3 ⟨v3, rfl, hF3, hb3⟩
          go_wp2
          go_roundw
          case rel => exact ⟨⟨k + 1, _, by omega, by go_num, by omega, hF3, HN2.out⟩, hb.trans (hb3.mono hsz)⟩
          case measure => simp [intOf] <;> omega
        · have HN := Lib.hid (foldP_end HA.out hlt)
          have hkn : cur.length ≤ o.length + a.length := by omega
          have E9 : Hid (foldP q1 a = cur) := HN
          clear HA HN
          obtain ⟨q2, rfl⟩ : ∃ q2 : List ByteArray, q2 = cur := ⟨_, rfl⟩
          obtain ⟨wt, rfl⟩ : ∃ wt : World, wt = wr := ⟨_, rfl⟩
          have hF2 := hF
          have hB2 := hb
          clear hF hb hsz hcl

          go_wp2
          go_loopw [7, 10] (fun out i wr => (∃ (k : Nat) (cur : List ByteArray), k ≤ b.length ∧ i = .int .i64 k ∧ cur.length ≤ (o.length + a.length) + k ∧ Fresh w.heap.size wr.heap.size wr [out] cur ∧ Hid (foldP q2 b = foldP cur (b.drop k))) ∧ Below w.heap.size w wr) (fun _ i _ => b.length - (intOf i).toNat)
          case atStart => exact ⟨⟨0, q2, by omega, rfl, by omega, hF2, rfl⟩, hB2⟩
          case round =>
            obtain ⟨⟨k, cur, hk, rfl, hcl, hF, HA⟩, hb⟩ := hrel
            have hsz := hb.size
            by_cases hlt : k < b.length
            · obtain ⟨g, off, a9, c9, hag, hc1, hc2, hz1, hft⟩ := (h3.keep hb).file hlt
              have HN := Lib.hid (foldP_next HA.out hlt)
              obtain ⟨f, hf⟩ : ∃ f, f = b[k] := ⟨_, rfl⟩
              rw [← hf] at hc1 hz1
              have HN2 : Hid (foldP q2 b = foldP (putP cur f.path) (b.drop (k + 1))) := by rw [hf]; exact HN
              have hpl := putP_len cur f.path
              have hlt2 : cur.length ≤ 1000 := by omega
              subst hag
              clear hf hc2 hft HN
              go_wp2_with fail
              refine (l5Put_any _ cur f.path _ hF hsz hlt2 hz1).mono ?_
              rintro e w3 ⟨v3, rfl, hF3, hb3⟩
              go_wp2
              go_roundw
              case rel => exact ⟨⟨k + 1, _, by omega, by go_num, by omega, hF3, HN2.out⟩, hb.trans (hb3.mono hsz)⟩
              case measure => simp [intOf] <;> omega
            · have HN := Lib.hid (foldP_end HA.out hlt)
              have hkn : cur.length ≤ (o.length + a.length) + b.length := by omega
              have E10 : Hid (foldP q2 b = cur) := HN
              clear HA HN
              go_wp2
              go_ret
              exact ⟨_, rfl, by unfold allP; rw [E8.out, E9.out, E10.out]; exact hF, hb⟩
end Go.Proofs.YtegknjcifmenpaaGreatDoor
namespace Go.Proofs.YtegknjcifmenpaaGreatDoor
open Go.RowKit Go.Vc
open Go.Vc.Rep (rd)
open Go.Vc.Own (own)
theorem joinAt_len {o a b : List File} (h1 : treeB o = true) (h2 : treeB a = true) (h3 : treeB b = true) (p : ByteArray) : ((joinAt o a b p).1.getD []).length ≤ 10 :=
  joinOne_len (text_len10 (getT_textB h1 p)) (text_len10 (getT_textB h2 p)) (text_len10 (getT_textB h3 p))
theorem strS {S : Nat → Prop} {w : World} {a : Option Addr} {cap : Nat} {xs : List ByteArray} (h : IsSlice S w a cap xs) {i : Nat} (hi : i < xs.length) :
    ∃ g off, a = some ⟨g, off, none⟩ ∧ S g ∧ w.cell? ⟨g, off + i, none⟩ = some (.string xs[i]) ∧ xs[i].size ≤ maxLen := by
  obtain ⟨g, off, us, h1, h2, h3, h4, h5⟩ := h.elem hi
  subst h4
  refine ⟨g, off, h1, h2, ?_, h5⟩
  have := h3 0 _ rfl
  simpa [Rep.sz] using this
set_option maxHeartbeats 8000000 in
set_option maxRecDepth 100000 in
theorem l6Of_any {S T U : Nat → Prop} (v u x : Value) (o a b : List File) (w : World) (hv : rd S w [v] o) (hu : rd T w [u] a) (hx : rd U w [x] b) (tro : treeB o = true) (tra : treeB a = true) (trb : treeB b = true) :
    Calls Tryz.prog 116 #[v, u, x] w fun e w' => ∃ v1 v2, e = .returned (.tuple #[v1, v2]) ∧ Fresh w.heap.size w'.heap.size w' [v1] (joinF o a b (allP o a b)) ∧ rd (fun k => w.heap.size ≤ k ∧ k < w'.heap.size) w' [v2] (joinC o a b (allP o a b)) ∧ Below w.heap.size w w' := by
  obtain ⟨a1, c1, rfl, h1⟩ := rd_slice_elim (Rep.lt hv)
  obtain ⟨a2, c2, rfl, h2⟩ := rd_slice_elim (Rep.lt hu)
  obtain ⟨a3, c3, rfl, h3⟩ := rd_slice_elim (Rep.lt hx)
  obtain ⟨l1, x1⟩ := tree_files tro
  obtain ⟨l2, x2⟩ := tree_files tra
  obtain ⟨l3, x3⟩ := tree_files trb
  have hJL := joinAt_len tro tra trb
  have hpl := allP_len o a b
  clear x1 x2 x3
  obtain ⟨wa, hwa⟩ : ∃ wa, wa = w.alloc (.cells #[] 59) := ⟨_, rfl⟩
  obtain ⟨wb, hwb⟩ : ∃ wb, wb = wa.alloc (.cells #[] 46) := ⟨_, rfl⟩
  have hBa : Below w.heap.size w wa := by rw [hwa]; exact ((Below.refl _ _).alloc (by simp <;> omega) _)
  have hsa : wa.heap.size = w.heap.size + 1 := by rw [hwa]; simp
  have hga : wa.heap[w.heap.size]? = some (.cells #[] 59 (0, 0)) := by rw [hwa]; exact heap_alloc_new _ _
  have hBb : Below wa.heap.size wa wb := by rw [hwb]; exact ((Below.refl _ _).alloc (by simp <;> omega) _)
  have hsb : wb.heap.size = w.heap.size + 2 := by rw [hwb]; simp; omega
  have hgb : wb.heap[w.heap.size + 1]? = some (.cells #[] 46 (0, 0)) := by rw [hwb, ← hsa]; exact heap_alloc_new _ _
  have hga2 := (hBb.block w.heap.size (by omega)).trans hga
  have hB0 := hBa.trans (hBb.mono hBa.size)
  have hF10 : FS (fun b => b = w.heap.size) wb [.slice (some ⟨w.heap.size, 0, none⟩) 0 0] ([] : List File) := FS.empty (by decide) hga2
  have hF20 : FS (fun b => b = w.heap.size + 1) wb [.slice (some ⟨w.heap.size + 1, 0, none⟩) 0 0] ([] : List Clash) := FS.empty (by decide) hgb
  have HWA := Lib.hid hwa
  have HWB := Lib.hid hwb
  have HSB := Lib.hid hsb
  have hsb2 : w.heap.size + 2 ≤ wb.heap.size := by omega
  clear hwa hwb hBa hBb hga hgb hga2 hsa hsb hv hu hx
  go_enter Tryz.func116, Tryz.ntmps116
  go_wp2_with fail
  rw [← HWA.out, ← HWB.out]
  refine (l6Paths_any _ _ _ o a b _ (h1.keep hB0).rd (h2.keep hB0).rd (h3.keep hB0).rd (by omega) (by omega) (by omega)).mono ?_
  rintro e w2 ⟨vp, rfl, hP, hb2⟩
  have hB2 := hB0.trans (hb2.mono hB0.size)
  have hs2 := hb2.size
  have hF1 := hF10.below hb2 (fun b h _ => by have h' : b = w.heap.size := h; omega)
  have hF2 := hF20.below hb2 (fun b h _ => by have h' : b = w.heap.size + 1 := h; omega)
  obtain ⟨ps, hps⟩ : ∃ ps, ps = allP o a b := ⟨_, rfl⟩
  rw [← hps] at hP hpl
  have HPS := Lib.hid hps
  -- the paths' own block is above the two rows
  have hPr := hP.rd2
  obtain ⟨ap, cp, rfl, hpr⟩ := rd_slice_elim hPr
  have hple := hpr.le
  clear hb2 hP hPr hps hF10 hF20 hB0
  go_wp2
  go_loopw [8, 9, 11] (fun out cl i wr => (∃ (k : Nat) (ol : List File) (cs : List Clash) (S1 S2 : Nat → Prop), k ≤ ps.length ∧ i = .int .i64 k ∧ ol.length ≤ k ∧ cs.length ≤ k ∧ FS S1 wr [out] ol ∧ FS S2 wr [cl] cs ∧ (∀ b, S1 b → S2 b → False) ∧ (∀ b, S1 b ∨ S2 b → (w.heap.size ≤ b ∧ b < wr.heap.size) ∧ (b < wb.heap.size ∨ w2.heap.size ≤ b)) ∧ Hid (joinF o a b ps = ol ++ joinF o a b (ps.drop k)) ∧ Hid (joinC o a b ps = cs ++ joinC o a b (ps.drop k)) ∧ IsSlice (fun b => wb.heap.size ≤ b ∧ b < w2.heap.size) wr ap cp ps ∧ w2.heap.size ≤ wr.heap.size) ∧ Below w.heap.size w wr) (fun _ _ i _ => ps.length - (intOf i).toNat)
  case atStart => exact ⟨⟨0, [], [], _, _, by omega, rfl, by simp, by simp, hF1, hF2, fun b h h2 => (by have h' : b = w.heap.size := h; have h2' : b = w.heap.size + 1 := h2; omega), fun b hb => (by rcases hb with h | h; have h' : b = w.heap.size := h; omega; have h' : b = w.heap.size + 1 := h; omega), rfl, rfl, hpr, Nat.le_refl _⟩, hB2⟩
  case round =>
    obtain ⟨⟨k, ol, cs, S1, S2, hk, rfl, hol, hcs, hF1, hF2, hdis, hbd, HF, HC, hpr, hs2r⟩, hbr⟩ := hrel
    obtain ⟨ao, co, rfl, _⟩ := rd_slice_elim hF1.rd
    obtain ⟨ac, cc, rfl, _⟩ := rd_slice_elim hF2.rd
    have hsr := hbr.size
    by_cases hlt : k < ps.length
    · obtain ⟨g, off, rfl, hgS, hcp, hzp⟩ := strS hpr hlt
      have hFy := fun x h => joinF_yes (x := x) HF.out hlt h
      have hFn := fun h => joinF_no HF.out hlt h
      have hCy := fun n e h => joinC_yes HC.out hlt (n := n) e h
      have hCn := fun h => joinC_no HC.out hlt h
      have hk3 : (joinAt o a b ps[k]).2 ≤ 3 := joinOne_kind _ _ _
      have hxl := hJL ps[k]
      obtain ⟨p, hp⟩ : ∃ p, p = ps[k] := ⟨_, rfl⟩
      rw [← hp] at hcp hzp hFy hFn hCy hCn hk3 hxl
      obtain ⟨R, hR⟩ : ∃ R, joinAt o a b p = R := ⟨_, rfl⟩
      rw [hR] at hFy hFn hCy hCn hk3 hxl
      have HFY := Lib.hid hFy
      have HFN := Lib.hid hFn
      have HCY := Lib.hid hCy
      have HCN := Lib.hid hCn
      have HR := Lib.hid hR
      clear hp hFy hFn hCy hCn HF HC hR
      go_wp2_with fail
      refine (l6One_any (B := w.heap.size) _ _ _ o a b p _ (h1.keep hbr).rd (h2.keep hbr).rd (h3.keep hbr).rd hsr tro tra trb HR.out).mono ?_
      rintro e w6 ⟨vr, rfl, hT, hb6⟩
      have hs6 := hb6.size
      obtain ⟨M, n⟩ := R
      simp only at hT HFY HFN HCY HCN hk3 hxl ⊢
      have hY : M.isSome = true → M = some (M.getD []) := by cases M <;> simp
      have hN : M.isSome = false → M = none := by cases M <;> simp
      obtain ⟨bm, hbm⟩ : ∃ bm, bm = M.isSome := ⟨_, rfl⟩
      obtain ⟨xm, hxm⟩ : ∃ xm, xm = M.getD [] := ⟨_, rfl⟩
      rw [← hbm] at hY hN ⊢
      rw [← hxm] at hY hT hxl
      have HFY := Lib.hid (fun h => HFY.out xm (hY h))
      have HFN := Lib.hid (fun h => HFN.out (hN h))
      clear HR hY hN hbm hxm
      obtain ⟨ar, cr, rfl, hft⟩ := rd_slice_elim (Rep.bound hT)
      have hcp := keepc hcp hb6
      have hbd1 : ∀ b, S1 b → (w.heap.size ≤ b ∧ b < wr.heap.size) ∧ (b < wb.heap.size ∨ w2.heap.size ≤ b) := fun b h => hbd b (.inl h)
      have hbd2 : ∀ b, S2 b → (w.heap.size ≤ b ∧ b < wr.heap.size) ∧ (b < wb.heap.size ∨ w2.heap.size ≤ b) := fun b h => hbd b (.inr h)
      have hF1 := hF1.below hb6 (fun b h _ => (hbd1 b h).1.2)
      have hF2 := hF2.below hb6 (fun b h _ => (hbd2 b h).1.2)
      have hpr := hpr.below (Nat.le_refl _) hb6
      have hB6 := hbr.trans (hb6.mono hsr)
      clear hT hb6 hbd
      by_cases hn : n = 0
      · obtain ⟨wx, hwx⟩ : ∃ wx : World, wx = w6 := ⟨_, rfl⟩
        subst hwx
        have hF1x := hF1
        have hF2x := hF2
        have hprx := hpr
        have hBx := hB6
        have hcx := hcp
        have hftx := hft
        have hdisx := hdis
        obtain ⟨csx, hcsx⟩ : ∃ c : List Clash, c = cs := ⟨_, rfl⟩
        subst hcsx
        obtain ⟨S2x, hS2x⟩ : ∃ S : Nat → Prop, S = S2 := ⟨_, rfl⟩
        subst hS2x
        have hsx : wr.heap.size ≤ wx.heap.size := hs6
        have hbdx : ∀ b, S2x b → (w.heap.size ≤ b ∧ b < wx.heap.size) ∧ (b < wb.heap.size ∨ w2.heap.size ≤ b) := fun b h => by have := hbd2 b h; omega
        have HCx := Lib.hid (HCN.out hn)
        have hn0 : ¬ 0 < n := by omega
        clear hF1 hF2 hpr hB6 hcp hft hdis HCN HCY
        cases bm with
        | false =>
          have HFx := Lib.hid (HFN.out rfl)
          clear HFY HFN
          go_wp2
          go_roundw
          case rel => exact ⟨⟨k + 1, ol, csx, S1, S2x, by omega, by go_num, by omega, by omega, hF1x, hF2x, hdisx, fun b h => by
              rcases h with h | h
              · have := hbd1 b h; omega
              · have := hbdx b h; omega, HFx.out, HCx.out, hprx, by omega⟩, hBx⟩
          case measure => simp [intOf] <;> omega
        | true =>
          have hEm := Fresh.empty (β := ByteArray) Nat.one_pos wx.drew.heap.size wx.drew (Nat.le_refl _)
          have HFx := Lib.hid (HFY.out rfl)
          clear HFY HFN
          go_wp2_with fail
          first
          | (
            go_region_held3 (fun w' => w'.cell? ⟨g, off + k, none⟩ = some (.string p))
              (first | exact K9 | exact K5 | exact hcx | go_keep)
              (first
                | (refine step_app_leaf slz_string.slt rfl (.tmp 56) (.tmp 57) rfl rfl (xs := ([] : List ByteArray)) hEm (by simp) rfl rfl (hftx.drew.alloc _) (by simp; omega) (by unfold maxLen; simp; omega) ?_; intro a5 c5 w5 hG5; have hF5 := hG5.fresh; have hb5 : Below wx.heap.size wx w5 := ((Below.refl wx.heap.size wx).drew.alloc (by simp) _).trans (hG5.below.mono (by simp)); have hs5 := hb5.size; have K5 := keepc hcx hb5; rw [List.nil_append, List.length_nil, Nat.zero_add] at hF5)
                | (refine step_app_oneS (T := fun b => wx.heap.size ≤ b ∧ b < w5.heap.size) (y := (⟨p, xm⟩ : File)) slz_file.slt rfl (.tmp 51) (.tmp 60) rfl rfl ((hF1x.below hb5 (fun b h _ => by have := (hbd1 b h).1.2; omega)).alloc _) rfl (heap_alloc_new _ _) (FS.alloc (FS.consL (x := p) (y := xm) (show Go.Vc.Own.own [] w5 [.string p] p from ⟨rfl, rfl, hzp⟩) hF5.fs) _) (fun b h1 h2 _ => by have := (hbd1 b h1).1.2; have h3 : wx.heap.size ≤ b ∧ b < w5.heap.size := h2; omega) (by omega) (by unfold maxLen; omega) ?_; intro a9 c9 w9 g1 g2 g3; have K9 : w9.cell? ⟨g, off + k, none⟩ = some (.string p) := (World.cell?_of_block (w := w5.alloc _) (g3 g (by have := hgS.2; simp; omega) (fun h => by have := hbd1 g h; omega))).trans (keepc K5 ((Below.refl _ _).alloc (Nat.le_refl _) _))))
            )
          | fail
          all_goals
            have hs9 := (g2 0 (Nat.zero_le _) (fun _ _ _ => Nat.zero_le _)).size
            rw [World.size_alloc] at hs9
            have hB9 := ((hBx.trans (hb5.mono hBx.size)).alloc (by have := hBx.size; omega) (.cells #[.string p, .slice a5 xm.length c5] 59)).trans (g2 w.heap.size (by have := hBx.size; simp; omega) (fun b h _ => (hbd1 b h).1.1))
            have hF29 := (((hF2x.below hb5 (fun b h _ => (hbdx b h).1.2)).alloc (.cells #[.string p, .slice a5 xm.length c5] 59)).keep (w' := w9) fun b h hl => g3 b hl fun h1 => hdisx b h1 h)
            have hF19 := g1.mono (T := fun b => (S1 b ∨ wx.heap.size ≤ b) ∧ b < w9.heap.size) (fun b h hl => ⟨by rcases h with h | h | h; exact .inl h; exact .inr h.1; exact .inr (by simp at h; omega), hl⟩)
            have hpr9 : IsSlice (fun b => wb.heap.size ≤ b ∧ b < w2.heap.size) w9 (some ⟨g, off, none⟩) cp ps := ((hprx.below (Nat.le_refl _) hb5).alloc (.cells #[.string p, .slice a5 xm.length c5] 59)).frame fun b h hl => ⟨g3 b hl (fun h1 => by have := hbd1 b h1; omega), h⟩
            clear K9 K5 hEm hF5 hG5 g1 g2 g3
            go_wp2
            go_roundw
            case rel => exact ⟨⟨k + 1, ol ++ [(⟨p, xm⟩ : File)], csx, _, S2x, by omega, by go_num, by simp; omega, by omega, by simpa using hF19, hF29, fun b h h2 => by
                have h9 := h.2
                rcases h.1 with h1 | h1
                · exact hdisx b h1 h2
                · have := (hbdx b h2).1.2; omega, fun b h => by
                rcases h with h | h
                · have h9 := h.2
                  rcases h.1 with h1 | h1
                  · have := hbd1 b h1; omega
                  · omega
                · have := hbdx b h; omega, HFx.out, HCx.out, hpr9, by omega⟩, hB9⟩
            case measure => simp [intOf] <;> omega
      · have HCx := Lib.hid (HCY.out n rfl hn)
        have hi64 := i64_small hk3
        have hn0 : 0 < n := by omega
        clear HCN HCY
        cases bm with
        | false =>
          have HFx := Lib.hid (HFN.out rfl)
          clear HFY HFN
          go_wp2_with (at_builtin; (refine wpList_app_leafS slz_clash.slt rfl (.tmp 41) (.tmp 48) rfl rfl (hF2.alloc _) rfl rfl (lit_clash (c := ⟨p, (n : Int)⟩) (heap_alloc_new _ _) hzp hi64) (by simp; omega) (by unfold maxLen; simp; omega) ?_); intro a7 c7 wx hG7; have hs7 := hG7.size; rw [World.size_alloc] at hs7; have hsx := (show wr.heap.size ≤ wx.heap.size from (by omega)); have hBx := (hB6.alloc (by have := hB6.size; omega) (.cells #[.string p, .int .i64 n] 46)).trans (hG7.below w.heap.size (by have := hB6.size; simp; omega) (fun b h _ => (hbd2 b h).1.1)); have hF1x := (show FS S1 wx [.slice ao ol.length co] ol from (hF1.alloc _).keep fun b h hl => hG7.rest b hl fun h2 => hdis b h h2); have hF2x := hG7.fs.mono (T := fun b => (S2 b ∨ w6.heap.size ≤ b) ∧ b < wx.heap.size) (fun b h hl => ⟨by rcases h with h | h; exact .inl h; exact .inr (by simp at h; omega), hl⟩); have hprx := (show IsSlice (fun b => wb.heap.size ≤ b ∧ b < w2.heap.size) wx (some ⟨g, off, none⟩) cp ps from (hpr.alloc (.cells #[.string p, .int .i64 n] 46)).frame fun b h hl => ⟨hG7.rest b hl (fun h1 => by have := hbd2 b h1; omega), h⟩); have hcx := (show wx.cell? ⟨g, off + k, none⟩ = some (.string p) from hG7.cell (keepc hcp ((Below.refl _ _).alloc (Nat.le_refl _) (.cells #[.string p, .int .i64 n] 46))) (fun h => by have h9 := hbd2 g h; omega)); have hftx := hG7.slice (hft.alloc (.cells #[.string p, .int .i64 n] 46)) (fun b h hl h2 => by have h9 := hbd2 b h2; have h8 := h.1; omega))
          have hdisx : ∀ b, S1 b → ((S2 b ∨ w6.heap.size ≤ b) ∧ b < wx.heap.size) → False := fun b h h2 => by
            have h3 := hbd1 b h
            rcases h2.1 with h1 | h1
            · exact hdis b h h1
            · omega
          have hbdx : ∀ b, ((S2 b ∨ w6.heap.size ≤ b) ∧ b < wx.heap.size) → (w.heap.size ≤ b ∧ b < wx.heap.size) ∧ (b < wb.heap.size ∨ w2.heap.size ≤ b) := fun b h => by
            have h9 := h.2
            rcases h.1 with h1 | h1
            · have := hbd2 b h1; omega
            · omega
          clear hF1 hF2 hpr hB6 hcp hft hG7
          go_roundw
          case rel => exact ⟨⟨k + 1, ol, (cs ++ [(⟨p, (n : Int)⟩ : Clash)]), S1, _, by omega, by go_num, by omega, by simp; omega, hF1x, by simpa using hF2x, hdisx, fun b h => by
              rcases h with h | h
              · have := hbd1 b h; omega
              · have := hbdx b h; omega, HFx.out, HCx.out, hprx, by omega⟩, hBx⟩
          case measure => simp [intOf] <;> omega
        | true =>
          have HFx := Lib.hid (HFY.out rfl)
          clear HFY HFN
          go_wp2_with (at_builtin; (refine wpList_app_leafS slz_clash.slt rfl (.tmp 41) (.tmp 48) rfl rfl (hF2.alloc _) rfl rfl (lit_clash (c := ⟨p, (n : Int)⟩) (heap_alloc_new _ _) hzp hi64) (by simp; omega) (by unfold maxLen; simp; omega) ?_); intro a7 c7 wx hG7; have hs7 := hG7.size; rw [World.size_alloc] at hs7; have hsx := (show wr.heap.size ≤ wx.heap.size from (by omega)); have hBx := (hB6.alloc (by have := hB6.size; omega) (.cells #[.string p, .int .i64 n] 46)).trans (hG7.below w.heap.size (by have := hB6.size; simp; omega) (fun b h _ => (hbd2 b h).1.1)); have hF1x := (show FS S1 wx [.slice ao ol.length co] ol from (hF1.alloc _).keep fun b h hl => hG7.rest b hl fun h2 => hdis b h h2); have hF2x := hG7.fs.mono (T := fun b => (S2 b ∨ w6.heap.size ≤ b) ∧ b < wx.heap.size) (fun b h hl => ⟨by rcases h with h | h; exact .inl h; exact .inr (by simp at h; omega), hl⟩); have hprx := (show IsSlice (fun b => wb.heap.size ≤ b ∧ b < w2.heap.size) wx (some ⟨g, off, none⟩) cp ps from (hpr.alloc (.cells #[.string p, .int .i64 n] 46)).frame fun b h hl => ⟨hG7.rest b hl (fun h1 => by have := hbd2 b h1; omega), h⟩); have hcx := (show wx.cell? ⟨g, off + k, none⟩ = some (.string p) from hG7.cell (keepc hcp ((Below.refl _ _).alloc (Nat.le_refl _) (.cells #[.string p, .int .i64 n] 46))) (fun h => by have h9 := hbd2 g h; omega)); have hftx := hG7.slice (hft.alloc (.cells #[.string p, .int .i64 n] 46)) (fun b h hl h2 => by have h9 := hbd2 b h2; have h8 := h.1; omega))
          have hdisx : ∀ b, S1 b → ((S2 b ∨ w6.heap.size ≤ b) ∧ b < wx.heap.size) → False := fun b h h2 => by
            have h3 := hbd1 b h
            rcases h2.1 with h1 | h1
            · exact hdis b h h1
            · omega
          have hbdx : ∀ b, ((S2 b ∨ w6.heap.size ≤ b) ∧ b < wx.heap.size) → (w.heap.size ≤ b ∧ b < wx.heap.size) ∧ (b < wb.heap.size ∨ w2.heap.size ≤ b) := fun b h => by
            have h9 := h.2
            rcases h.1 with h1 | h1
            · have := hbd2 b h1; omega
            · omega
          clear hF1 hF2 hpr hB6 hcp hft hG7
          have hEm := Fresh.empty (β := ByteArray) Nat.one_pos wx.drew.heap.size wx.drew (Nat.le_refl _)
          first
          | (
            go_region_held3 (fun w' => w'.cell? ⟨g, off + k, none⟩ = some (.string p))
              (first | exact K9 | exact K5 | exact hcx | go_keep)
              (first
                | (refine step_app_leaf slz_string.slt rfl (.tmp 56) (.tmp 57) rfl rfl (xs := ([] : List ByteArray)) hEm (by simp) rfl rfl (hftx.drew.alloc _) (by simp; omega) (by unfold maxLen; simp; omega) ?_; intro a5 c5 w5 hG5; have hF5 := hG5.fresh; have hb5 : Below wx.heap.size wx w5 := ((Below.refl wx.heap.size wx).drew.alloc (by simp) _).trans (hG5.below.mono (by simp)); have hs5 := hb5.size; have K5 := keepc hcx hb5; rw [List.nil_append, List.length_nil, Nat.zero_add] at hF5)
                | (refine step_app_oneS (T := fun b => wx.heap.size ≤ b ∧ b < w5.heap.size) (y := (⟨p, xm⟩ : File)) slz_file.slt rfl (.tmp 51) (.tmp 60) rfl rfl ((hF1x.below hb5 (fun b h _ => by have := (hbd1 b h).1.2; omega)).alloc _) rfl (heap_alloc_new _ _) (FS.alloc (FS.consL (x := p) (y := xm) (show Go.Vc.Own.own [] w5 [.string p] p from ⟨rfl, rfl, hzp⟩) hF5.fs) _) (fun b h1 h2 _ => by have := (hbd1 b h1).1.2; have h3 : wx.heap.size ≤ b ∧ b < w5.heap.size := h2; omega) (by omega) (by unfold maxLen; omega) ?_; intro a9 c9 w9 g1 g2 g3; have K9 : w9.cell? ⟨g, off + k, none⟩ = some (.string p) := (World.cell?_of_block (w := w5.alloc _) (g3 g (by have := hgS.2; simp; omega) (fun h => by have := hbd1 g h; omega))).trans (keepc K5 ((Below.refl _ _).alloc (Nat.le_refl _) _))))
            )
          | fail
          all_goals
            have hs9 := (g2 0 (Nat.zero_le _) (fun _ _ _ => Nat.zero_le _)).size
            rw [World.size_alloc] at hs9
            have hB9 := ((hBx.trans (hb5.mono hBx.size)).alloc (by have := hBx.size; omega) (.cells #[.string p, .slice a5 xm.length c5] 59)).trans (g2 w.heap.size (by have := hBx.size; simp; omega) (fun b h _ => (hbd1 b h).1.1))
            have hF29 := (((hF2x.below hb5 (fun b h _ => (hbdx b h).1.2)).alloc (.cells #[.string p, .slice a5 xm.length c5] 59)).keep (w' := w9) fun b h hl => g3 b hl fun h1 => hdisx b h1 h)
            have hF19 := g1.mono (T := fun b => (S1 b ∨ wx.heap.size ≤ b) ∧ b < w9.heap.size) (fun b h hl => ⟨by rcases h with h | h | h; exact .inl h; exact .inr h.1; exact .inr (by simp at h; omega), hl⟩)
            have hpr9 : IsSlice (fun b => wb.heap.size ≤ b ∧ b < w2.heap.size) w9 (some ⟨g, off, none⟩) cp ps := ((hprx.below (Nat.le_refl _) hb5).alloc (.cells #[.string p, .slice a5 xm.length c5] 59)).frame fun b h hl => ⟨g3 b hl (fun h1 => by have := hbd1 b h1; omega), h⟩
            clear K9 K5 hEm hF5 hG5 g1 g2 g3
            go_wp2
            go_roundw
            case rel => exact ⟨⟨k + 1, ol ++ [(⟨p, xm⟩ : File)], (cs ++ [(⟨p, (n : Int)⟩ : Clash)]), _, _, by omega, by go_num, by simp; omega, by simp; omega, by simpa using hF19, by simpa using hF29, fun b h h2 => by
                have h9 := h.2
                rcases h.1 with h1 | h1
                · exact hdisx b h1 h2
                · have := (hbdx b h2).1.2; omega, fun b h => by
                rcases h with h | h
                · have h9 := h.2
                  rcases h.1 with h1 | h1
                  · have := hbd1 b h1; omega
                  · omega
                · have := hbdx b h; omega, HFx.out, HCx.out, hpr9, by omega⟩, hB9⟩
            case measure => simp [intOf] <;> omega
    · have HF1 := Lib.hid (joinF_end HF.out hlt)
      have HC1 := Lib.hid (joinC_end HC.out hlt)
      have hbd1 : ∀ b, S1 b → w.heap.size ≤ b ∧ b < wr.heap.size := fun b h => (hbd b (.inl h)).1
      have hbd2 : ∀ b, S2 b → w.heap.size ≤ b ∧ b < wr.heap.size := fun b h => (hbd b (.inr h)).1
      have hFr := hF1.fresh (B := w.heap.size) (m := wr.heap.size) (fun b h _ => hbd1 b h)
      have hCr := hF2.rd
      go_wp2
      go_ret2
      exact ⟨.slice ao ol.length co, .slice ac cs.length cc, rfl, by rw [← HPS.out, HF1.out]; exact hFr, by rw [← HPS.out, HC1.out]; exact Rep.mono (fun b h => hbd2 b h) hCr, hbr⟩
end Go.Proofs.YtegknjcifmenpaaGreatDoor
namespace Go.Proofs.YtegknjcifmenpaaGreatDoor
open Go.RowKit Go.Vc
open Go.Vc.Rep (rd)
open Go.Vc.Own (own)
set_option maxHeartbeats 8000000 in
set_option maxRecDepth 100000 in
theorem l6Join_any {S T U : Nat → Prop} (v u x : Value) (o a b : List File) (w : World) (hv : rd S w [v] o) (hu : rd T w [u] a) (hx : rd U w [x] b) (tro : treeB o = true) (tra : treeB a = true) (trb : treeB b = true) :
    Calls Tryz.prog 82 #[v, u, x] w fun e w' => ∃ v1 v2, e = .returned (.tuple #[v1, v2]) ∧ Fresh w.heap.size w'.heap.size w' [v1] (joinOf o a b).1 ∧ rd (fun k => w.heap.size ≤ k ∧ k < w'.heap.size) w' [v2] (joinOf o a b).2 ∧ Below w.heap.size w w' := by
  obtain ⟨a1, c1, rfl, h1⟩ := rd_slice_elim (Rep.lt hv)
  obtain ⟨a2, c2, rfl, h2⟩ := rd_slice_elim (Rep.lt hu)
  obtain ⟨a3, c3, rfl, h3⟩ := rd_slice_elim (Rep.lt hx)
  clear hv hu hx
  have HT := Lib.hid (threeT_iff.2 ⟨tro, tra, trb⟩)
  obtain ⟨l1, x1⟩ := tree_files tro
  go_enter Tryz.func82, Tryz.ntmps82
  go_wp2_with fail
  refine (l6Of_any _ _ _ o a b _ h1.rd h2.rd h3.rd tro tra trb).mono ?_
  rintro e w1 ⟨v1, v2, rfl, hF, hC, hb1⟩
  have hs1 := hb1.size
  have HE := Lib.hid (fun h => joinOf_ok (o := o) (a := a) (b := b) HT.out h)
  have HE2 := Lib.hid (fun h h2 => joinOf_tree (o := o) (a := a) (b := b) HT.out h h2)
  obtain ⟨ol, hol⟩ : ∃ ol, ol = joinF o a b (allP o a b) := ⟨_, rfl⟩
  obtain ⟨cs, hcs⟩ : ∃ cs, cs = joinC o a b (allP o a b) := ⟨_, rfl⟩
  rw [← hol, ← hcs] at HE HE2
  rw [← hol] at hF
  rw [← hcs] at hC
  obtain ⟨ao, co, rfl, _⟩ := hF.shape
  obtain ⟨ac, cc, rfl, hCs⟩ := rd_slice_elim hC
  clear hol hcs tro tra trb h2 h3
  by_cases h0 : cs.length = 0
  · have hd0 : ((cs.length : Int) == 0) = true := by simp [h0]
    obtain rfl := List.eq_nil_of_length_eq_zero h0
    cases ht : treeB ol with
    | true =>
      have HR := Lib.hid (HE.out (.inr ht))
      go_wp2_with fail
      refine (l4Ok_is _ ol _ hF.rd ht).mono ?_
      rintro e w3 ⟨rfl, hb3⟩
      have hs3 := hb3.size
      have hF := (hF.below (Nat.le_refl _) hb3).now
      go_wp2
      go_ret2
      exact ⟨.slice ao ol.length co, .slice ac 0 cc, rfl, by rw [HR.out]; exact hF, by rw [HR.out]; exact Rep.frame (fun b h hl => ⟨hb3.block b hl, by omega⟩) hC, hb1.trans (hb3.mono hs1)⟩
    | false =>
      have HR := Lib.hid (HE2.out rfl ht)
      go_wp2_with fail
      refine (l4Ok_is _ ol _ hF.rd ht).mono ?_
      rintro e w3 ⟨rfl, hb3⟩
      have hs3 := hb3.size
      have hB3 := hb1.trans (hb3.mono hs1)
      go_wp2_with fail
      refine (l4Copy_any _ o _ (h1.keep hB3).rd (by omega) x1).mono ?_
      rintro e w4 ⟨v4, rfl, hC4, hb4⟩
      have hs4 := hb4.size
      have hB4 := hB3.trans (hb4.mono hB3.size)
      obtain ⟨a4, c4, rfl, _⟩ := hC4.shape
      go_wp2
      go_ret2
      exact ⟨.slice a4 o.length c4, _, rfl, by rw [HR.out]; exact (hC4.alloc _).mono (by omega) (by simp), by rw [HR.out]; exact ((lit_clash (c := ⟨⟨#[]⟩, 4⟩) (heap_alloc_new _ _) (Nat.zero_le _) ⟨by decide, by decide⟩).mono (fun b hb => by subst hb; simp; omega)).rd, hB4.alloc (by omega) _⟩
  · have hd0 : ((cs.length : Int) == 0) = false := by rw [beq_eq_false_iff_ne]; omega
    have HR := Lib.hid (HE.out (.inl (fun e => h0 (by rw [e]; rfl))))
    go_wp2
    go_ret2
    exact ⟨.slice ao ol.length co, .slice ac cs.length cc, rfl, by rw [HR.out]; exact hF, by rw [HR.out]; exact hC, hb1⟩
set_option maxHeartbeats 8000000 in
set_option maxRecDepth 100000 in
theorem specJoinOf {S T U : Nat → Prop} (v u x : Value) (o a b : List File) (w : World) (hv : rd S w [v] o) (hu : rd T w [u] a) (hx : rd U w [x] b) :
    Calls Tryz.prog 29 #[v, u, x] w fun e w' => ∃ v1 v2, e = .returned (.tuple #[v1, v2]) ∧ Fresh w.heap.size w'.heap.size w' [v1] (joinOf o a b).1 ∧ rd (fun k => w.heap.size ≤ k ∧ k < w'.heap.size) w' [v2] (joinOf o a b).2 ∧ Below w.heap.size w w' := by
  obtain ⟨a1, c1, rfl, h1⟩ := rd_slice_elim (Rep.lt hv)
  obtain ⟨a2, c2, rfl, h2⟩ := rd_slice_elim (Rep.lt hu)
  obtain ⟨a3, c3, rfl, h3⟩ := rd_slice_elim (Rep.lt hx)
  clear hv hu hx
  cases e1 : treeB o with
  | false =>
    have HC := Lib.hid (show threeT o a b = false from by unfold threeT; rw [e1]; rfl)
    go_enter Tryz.func29, Tryz.ntmps29
    go_wp2_with fail
    refine (l4Ok_is _ o _ h1.rd e1).mono ?_
    rintro e w1 ⟨rfl, hW⟩
    have HD := Lib.hid (joinOf_bad HC.out)
    go_wp2
    go_ret2
    exact ⟨.slice none 0 0, .slice none 0 0, rfl, by rw [HD.out]; exact Fresh.nil _ _ _ (by decide), by rw [HD.out]; exact rd_slice_nil _ _, hW⟩
  | true =>
    cases e2 : treeB a with
    | false =>
      have HC := Lib.hid (show threeT o a b = false from by unfold threeT; rw [e1, e2]; rfl)
      go_enter Tryz.func29, Tryz.ntmps29
      go_wp2_with fail
      refine (l4Ok_is _ o _ h1.rd e1).mono ?_
      rintro e w1 ⟨rfl, hW1⟩
      go_wp2_with fail
      refine (l4Ok_is _ a _ (h2.keep hW1).rd e2).mono ?_
      rintro e w2 ⟨rfl, hW2⟩
      have hW := hW1.trans (hW2.mono hW1.size)
      have HD := Lib.hid (joinOf_bad HC.out)
      go_wp2
      go_ret2
      exact ⟨.slice none 0 0, .slice none 0 0, rfl, by rw [HD.out]; exact Fresh.nil _ _ _ (by decide), by rw [HD.out]; exact rd_slice_nil _ _, hW⟩
    | true =>
      cases e3 : treeB b with
      | false =>
        have HC := Lib.hid (show threeT o a b = false from by unfold threeT; rw [e1, e2, e3]; rfl)
        go_enter Tryz.func29, Tryz.ntmps29
        go_wp2_with fail
        refine (l4Ok_is _ o _ h1.rd e1).mono ?_
        rintro e w1 ⟨rfl, hW1⟩
        go_wp2_with fail
        refine (l4Ok_is _ a _ (h2.keep hW1).rd e2).mono ?_
        rintro e w2 ⟨rfl, hW2⟩
        have hW12 := hW1.trans (hW2.mono hW1.size)
        go_wp2_with fail
        refine (l4Ok_is _ b _ (h3.keep hW12).rd e3).mono ?_
        rintro e w3 ⟨rfl, hW3⟩
        have hW := hW12.trans (hW3.mono hW12.size)
        have HD := Lib.hid (joinOf_bad HC.out)
        go_wp2
        go_ret2
        exact ⟨.slice none 0 0, .slice none 0 0, rfl, by rw [HD.out]; exact Fresh.nil _ _ _ (by decide), by rw [HD.out]; exact rd_slice_nil _ _, hW⟩
      | true =>
        have HC := Lib.hid (threeT_iff.2 ⟨e1, e2, e3⟩)
        go_enter Tryz.func29, Tryz.ntmps29
        go_wp2_with fail
        refine (l4Ok_is _ o _ h1.rd e1).mono ?_
        rintro e w1 ⟨rfl, hW1⟩
        go_wp2_with fail
        refine (l4Ok_is _ a _ (h2.keep hW1).rd e2).mono ?_
        rintro e w2 ⟨rfl, hW2⟩
        have hW12 := hW1.trans (hW2.mono hW1.size)
        go_wp2_with fail
        refine (l4Ok_is _ b _ (h3.keep hW12).rd e3).mono ?_
        rintro e w3 ⟨rfl, hW3⟩
        have hW := hW12.trans (hW3.mono hW12.size)
        have hsW := hW.size
        go_wp2_with fail
        refine (l6Join_any _ _ _ o a b _ (h1.keep hW).rd (h2.keep hW).rd (h3.keep hW).rd e1 e2 e3).mono ?_
        rintro e w4 ⟨v1, v2, rfl, hF, hC, hb4⟩
        obtain ⟨J, hJ⟩ : ∃ J, J = joinOf o a b := ⟨_, rfl⟩
        rw [← hJ] at hF hC
        have HJ := Lib.hid hJ
        obtain ⟨t, cs⟩ := J
        simp only at hF hC
        obtain ⟨af, cf, rfl, _⟩ := hF.shape
        obtain ⟨ac, cc, rfl, hCs⟩ := rd_slice_elim hC
        clear hJ
        go_wp2
        go_ret2
        exact ⟨.slice af t.length cf, .slice ac cs.length cc, rfl, by rw [← HJ.out]; exact hF.mono hsW (Nat.le_refl _), by rw [← HJ.out]; exact Rep.mono (fun k hk => by omega) hC, hW.trans (hb4.mono hsW)⟩
set_option maxHeartbeats 8000000 in
set_option maxRecDepth 100000 in
theorem specJoinTree {S T U : Nat → Prop} (v u x : Value) (o a b : List File) (w : World) (hv : rd S w [v] o) (hu : rd T w [u] a) (hx : rd U w [x] b) :
    Calls Tryz.prog 33 #[v, u, x] w fun e w' => ∃ v1, e = .returned (.tuple #[v1, .bool (joinTree o a b).2]) ∧ Fresh w.heap.size w'.heap.size w' [v1] (joinTree o a b).1 ∧ Below w.heap.size w w' := by
  obtain ⟨a1, c1, rfl, h1⟩ := rd_slice_elim (Rep.lt hv)
  obtain ⟨a2, c2, rfl, h2⟩ := rd_slice_elim (Rep.lt hu)
  obtain ⟨a3, c3, rfl, h3⟩ := rd_slice_elim (Rep.lt hx)
  clear hv hu hx
  cases e1 : treeB o with
  | false =>
    have HC := Lib.hid (show threeT o a b = false from by unfold threeT; rw [e1]; rfl)
    go_enter Tryz.func33, Tryz.ntmps33
    go_wp2_with fail
    refine (l4Ok_is _ o _ h1.rd e1).mono ?_
    rintro e w1 ⟨rfl, hW⟩
    have HD := Lib.hid (joinTree_bad HC.out)
    go_wp2
    go_ret2
    exact ⟨.slice none 0 0, by rw [HD.out]; rfl, by rw [HD.out]; exact Fresh.nil _ _ _ (by decide), hW⟩
  | true =>
    cases e2 : treeB a with
    | false =>
      have HC := Lib.hid (show threeT o a b = false from by unfold threeT; rw [e1, e2]; rfl)
      go_enter Tryz.func33, Tryz.ntmps33
      go_wp2_with fail
      refine (l4Ok_is _ o _ h1.rd e1).mono ?_
      rintro e w1 ⟨rfl, hW1⟩
      go_wp2_with fail
      refine (l4Ok_is _ a _ (h2.keep hW1).rd e2).mono ?_
      rintro e w2 ⟨rfl, hW2⟩
      have hW := hW1.trans (hW2.mono hW1.size)
      have HD := Lib.hid (joinTree_bad HC.out)
      go_wp2
      go_ret2
      exact ⟨.slice none 0 0, by rw [HD.out]; rfl, by rw [HD.out]; exact Fresh.nil _ _ _ (by decide), hW⟩
    | true =>
      cases e3 : treeB b with
      | false =>
        have HC := Lib.hid (show threeT o a b = false from by unfold threeT; rw [e1, e2, e3]; rfl)
        go_enter Tryz.func33, Tryz.ntmps33
        go_wp2_with fail
        refine (l4Ok_is _ o _ h1.rd e1).mono ?_
        rintro e w1 ⟨rfl, hW1⟩
        go_wp2_with fail
        refine (l4Ok_is _ a _ (h2.keep hW1).rd e2).mono ?_
        rintro e w2 ⟨rfl, hW2⟩
        have hW12 := hW1.trans (hW2.mono hW1.size)
        go_wp2_with fail
        refine (l4Ok_is _ b _ (h3.keep hW12).rd e3).mono ?_
        rintro e w3 ⟨rfl, hW3⟩
        have hW := hW12.trans (hW3.mono hW12.size)
        have HD := Lib.hid (joinTree_bad HC.out)
        go_wp2
        go_ret2
        exact ⟨.slice none 0 0, by rw [HD.out]; rfl, by rw [HD.out]; exact Fresh.nil _ _ _ (by decide), hW⟩
      | true =>
        have HC := Lib.hid (threeT_iff.2 ⟨e1, e2, e3⟩)
        go_enter Tryz.func33, Tryz.ntmps33
        go_wp2_with fail
        refine (l4Ok_is _ o _ h1.rd e1).mono ?_
        rintro e w1 ⟨rfl, hW1⟩
        go_wp2_with fail
        refine (l4Ok_is _ a _ (h2.keep hW1).rd e2).mono ?_
        rintro e w2 ⟨rfl, hW2⟩
        have hW12 := hW1.trans (hW2.mono hW1.size)
        go_wp2_with fail
        refine (l4Ok_is _ b _ (h3.keep hW12).rd e3).mono ?_
        rintro e w3 ⟨rfl, hW3⟩
        have hW := hW12.trans (hW3.mono hW12.size)
        have hsW := hW.size
        have HY := Lib.hid (fun h => joinTree_yes HC.out h)
        have HN := Lib.hid (joinTree_no (o := o) (a := a) (b := b))
        go_wp2_with fail
        refine (l6Join_any _ _ _ o a b _ (h1.keep hW).rd (h2.keep hW).rd (h3.keep hW).rd e1 e2 e3).mono ?_
        rintro e w4 ⟨v1, v2, rfl, hF, hC, hb4⟩
        have hB := hW.trans (hb4.mono hsW)
        obtain ⟨J, hJ⟩ : ∃ J, J = joinOf o a b := ⟨_, rfl⟩
        rw [← hJ] at hF hC HY HN
        obtain ⟨t, cs⟩ := J
        simp only at hF hC HY HN
        obtain ⟨af, cf, rfl, _⟩ := hF.shape
        obtain ⟨ac, cc, rfl, hCs⟩ := rd_slice_elim hC
        clear hJ
        by_cases h0 : cs = []
        · have HR := Lib.hid (HY.out h0)
          have hpos : ¬ 0 < cs.length := by rw [h0]; simp
          clear HY HN h0
          go_wp2
          go_ret2
          exact ⟨.slice af t.length cf, by rw [HR.out]; rfl, by rw [HR.out]; exact hF.mono hsW (Nat.le_refl _), hB⟩
        · have HR := Lib.hid (HN.out h0)
          have hpos : 0 < cs.length := List.length_pos_iff.2 h0
          clear HY HN h0
          go_wp2
          go_ret2
          exact ⟨.slice none 0 0, by rw [HR.out]; rfl, by rw [HR.out]; exact Fresh.nil _ _ _ (by decide), hB⟩
end Go.Proofs.YtegknjcifmenpaaGreatDoor
namespace Go.Proofs.YtegknjcifmenpaaGreatDoor
open Go.RowKit Go.Vc
open Go.Vc.Rep (rd)
open Go.Vc.Own (own)
set_option maxHeartbeats 8000000 in
set_option maxRecDepth 100000 in
theorem specJoinFree {S T U : Nat → Prop} (v u x : Value) (o a b : List File) (w : World) (hv : rd S w [v] o) (hu : rd T w [u] a) (hx : rd U w [x] b) {c : Bool} (hc : joinFree o a b = c) :
    Calls Tryz.prog 26 #[v, u, x] w fun e w' => e = .returned (.bool c) ∧ Below w.heap.size w w' := by
  obtain ⟨a1, c1, rfl, h1⟩ := rd_slice_elim (Rep.lt hv)
  obtain ⟨a2, c2, rfl, h2⟩ := rd_slice_elim (Rep.lt hu)
  obtain ⟨a3, c3, rfl, h3⟩ := rd_slice_elim (Rep.lt hx)
  clear hv hu hx
  subst hc
  cases e1 : treeB o with
  | false =>
    have HC := Lib.hid (show threeT o a b = false from by unfold threeT; rw [e1]; rfl)
    go_enter Tryz.func26, Tryz.ntmps26
    go_wp2_with fail
    refine (l4Ok_is _ o _ h1.rd e1).mono ?_
    rintro e w1 ⟨rfl, hW⟩
    have HD := Lib.hid (joinFree_bad HC.out)
    go_wp2
    go_ret
    exact ⟨by rw [HD.out]; rfl, hW⟩
  | true =>
    cases e2 : treeB a with
    | false =>
      have HC := Lib.hid (show threeT o a b = false from by unfold threeT; rw [e1, e2]; rfl)
      go_enter Tryz.func26, Tryz.ntmps26
      go_wp2_with fail
      refine (l4Ok_is _ o _ h1.rd e1).mono ?_
      rintro e w1 ⟨rfl, hW1⟩
      go_wp2_with fail
      refine (l4Ok_is _ a _ (h2.keep hW1).rd e2).mono ?_
      rintro e w2 ⟨rfl, hW2⟩
      have hW := hW1.trans (hW2.mono hW1.size)
      have HD := Lib.hid (joinFree_bad HC.out)
      go_wp2
      go_ret
      exact ⟨by rw [HD.out]; rfl, hW⟩
    | true =>
      cases e3 : treeB b with
      | false =>
        have HC := Lib.hid (show threeT o a b = false from by unfold threeT; rw [e1, e2, e3]; rfl)
        go_enter Tryz.func26, Tryz.ntmps26
        go_wp2_with fail
        refine (l4Ok_is _ o _ h1.rd e1).mono ?_
        rintro e w1 ⟨rfl, hW1⟩
        go_wp2_with fail
        refine (l4Ok_is _ a _ (h2.keep hW1).rd e2).mono ?_
        rintro e w2 ⟨rfl, hW2⟩
        have hW12 := hW1.trans (hW2.mono hW1.size)
        go_wp2_with fail
        refine (l4Ok_is _ b _ (h3.keep hW12).rd e3).mono ?_
        rintro e w3 ⟨rfl, hW3⟩
        have hW := hW12.trans (hW3.mono hW12.size)
        have HD := Lib.hid (joinFree_bad HC.out)
        go_wp2
        go_ret
        exact ⟨by rw [HD.out]; rfl, hW⟩
      | true =>
        have HC := Lib.hid (threeT_iff.2 ⟨e1, e2, e3⟩)
        go_enter Tryz.func26, Tryz.ntmps26
        go_wp2_with fail
        refine (l4Ok_is _ o _ h1.rd e1).mono ?_
        rintro e w1 ⟨rfl, hW1⟩
        go_wp2_with fail
        refine (l4Ok_is _ a _ (h2.keep hW1).rd e2).mono ?_
        rintro e w2 ⟨rfl, hW2⟩
        have hW12 := hW1.trans (hW2.mono hW1.size)
        go_wp2_with fail
        refine (l4Ok_is _ b _ (h3.keep hW12).rd e3).mono ?_
        rintro e w3 ⟨rfl, hW3⟩
        have hW := hW12.trans (hW3.mono hW12.size)
        have hsW := hW.size
        have HD := Lib.hid (joinFree_ok HC.out)
        obtain ⟨l1, x1⟩ := tree_files e1
        obtain ⟨l2, x2⟩ := tree_files e2
        obtain ⟨l3, x3⟩ := tree_files e3
        go_wp2_with fail
        refine (l6Paths_any _ _ _ o a b _ (h1.keep hW).rd (h2.keep hW).rd (h3.keep hW).rd (by omega) (by omega) (by omega)).mono ?_
        rintro e w4 ⟨vp, rfl, hP, hb4⟩
        have hB4 := hW.trans (hb4.mono hsW)
        have hs4 := hB4.size
        obtain ⟨ps, hps⟩ : ∃ ps, ps = allP o a b := ⟨_, rfl⟩
        rw [← hps] at hP HD
        obtain ⟨ap, cp, rfl, hpr⟩ := rd_slice_elim (Rep.lt hP.rd)
        have hple := hpr.le
        clear hb4 hP hps hW1 hW2 hW3 hW12 hW x1 x2 x3 e1 e2 e3
        go_wp2
        go_loopw [8] (fun i wr => (∃ (k : Nat), k ≤ ps.length ∧ i = .int .i64 k ∧ Hid (joinFree o a b = (ps.drop k).all (freeAt o a b))) ∧ Below w4.heap.size w4 wr) (fun i _ => ps.length - (intOf i).toNat)
        case atStart => exact ⟨⟨0, by omega, rfl, HD.out⟩, Below.refl _ _⟩
        case round =>
          obtain ⟨⟨k, hk, rfl, HF⟩, hbr⟩ := hrel
          have hsr := hbr.size
          have hBr := hB4.trans (hbr.mono hs4)
          by_cases hlt : k < ps.length
          · obtain ⟨g, off, rfl, hcp, hzp⟩ := (hpr.keep hbr).str hlt
            have hN := free_next HF.out hlt
            have hSt := free_stop HF.out hlt
            obtain ⟨p, hp⟩ : ∃ p, p = ps[k] := ⟨_, rfl⟩
            rw [← hp] at hcp hzp hN hSt
            obtain ⟨O, hO⟩ : ∃ O, getT o p = O := ⟨_, rfl⟩
            obtain ⟨A, hA⟩ : ∃ A, getT a p = A := ⟨_, rfl⟩
            obtain ⟨Q, hQ⟩ : ∃ Q, getT b p = Q := ⟨_, rfl⟩
            have hfr : freeAt o a b p = (decide (A = O) || decide (Q = O)) := by unfold freeAt; rw [hO, hA, hQ]
            rw [hfr] at hN hSt
            have HN := Lib.hid hN
            have HS := Lib.hid hSt
            have HO := Lib.hid hO
            have HA := Lib.hid hA
            have HQ := Lib.hid hQ
            clear hp hN hSt hO hA hQ HF hfr
            go_wp2_with fail
            refine (l4Get_in _ o p _ (h1.keep hBr).rd HO.out).mono ?_
            rintro e wvo ⟨vo, rfl, vor, rfl⟩

            go_wp2_with fail
            refine (l4Get_in _ a p _ (h2.keep hBr).rd HA.out).mono ?_
            rintro e wva ⟨va, rfl, var, rfl⟩

            go_wp2_with fail
            refine (l4Get_in _ b p _ (h3.keep hBr).rd HQ.out).mono ?_
            rintro e wvq ⟨vq, rfl, vqr, rfl⟩
            obtain ⟨ao, co, rfl, _⟩ := rd_slice_elim vor
            obtain ⟨aa, ca, rfl, _⟩ := rd_slice_elim var
            obtain ⟨aq, cq, rfl, _⟩ := rd_slice_elim vqr
            by_cases d1 : A = O
            · have HR := Lib.hid (HN.out (by rw [decide_eq_true d1]; rfl))
              have D1 := Lib.hid d1
              clear d1 HN HS
              go_wp2_with fail
              refine (l6Same_is _ _ A O _ var vor (decide_eq_true D1.out)).mono ?_
              rintro e w5 ⟨rfl, n5, he5⟩
              have hb5 : Below wr.heap.size wr w5 := by rw [he5]; exact below_drewN (Below.refl _ _) n5
              clear he5
              go_wp2
              go_roundw
              case rel => exact ⟨⟨k + 1, by omega, by go_num, HR.out⟩, hbr.trans (hb5.mono hsr)⟩
              case measure => simp [intOf] <;> omega
            · have D1 := Lib.hid d1
              by_cases d2 : Q = O
              · have D2 := Lib.hid d2
                have HR := Lib.hid (HN.out (by rw [decide_eq_true d2, Bool.or_true]))
                clear d1 d2 HN HS
                go_wp2_with fail
                refine (l6Same_is _ _ A O _ var vor (decide_eq_false D1.out)).mono ?_
                rintro e w5 ⟨rfl, n5, he5⟩
                have hb5 : Below wr.heap.size wr w5 := by rw [he5]; exact below_drewN (Below.refl _ _) n5
                clear he5
                go_wp2_with fail
                refine (l6Same_is _ _ Q O _ (Rep.below vqr (Nat.le_refl _) hb5) (Rep.below vor (Nat.le_refl _) hb5) (decide_eq_true D2.out)).mono ?_
                rintro e w6 ⟨rfl, n6, he6⟩
                have hb6 : Below wr.heap.size wr w6 := by rw [he6]; exact below_drewN hb5 n6
                clear he6
                go_wp2
                go_roundw
                case rel => exact ⟨⟨k + 1, by omega, by go_num, HR.out⟩, hbr.trans (hb6.mono hsr)⟩
                case measure => simp [intOf] <;> omega
              · have D2 := Lib.hid d2
                have HR := Lib.hid (HS.out (by rw [decide_eq_false d1, decide_eq_false d2]; rfl))
                clear d1 d2 HN HS
                go_wp2_with fail
                refine (l6Same_is _ _ A O _ var vor (decide_eq_false D1.out)).mono ?_
                rintro e w5 ⟨rfl, n5, he5⟩
                have hb5 : Below wr.heap.size wr w5 := by rw [he5]; exact below_drewN (Below.refl _ _) n5
                clear he5
                go_wp2_with fail
                refine (l6Same_is _ _ Q O _ (Rep.below vqr (Nat.le_refl _) hb5) (Rep.below vor (Nat.le_refl _) hb5) (decide_eq_false D2.out)).mono ?_
                rintro e w6 ⟨rfl, n6, he6⟩
                have hb6 : Below wr.heap.size wr w6 := by rw [he6]; exact below_drewN hb5 n6
                clear he6
                go_wp2
                go_ret
                exact ⟨by rw [HR.out]; rfl, hBr.trans (hb6.mono hBr.size)⟩
          · have HN := Lib.hid (free_end HF.out hlt)
            go_wp2
            go_ret
            exact ⟨by rw [HN.out]; rfl, hBr⟩
end Go.Proofs.YtegknjcifmenpaaGreatDoor
