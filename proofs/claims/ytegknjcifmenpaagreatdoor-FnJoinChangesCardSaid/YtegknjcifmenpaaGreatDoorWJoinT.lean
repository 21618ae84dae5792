/-
  Walks: the joined tree, and whether nothing was changed on both sides, as the program has it.
-/
import Derived.Test.YtegknjcifmenpaaGreatDoorVJI
set_option linter.unusedVariables false
namespace Go.Proofs.YtegknjcifmenpaaGreatDoor
open Go.RowKit Go.Vc
open Go.Vc.Rep (rd)
open Go.Vc.Own (own)
theorem gt_t {a b : Int} (h : b < a) : decide (b < a) = true := decide_eq_true h
set_option maxHeartbeats 4000000 in
set_option maxRecDepth 100000 in
theorem implJoinTree {S T U : Nat → Prop} (v u x : Value) (o a b : List File) (w : World) (hv : rd S w [v] o) (hu : rd T w [u] a) (hx : rd U w [x] b) (hSo : ∀ f, f ∈ o → ShortS f.path) (hSa : ∀ f, f ∈ a → ShortS f.path) (hSb : ∀ f, f ∈ b → ShortS f.path) (hM : ML w) :
    Calls Tryz.prog 32 #[v, u, x] w fun e w' => ∃ v1, e = .returned (.tuple #[v1, .bool (joinTree o a b).2]) ∧ Fresh w.heap.size w'.heap.size w' [v1] (joinTree o a b).1 ∧ Below w.heap.size w w' := by
  obtain ⟨a1, c1, rfl, h1⟩ := rd_slice_elim (Rep.lt hv)
  obtain ⟨a2, c2, rfl, h2⟩ := rd_slice_elim (Rep.lt hu)
  obtain ⟨a3, c3, rfl, h3⟩ := rd_slice_elim (Rep.lt hx)
  cases hb : threeT o a b with
  | false =>
    have HD := Lib.hid (joinTree_bad hb)
    go_enter Tryz.func32, Tryz.ntmps32
    go_wp2_with fail
    refine (areTrees_is _ _ _ o a b _ h1.rd h2.rd h3.rd hSo hSa hSb hM hb).mono ?_
    rintro e w1 ⟨rfl, hb1⟩
    go_wp2
    go_ret2
    exact ⟨.slice none 0 0, by rw [HD.out]; rfl, by rw [HD.out]; exact Fresh.nil _ _ _ (by decide), hb1⟩
  | true =>
    have HY := Lib.hid (fun h => joinTree_yes hb h)
    have HN := Lib.hid (joinTree_no (o := o) (a := a) (b := b))
    go_enter Tryz.func32, Tryz.ntmps32
    go_wp2_with fail
    refine (areTrees_is _ _ _ o a b _ h1.rd h2.rd h3.rd hSo hSa hSb hM hb).mono ?_
    rintro e w1 ⟨rfl, hb1⟩
    have hs1 := hb1.size
    go_wp2_with fail
    refine (implJoinOf _ _ _ o a b _ (h1.keep hb1).rd (h2.keep hb1).rd (h3.keep hb1).rd hSo hSa hSb (hM.keep hb1)).mono ?_
    rintro e w2 ⟨v1, v2, rfl, hF, hC, hb2⟩
    have hB := hb1.trans (hb2.mono hs1)
    obtain ⟨J, hJ⟩ : ∃ J, J = joinOf o a b := ⟨_, rfl⟩
    rw [← hJ] at hF hC HY HN
    obtain ⟨t, cs⟩ := J
    simp only at hF hC HY HN
    obtain ⟨af, cf, rfl, _⟩ := hF.shape
    obtain ⟨ac, cc, rfl, hCs⟩ := rd_slice_elim hC
    clear hJ hb
    by_cases h0 : cs = []
    · have HR := Lib.hid (HY.out h0)
      have hpos : ¬ 0 < cs.length := by rw [h0]; simp
      clear HY HN h0
      go_wp2
      go_ret2
      exact ⟨.slice af t.length cf, by rw [HR.out]; rfl, by rw [HR.out]; exact hF.mono hs1 (Nat.le_refl _), hB⟩
    · have HR := Lib.hid (HN.out h0)
      have hpos : 0 < cs.length := List.length_pos_iff.2 h0
      clear HY HN h0
      go_wp2
      go_ret2
      exact ⟨.slice none 0 0, by rw [HR.out]; rfl, by rw [HR.out]; exact Fresh.nil _ _ _ (by decide), hB⟩
set_option maxHeartbeats 8000000 in
set_option maxRecDepth 100000 in
theorem implJoinFree {S T U : Nat → Prop} (v u x : Value) (o a b : List File) (w : World) (hv : rd S w [v] o) (hu : rd T w [u] a) (hx : rd U w [x] b) (hSo : ∀ f, f ∈ o → ShortS f.path) (hSa : ∀ f, f ∈ a → ShortS f.path) (hSb : ∀ f, f ∈ b → ShortS f.path) (hM : ML w) {c : Bool} (hc : joinFree o a b = c) :
    Calls Tryz.prog 25 #[v, u, x] w fun e w' => e = .returned (.bool c) ∧ Below w.heap.size w w' := by
  obtain ⟨a1, c1, rfl, h1⟩ := rd_slice_elim (Rep.lt hv)
  obtain ⟨a2, c2, rfl, h2⟩ := rd_slice_elim (Rep.lt hu)
  obtain ⟨a3, c3, rfl, h3⟩ := rd_slice_elim (Rep.lt hx)
  subst hc
  cases hb : threeT o a b with
  | false =>
    have HD := Lib.hid (joinFree_bad hb)
    go_enter Tryz.func25, Tryz.ntmps25
    go_wp2_with fail
    refine (areTrees_is _ _ _ o a b _ h1.rd h2.rd h3.rd hSo hSa hSb hM hb).mono ?_
    rintro e w1 ⟨rfl, hb1⟩
    go_wp2
    go_ret
    exact ⟨by rw [HD.out]; rfl, hb1⟩
  | true =>
    have HD := Lib.hid (joinFree_ok hb)
    obtain ⟨t1, t2, t3⟩ := threeT_iff.1 hb
    obtain ⟨l1, x1⟩ := tree_files t1
    obtain ⟨l2, x2⟩ := tree_files t2
    obtain ⟨l3, x3⟩ := tree_files t3
    go_enter Tryz.func25, Tryz.ntmps25
    go_wp2_with fail
    refine (areTrees_is _ _ _ o a b _ h1.rd h2.rd h3.rd hSo hSa hSb hM hb).mono ?_
    rintro e w1 ⟨rfl, hb1⟩
    have hs1 := hb1.size
    go_wp2_with fail
    refine (allPaths_any (S := fun k => k < w1.heap.size + 1) _ [o, a, b] _ (lit_three (heap_alloc_new _ _) (Nat.lt_succ_self _) (Rep.mono (fun k hk => by omega) ((h1.keep hb1).alloc _).rd) (Rep.mono (fun k hk => by omega) ((h2.keep hb1).alloc _).rd) (Rep.mono (fun k hk => by omega) ((h3.keep hb1).alloc _).rd)).rd (by simp) (fun t ht => by simp at ht; rcases ht with rfl | rfl | rfl <;> assumption)).mono ?_
    rintro e w2 ⟨vp, rfl, hP, hb2⟩
    rw [flat_three] at hP
    have hB2 := (hb1.alloc hs1 (.cells #[.slice a1 o.length c1, .slice a2 a.length c2, .slice a3 b.length c3] 23)).trans (hb2.mono (by simp; omega))
    have hs2 := hB2.size
    obtain ⟨ps, hps⟩ : ∃ ps, ps = allP o a b := ⟨_, rfl⟩
    rw [← hps] at hP HD
    obtain ⟨ap, cp, rfl, hpr⟩ := rd_slice_elim (Rep.lt hP.rd)
    have hple := hpr.le
    clear hb1 hb2 hP hps hv hu hx t1 t2 t3 hs1 hb hM
    go_wp2
    go_loopw [21] (fun i wr => (∃ (k : Nat), k ≤ ps.length ∧ i = .int .i64 k ∧ Hid (joinFree o a b = (ps.drop k).all (freeAt o a b))) ∧ Below w2.heap.size w2 wr) (fun i _ => ps.length - (intOf i).toNat)
    case atStart => exact ⟨⟨0, by omega, rfl, HD.out⟩, Below.refl _ _⟩
    case round =>
      obtain ⟨⟨k, hk, rfl, HF⟩, hbr⟩ := hrel
      have hsr := hbr.size
      have hBr := hB2.trans (hbr.mono hs2)
      by_cases hlt : k < ps.length
      · obtain ⟨g, off, rfl, hcp, hzp⟩ := (hpr.keep hbr).str hlt
        have hN := free_next HF.out hlt
        have hSt := free_stop HF.out hlt
        obtain ⟨p, hp⟩ : ∃ p, p = ps[k] := ⟨_, rfl⟩
        rw [← hp] at hcp hzp hN hSt
        obtain ⟨O, hO⟩ : ∃ O, getT o p = O := ⟨_, rfl⟩
        obtain ⟨A, hA⟩ : ∃ A, getT a p = A := ⟨_, rfl⟩
        obtain ⟨Q, hQ⟩ : ∃ Q, getT b p = Q := ⟨_, rfl⟩
        have hfr : freeAt o a b p = (decide (A = O) || decide (Q = O)) := by unfold freeAt; rw [hO, hA, hQ]
        rw [hfr] at hN hSt
        have HN := Lib.hid hN
        have HS := Lib.hid hSt
        have HO := Lib.hid hO
        have HA := Lib.hid hA
        have HQ := Lib.hid hQ
        clear hp hN hSt hO hA hQ HF hfr
        go_wp2_with fail
        refine (hasAt_any _ o p _ (h1.keep hBr).rd x1 HO.out).mono ?_
        rintro e w3 ⟨vo, rfl, hFo, hb3⟩
        have hs3 := hb3.size
        obtain ⟨ao, co, rfl, _⟩ := hFo.shape
        obtain ⟨xo, hxo⟩ : ∃ xo, xo = O.getD [] := ⟨_, rfl⟩
        obtain ⟨bo, hbo⟩ : ∃ bo, bo = O.isSome := ⟨_, rfl⟩
        obtain ⟨xa, hxa⟩ : ∃ x, x = A.getD [] := ⟨_, rfl⟩
        obtain ⟨ba, hba⟩ : ∃ x, x = A.isSome := ⟨_, rfl⟩
        obtain ⟨xq, hxq⟩ : ∃ x, x = Q.getD [] := ⟨_, rfl⟩
        obtain ⟨bq, hbq⟩ : ∃ x, x = Q.isSome := ⟨_, rfl⟩
        have CHA := fun (W : World) (va : Value) (h : rd (fun _ => True) W [va] a) => show Calls Tryz.prog 76 #[va, .string p] W fun e w' => ∃ v', e = .returned (.agg #[v', .bool ba]) ∧ Fresh W.heap.size w'.heap.size w' [v'] xa ∧ Below W.heap.size W w' from by rw [hba, hxa]; exact hasAt_any _ a p W h x2 HA.out
        have CHQ := fun (W : World) (va : Value) (h : rd (fun _ => True) W [va] b) => show Calls Tryz.prog 76 #[va, .string p] W fun e w' => ∃ v', e = .returned (.agg #[v', .bool bq]) ∧ Fresh W.heap.size w'.heap.size w' [v'] xq ∧ Below W.heap.size W w' from by rw [hbq, hxq]; exact hasAt_any _ b p W h x3 HQ.out
        have CSA := fun (W : World) (va : Value) (d : Bool) (h1 : rd (fun _ => True) W [va] xa) (h2 : rd (fun _ => True) W [.slice ao xo.length co] xo) (hd : decide (A = O) = d) => show Calls Tryz.prog 77 #[.agg #[va, .bool ba], .agg #[.slice ao xo.length co, .bool bo]] W fun e w' => e = .returned (.bool d) ∧ Below W.heap.size W w' from by rw [hbo, hba]; exact same_is _ _ A O W (by rw [← hxa]; exact h1) (by rw [← hxo]; exact h2) hd
        have CSQ := fun (W : World) (va : Value) (d : Bool) (h1 : rd (fun _ => True) W [va] xq) (h2 : rd (fun _ => True) W [.slice ao xo.length co] xo) (hd : decide (Q = O) = d) => show Calls Tryz.prog 77 #[.agg #[va, .bool bq], .agg #[.slice ao xo.length co, .bool bo]] W fun e w' => e = .returned (.bool d) ∧ Below W.heap.size W w' from by rw [hbo, hbq]; exact same_is _ _ Q O W (by rw [← hxq]; exact h1) (by rw [← hxo]; exact h2) hd
        have HCHA := Lib.hid CHA
        have HCHQ := Lib.hid CHQ
        have HCSA := Lib.hid CSA
        have HCSQ := Lib.hid CSQ
        rw [← hxo] at hFo ⊢
        rw [← hbo]
        clear hxo hbo hxa hba hxq hbq CHA CHQ CSA CSQ HA HQ HO
        have hB3 := hBr.trans (hb3.mono hBr.size)
        have hbr3 := hbr.trans (hb3.mono hsr)
        obtain ⟨wb, hwb⟩ : ∃ wb, wb = w3.alloc (.cells #[.slice ao xo.length co, .bool bo] 85) := ⟨_, rfl⟩
        obtain ⟨hb4, hs4, hq⟩ := boxed (vs := [.slice ao xo.length co, .bool bo]) hwb
        have q0 := hq 0 _ rfl
        have q1 := hq 1 _ rfl
        have hFo := hFo.below (Nat.le_refl _) hb4
        have hB4 := hB3.trans (hb4.mono hB3.size)
        have hbr4 := hbr3.trans (hb4.mono (by omega))
        have HWB := Lib.hid hwb
        have K0 := And.intro q0 q1
        clear hwb hq hb4 hb3 hcp hs4 hB3 hbr3
        go_wp2_with fail
        rw [← HWB.out]
        by_cases e1 : A = O
        · have d1 := decide_eq_true e1
          have HR := Lib.hid (HN.out (by rw [d1]; rfl))
          clear HN HS
          first
          | (
            go_region_law (first
              | (go_simp; go_at_call 76; refine (HCHA.out _ _ (Rep.mono (fun _ _ => trivial) (Rep.drew (h2.keep hB4).rd))).mono ?_; rintro e wA ⟨vA, rfl, hFA, hbA⟩; have hszA := hbA.size; have ka0 : wA.cell? ⟨w3.heap.size, 0, none⟩ = some (.slice ao xo.length co) := keepc (w := wb.drew) q0 hbA; have ka1 : wA.cell? ⟨w3.heap.size, 1, none⟩ = some (.bool bo) := keepc (w := wb.drew) q1 hbA)
              | (go_simp; go_at_call 77; refine (HCSA.out _ vA true (Rep.mono (fun _ _ => trivial) hFA.rd) (Rep.mono (fun _ _ => trivial) ((hFo.drew).below (Nat.le_refl _) hbA).rd) d1).mono ?_; rintro e wB ⟨rfl, hbB⟩; have hszB := hbB.size))
            )
          | fail
          all_goals
            have hb9 := hbr4.drew.trans ((hbA.trans (hbB.mono hszA)).mono (by have := hbr4.size; simp; omega))
            go_wp2
            go_roundw
            case rel => exact ⟨⟨k + 1, by omega, by go_num, HR.out⟩, hb9⟩
            case measure => simp [intOf] <;> omega
        · have d1 := decide_eq_false e1
          by_cases e2 : Q = O
          · have d2 := decide_eq_true e2
            have HR := Lib.hid (HN.out (by rw [d2, Bool.or_true]))
            clear HN HS
            first
            | (
              go_region_held3 (fun w' => w'.cell? ⟨w3.heap.size, 0, none⟩ = some (.slice ao xo.length co) ∧ w'.cell? ⟨w3.heap.size, 1, none⟩ = some (.bool bo))
                (first | exact KD | exact KC | exact KB | exact KA | exact K0 | go_keep)
                (first
                  | (go_at_call 76; refine (HCHQ.out _ _ (Rep.mono (fun _ _ => trivial) (h3.keep hBB).rd)).mono ?_; rintro e wC ⟨vC, rfl, hFC, hbC⟩; have hszC := hbC.size; have kc0 := keepc kb0 hbC; have kc1 := keepc kb1 hbC; have KC := And.intro kc0 kc1)
                  | (go_at_call 76; refine (HCHA.out _ _ (Rep.mono (fun _ _ => trivial) (Rep.drew (h2.keep hB4).rd))).mono ?_; rintro e wA ⟨vA, rfl, hFA, hbA⟩; have hszA := hbA.size; have ka0 : wA.cell? ⟨w3.heap.size, 0, none⟩ = some (.slice ao xo.length co) := keepc (w := wb.drew) q0 hbA; have ka1 : wA.cell? ⟨w3.heap.size, 1, none⟩ = some (.bool bo) := keepc (w := wb.drew) q1 hbA; have KA := And.intro ka0 ka1)
                  | (go_at_call 77; refine (HCSQ.out _ vC true (Rep.mono (fun _ _ => trivial) hFC.rd) (Rep.mono (fun _ _ => trivial) ((((hFo.drew).below (Nat.le_refl _) hbA).below (Nat.le_refl _) hbB).below (Nat.le_refl _) hbC).rd) d2).mono ?_; rintro e wD ⟨rfl, hbD⟩; have KD := And.intro (keepc kc0 hbD) (keepc kc1 hbD))
                  | (go_at_call 77; refine (HCSA.out _ vA false (Rep.mono (fun _ _ => trivial) hFA.rd) (Rep.mono (fun _ _ => trivial) ((hFo.drew).below (Nat.le_refl _) hbA).rd) d1).mono ?_; rintro e wB ⟨rfl, hbB⟩; have hszB := hbB.size; have kb0 := keepc ka0 hbB; have kb1 := keepc ka1 hbB; have KB := And.intro kb0 kb1; have hBB := hB4.drew.trans ((hbA.trans (hbB.mono hszA)).mono (by have := hB4.size; simp; omega)))))
            | fail
            all_goals
              have hb9 := hbr4.drew.trans ((hbA.trans ((hbB.trans ((hbC.trans (hbD.mono hszC)).mono hszB)).mono hszA)).mono (by have := hbr4.size; simp; omega))
              go_wp2
              go_roundw
              case rel => exact ⟨⟨k + 1, by omega, by go_num, HR.out⟩, hb9⟩
              case measure => simp [intOf] <;> omega
          · have d2 := decide_eq_false e2
            have HR := Lib.hid (HS.out (by rw [d1, d2]; rfl))
            clear HN HS
            first
            | (
              go_region_held3 (fun w' => w'.cell? ⟨w3.heap.size, 0, none⟩ = some (.slice ao xo.length co) ∧ w'.cell? ⟨w3.heap.size, 1, none⟩ = some (.bool bo))
                (first | exact KD | exact KC | exact KB | exact KA | exact K0 | go_keep)
                (first
                  | (go_at_call 76; refine (HCHQ.out _ _ (Rep.mono (fun _ _ => trivial) (h3.keep hBB).rd)).mono ?_; rintro e wC ⟨vC, rfl, hFC, hbC⟩; have hszC := hbC.size; have kc0 := keepc kb0 hbC; have kc1 := keepc kb1 hbC; have KC := And.intro kc0 kc1)
                  | (go_at_call 76; refine (HCHA.out _ _ (Rep.mono (fun _ _ => trivial) (Rep.drew (h2.keep hB4).rd))).mono ?_; rintro e wA ⟨vA, rfl, hFA, hbA⟩; have hszA := hbA.size; have ka0 : wA.cell? ⟨w3.heap.size, 0, none⟩ = some (.slice ao xo.length co) := keepc (w := wb.drew) q0 hbA; have ka1 : wA.cell? ⟨w3.heap.size, 1, none⟩ = some (.bool bo) := keepc (w := wb.drew) q1 hbA; have KA := And.intro ka0 ka1)
                  | (go_at_call 77; refine (HCSQ.out _ vC false (Rep.mono (fun _ _ => trivial) hFC.rd) (Rep.mono (fun _ _ => trivial) ((((hFo.drew).below (Nat.le_refl _) hbA).below (Nat.le_refl _) hbB).below (Nat.le_refl _) hbC).rd) d2).mono ?_; rintro e wD ⟨rfl, hbD⟩; have KD := And.intro (keepc kc0 hbD) (keepc kc1 hbD))
                  | (go_at_call 77; refine (HCSA.out _ vA false (Rep.mono (fun _ _ => trivial) hFA.rd) (Rep.mono (fun _ _ => trivial) ((hFo.drew).below (Nat.le_refl _) hbA).rd) d1).mono ?_; rintro e wB ⟨rfl, hbB⟩; have hszB := hbB.size; have kb0 := keepc ka0 hbB; have kb1 := keepc ka1 hbB; have KB := And.intro kb0 kb1; have hBB := hB4.drew.trans ((hbA.trans (hbB.mono hszA)).mono (by have := hB4.size; simp; omega)))))
            | fail
            all_goals
              have hb9 := hB4.drew.trans ((hbA.trans ((hbB.trans ((hbC.trans (hbD.mono hszC)).mono hszB)).mono hszA)).mono (by have := hB4.size; simp; omega))
              go_wp2
              go_ret
              exact ⟨by rw [HR.out]; rfl, hb9⟩
      · have HN := Lib.hid (free_end HF.out hlt)
        go_wp2
        go_ret
        exact ⟨by rw [HN.out]; rfl, hBr⟩
end Go.Proofs.YtegknjcifmenpaaGreatDoor
