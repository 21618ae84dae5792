/-
  Walks: what a tree has at a path, and what two sides made of it. / Walks: what two sides made of a file.
-/
import Derived.Test.YtegknjcifmenpaaGreatDoorVGR
import Derived.Test.YtegknjcifmenpaaGreatDoorVSM
import Derived.Test.YtegknjcifmenpaaGreatDoorVG
import Derived.Test.YtegknjcifmenpaaGreatDoorVPJ
set_option linter.unusedVariables false
namespace Go
/-- a result in a box -/
theorem results_row {P : Program} {fn : Func} {p : Tmp} {ty : TypeId} (h : fn.results = #[.cell p ty]) (tmps : Array Value) (w : World) (g : Nat) (t : TypeId) (cs : Array Value) (fr : Nat × Nat) (d : TypeDesc)
    (hp : tmps.getD p undef = .pointer (some ⟨g, 0, none⟩)) (hg : w.heap[g]? = some (.cells cs t fr))
    (hu : P.underlying ty = some d) (hd : (match d with | .struct _ | .array _ _ => true | _ => false) = true) (hi : (P.info? ty).map (·.size) = some cs.size) :
    (results fn tmps).run P w = .ok (.agg cs) w := by
  have hp' : tmps[p]?.getD undef = .pointer (some ⟨g, 0, none⟩) := by simpa using hp
  simp [results, h, hp', asAddr, run_loadVar_row w g t ty cs fr d hg hu hd hi]
/-- a result in a box, and one in a variable -/
theorem results_row_tmp {P : Program} {fn : Func} {u p : Tmp} {ty : TypeId} (h : fn.results = #[.cell p ty, .tmp u]) (tmps : Array Value) (w : World) (g : Nat) (t : TypeId) (cs : Array Value) (fr : Nat × Nat) (d : TypeDesc)
    (hp : tmps.getD p undef = .pointer (some ⟨g, 0, none⟩)) (hg : w.heap[g]? = some (.cells cs t fr))
    (hu : P.underlying ty = some d) (hd : (match d with | .struct _ | .array _ _ => true | _ => false) = true) (hi : (P.info? ty).map (·.size) = some cs.size) :
    (results fn tmps).run P w = .ok (.tuple #[.agg cs, tmps.getD u undef]) w := by
  have hp' : tmps[p]?.getD undef = .pointer (some ⟨g, 0, none⟩) := by simpa using hp
  simp [results, h, hp', asAddr, run_loadVar_row w g t ty cs fr d hg hu hd hi]
end Go
namespace Go.Vc
open Go.RowKit
open Rep (rd)
open Own (own)
theorem opt_same (M1 M2 : Option (List ByteArray)) : (M1.isSome == M2.isSome && decide (M1.getD [] = M2.getD [])) = decide (M1 = M2) := by
  cases M1 <;> cases M2 <;> simp
theorem opt_same_t {M1 M2 : Option (List ByteArray)} (h : M1.isSome = M2.isSome) : decide (M1.getD [] = M2.getD []) = decide (M1 = M2) := by
  rw [← opt_same, h]; simp
theorem opt_same_f {M1 M2 : Option (List ByteArray)} (h : ¬ M1.isSome = M2.isSome) : decide (M1 = M2) = false := decide_eq_false fun e => h (by rw [e])
end Go.Vc
namespace Go.Proofs.YtegknjcifmenpaaGreatDoor
open Go.RowKit Go.Vc
open Go.Vc.Rep (rd)
open Go.Vc.Own (own)

set_option maxHeartbeats 4000000 in
set_option maxRecDepth 100000 in
theorem hasAt_any {S : Nat → Prop} (v : Value) (t : List File) (path : ByteArray) (w : World) (hv : rd S w [v] t) (hx : ∀ f, f ∈ t → f.text.length ≤ 10) {M : Option (List ByteArray)} (hM : getT t path = M) :
    Calls Tryz.prog 76 #[v, .string path] w fun e w' => ∃ v', e = .returned (.agg #[v', .bool M.isSome]) ∧ Fresh w.heap.size w'.heap.size w' [v'] (M.getD []) ∧ Below w.heap.size w w' := by
  obtain ⟨wb, hwb⟩ : ∃ wb, wb = w.alloc (.cells #[.slice none 0 0, .bool false] 85) := ⟨_, rfl⟩
  obtain ⟨hB0, hsb, hq⟩ := boxed (vs := [.slice none 0 0, .bool false]) hwb
  have HW := Lib.hid hwb
  clear hwb hq
  go_enter Tryz.func76, Tryz.ntmps76
  go_wp2_with fail
  rw [← HW.out]
  refine (get_any _ t path _ (Rep.below hv (Nat.le_refl _) hB0) hx hM).mono ?_
  rintro e w1 ⟨v', rfl, hF, hb1⟩
  have hs1 := hb1.size
  have hbx : w1.heap[w.heap.size]? = some (.cells #[.slice none 0 0, .bool false] 85 (0, 0)) := by rw [hb1.block _ (by omega), HW.out]; exact heap_alloc_new _ _
  have x0 := cell_of_row w1 w.heap.size 0 _ _ (0, 0) hbx
  have x1 := cell_of_row w1 w.heap.size 1 _ _ (0, 0) hbx
  have z0 := frozen_of_row w1 w.heap.size 0 _ _ hbx
  have z1 := frozen_of_row w1 w.heap.size 1 _ _ hbx
  simp at x0 x1
  obtain ⟨a1, c1, rfl, _⟩ := hF.shape
  have hB := hB0.trans (hb1.mono hB0.size)
  have hF2 : Fresh w.heap.size (w1.heap.size) ((w1.setCell ⟨w.heap.size, 0, none⟩ (.slice a1 (M.getD []).length c1)).setCell ⟨w.heap.size, 1, none⟩ (.bool M.isSome)) [.slice a1 (M.getD []).length c1] (M.getD []) := ((hF.setCell (.inl (by show w.heap.size < _; omega))).setCell (.inl (by show w.heap.size < _; omega))).mono (by omega) (Nat.le_refl _)
  have hbx5 : ((w1.setCell ⟨w.heap.size, 0, none⟩ (.slice a1 (M.getD []).length c1)).setCell ⟨w.heap.size, 1, none⟩ (.bool M.isSome)).heap[w.heap.size]? = some (.cells #[.slice a1 (M.getD []).length c1, .bool M.isSome] 85 (0, 0)) := heap_setCell_same _ _ 1 _ _ _ (heap_setCell_same _ _ 0 _ _ _ hbx)
  have HF := Lib.hid hF2
  have HBB := Lib.hid ((hB.setCell (p := ⟨w.heap.size, 0, none⟩) (Nat.le_refl _) (.slice a1 (M.getD []).length c1)).setCell (p := ⟨w.heap.size, 1, none⟩) (Nat.le_refl _) (.bool M.isSome))
  clear hF hF2 hbx
  go_wp2
  (try simp only [Exit.inBlock, Exit.then])
  refine bodyPost_ret (results_row rfl _ _ w.heap.size _ _ _ _ rfl hbx5 Tryz.underlying85 rfl (by kernel_rfl)) rfl ?_
  exact ⟨_, rfl, by simpa using HF.out, HBB.out⟩

set_option maxHeartbeats 4000000 in
set_option maxRecDepth 100000 in
theorem same_is {S T : Nat → Prop} (v1 v2 : Value) (M1 M2 : Option (List ByteArray)) (w : World) (h1 : rd S w [v1] (M1.getD [])) (h2 : rd T w [v2] (M2.getD [])) {b : Bool} (hb : decide (M1 = M2) = b) :
    Calls Tryz.prog 77 #[.agg #[v1, .bool M1.isSome], .agg #[v2, .bool M2.isSome]] w fun e w' => e = .returned (.bool b) ∧ Below w.heap.size w w' := by
  obtain ⟨a1, c1, rfl, hs1⟩ := rd_slice_elim h1
  obtain ⟨a2, c2, rfl, hs2⟩ := rd_slice_elim h2
  obtain ⟨x1, hx1⟩ : ∃ x1, x1 = M1.getD [] := ⟨_, rfl⟩
  obtain ⟨x2, hx2⟩ : ∃ x2, x2 = M2.getD [] := ⟨_, rfl⟩
  obtain ⟨b1, hb1⟩ : ∃ b1, b1 = M1.isSome := ⟨_, rfl⟩
  obtain ⟨b2, hb2⟩ : ∃ b2, b2 = M2.isSome := ⟨_, rfl⟩
  have HE : Hid ((b1 = b2 → decide (x1 = x2) = b) ∧ (¬ b1 = b2 → b = false)) := ⟨fun e => by rw [hx1, hx2, ← hb]; exact opt_same_t (by rw [← hb1, ← hb2, e]), fun e => by rw [← hb]; exact opt_same_f (by rw [← hb1, ← hb2]; exact e)⟩
  rw [← hx1, ← hb1, ← hx2, ← hb2]
  rw [← hx1] at hs1
  rw [← hx2] at hs2
  clear hx1 hx2 hb1 hb2 h1 h2 hb
  obtain ⟨wa, hwa⟩ : ∃ wa, wa = w.alloc (.cells #[.slice a1 x1.length c1, .bool b1] 85) := ⟨_, rfl⟩
  obtain ⟨hBa, hsa, hqa⟩ := boxed (vs := [.slice a1 x1.length c1, .bool b1]) hwa
  obtain ⟨wb, hwb⟩ : ∃ wb, wb = wa.alloc (.cells #[.slice a2 x2.length c2, .bool b2] 85) := ⟨_, rfl⟩
  obtain ⟨hBb, hsb, hqb⟩ := boxed (vs := [.slice a2 x2.length c2, .bool b2]) hwb
  have p0 := keepc (hqa 0 _ rfl) hBb
  have p1 := keepc (hqa 1 _ rfl) hBb
  have q0 := hqb 0 _ rfl
  have q1 := hqb 1 _ rfl
  rw [hsa] at q0 q1
  have hB := hBa.trans (hBb.mono hBa.size)
  have hs1 := hs1.below (Nat.le_refl _) hB
  have hs2 := hs2.below (Nat.le_refl _) hB
  have HA := Lib.hid hwa
  have HB := Lib.hid hwb
  clear hwa hwb hqa hqb hBa hBb hsa hsb
  by_cases he : b1 = b2
  · have hd := Lib.hid (HE.out.1 he)
    subst he
    have heq : (b1 == b1) = true := by simp
    go_enter Tryz.func77, Tryz.ntmps77
    go_wp2_with fail
    rw [← HA.out, ← HB.out]
    refine (slicesEqual_is _ _ x1 x2 _ hs1.rd hs2.rd hd.out).mono ?_
    rintro e w3 ⟨rfl, n, rfl⟩
    go_wp2
    go_ret
    exact ⟨rfl, below_drewN hB n⟩
  · have hd := HE.out.2 he
    subst hd
    have heq : (b1 == b2) = false := by simpa using he
    clear he HE
    go_enter Tryz.func77, Tryz.ntmps77
    go_wp2_with fail
    rw [← HA.out, ← HB.out]
    go_wp2
    go_ret
    exact ⟨rfl, hB⟩
end Go.Proofs.YtegknjcifmenpaaGreatDoor
namespace Go.Vc
open Go.RowKit
open Rep (rd)
open Own (own)
theorem one_1 {O A Q : Option (List ByteArray)} (h : A = O) : joinOne O A Q = (Q, 0) := by unfold joinOne; rw [if_pos (.inl h)]
theorem one_2 {O A Q : Option (List ByteArray)} (h : A = Q) : joinOne O A Q = (Q, 0) := by unfold joinOne; rw [if_pos (.inr h)]
theorem one_3 {O A Q : Option (List ByteArray)} (h1 : ¬ A = O) (h2 : ¬ A = Q) (h : Q = O) : joinOne O A Q = (A, 0) := by unfold joinOne; rw [if_neg (fun e => e.elim h1 h2), if_pos h]
theorem one_4 {O A Q : Option (List ByteArray)} (h1 : ¬ A = O) (h2 : ¬ A = Q) (h3 : ¬ Q = O) (h : A.isSome = false ∨ Q.isSome = false) : joinOne O A Q = (O, 1) := by
  unfold joinOne
  rw [if_neg (fun e => e.elim h1 h2), if_neg h3, if_pos]
  rcases h with h | h
  · exact .inl (by cases A with | none => rfl | some _ => cases h)
  · exact .inr (by cases Q with | none => rfl | some _ => cases h)
theorem one_5 {O A Q : Option (List ByteArray)} (h1 : ¬ A = O) (h2 : ¬ A = Q) (h3 : ¬ Q = O) (h4 : A.isSome = true) (h5 : Q.isSome = true) (h : O.isSome = false) : joinOne O A Q = (O, 2) := by
  unfold joinOne
  rw [if_neg (fun e => e.elim h1 h2), if_neg h3, if_neg]
  · cases O with
    | none => rw [if_pos rfl]
    | some _ => cases h
  · rintro (rfl | rfl)
    · cases h4
    · cases h5
theorem one_6 {O A Q : Option (List ByteArray)} (h1 : ¬ A = O) (h2 : ¬ A = Q) (h3 : ¬ Q = O) (h4 : A.isSome = true) (h5 : Q.isSome = true) (h6 : O.isSome = true) :
    joinOne O A Q = if (mText (O.getD []) (A.getD []) (Q.getD [])).2 = true then (some (mText (O.getD []) (A.getD []) (Q.getD [])).1, 0) else (O, 3) := by
  conv => lhs; unfold joinOne
  rw [if_neg (fun e => e.elim h1 h2), if_neg h3, if_neg, if_neg]
  · rintro rfl; cases h6
  · rintro (rfl | rfl)
    · cases h4
    · cases h5
end Go.Vc
namespace Go.Proofs.YtegknjcifmenpaaGreatDoor
open Go.RowKit Go.Vc
open Go.Vc.Rep (rd)
open Go.Vc.Own (own)
set_option maxHeartbeats 8000000 in
set_option maxRecDepth 100000 in
theorem joinAt_any {B : Nat} (vo va vb : Value) (O A Q : Option (List ByteArray)) (w : World) (hO : Fresh B w.heap.size w [vo] (O.getD [])) (hA : Fresh B w.heap.size w [va] (A.getD [])) (hQ : Fresh B w.heap.size w [vb] (Q.getD [])) (hB : B ≤ w.heap.size) {R : Option (List ByteArray) × Nat} (hR : joinOne O A Q = R) :
    Calls Tryz.prog 81 #[.agg #[vo, .bool O.isSome], .agg #[va, .bool A.isSome], .agg #[vb, .bool Q.isSome]] w fun e w' => ∃ v', e = .returned (.tuple #[.agg #[v', .bool R.1.isSome], .int .i64 R.2]) ∧ Fresh B w'.heap.size w' [v'] (R.1.getD []) ∧ Below w.heap.size w w' := by
  obtain ⟨ao, co, rfl, _⟩ := hO.shape
  obtain ⟨aa, ca, rfl, _⟩ := hA.shape
  obtain ⟨aq, cq, rfl, _⟩ := hQ.shape
  obtain ⟨xo, hxo⟩ : ∃ x, x = O.getD [] := ⟨_, rfl⟩
  obtain ⟨xa, hxa⟩ : ∃ x, x = A.getD [] := ⟨_, rfl⟩
  obtain ⟨xq, hxq⟩ : ∃ x, x = Q.getD [] := ⟨_, rfl⟩
  obtain ⟨bo, hbo⟩ : ∃ b, b = O.isSome := ⟨_, rfl⟩
  obtain ⟨ba, hba⟩ : ∃ b, b = A.isSome := ⟨_, rfl⟩
  obtain ⟨bq, hbq⟩ : ∃ b, b = Q.isSome := ⟨_, rfl⟩
  have SO := fun (W : World) (v : Value) (h : rd (fun _ => True) W [v] xo) => show rd (fun _ => True) W [v] (O.getD []) from by rw [← hxo]; exact h
  have SA := fun (W : World) (v : Value) (h : rd (fun _ => True) W [v] xa) => show rd (fun _ => True) W [v] (A.getD []) from by rw [← hxa]; exact h
  have SQ := fun (W : World) (v : Value) (h : rd (fun _ => True) W [v] xq) => show rd (fun _ => True) W [v] (Q.getD []) from by rw [← hxq]; exact h
  have CAO := fun (W : World) (b : Bool) (h1 : rd (fun _ => True) W [.slice aa xa.length ca] xa) (h2 : rd (fun _ => True) W [.slice ao xo.length co] xo) (hb : decide (A = O) = b) => show Calls Tryz.prog 77 #[.agg #[.slice aa xa.length ca, .bool ba], .agg #[.slice ao xo.length co, .bool bo]] W fun e w' => e = .returned (.bool b) ∧ Below W.heap.size W w' from by rw [hba, hbo]; exact same_is _ _ A O W (SA _ _ h1) (SO _ _ h2) hb
  have CAQ := fun (W : World) (b : Bool) (h1 : rd (fun _ => True) W [.slice aa xa.length ca] xa) (h2 : rd (fun _ => True) W [.slice aq xq.length cq] xq) (hb : decide (A = Q) = b) => show Calls Tryz.prog 77 #[.agg #[.slice aa xa.length ca, .bool ba], .agg #[.slice aq xq.length cq, .bool bq]] W fun e w' => e = .returned (.bool b) ∧ Below W.heap.size W w' from by rw [hba, hbq]; exact same_is _ _ A Q W (SA _ _ h1) (SQ _ _ h2) hb
  have CQO := fun (W : World) (b : Bool) (h1 : rd (fun _ => True) W [.slice aq xq.length cq] xq) (h2 : rd (fun _ => True) W [.slice ao xo.length co] xo) (hb : decide (Q = O) = b) => show Calls Tryz.prog 77 #[.agg #[.slice aq xq.length cq, .bool bq], .agg #[.slice ao xo.length co, .bool bo]] W fun e w' => e = .returned (.bool b) ∧ Below W.heap.size W w' from by rw [hbq, hbo]; exact same_is _ _ Q O W (SQ _ _ h1) (SO _ _ h2) hb
  have E1 : A = O → R = (Q, 0) := fun e => by rw [← hR]; exact one_1 e
  have E2 : A = Q → R = (Q, 0) := fun e => by rw [← hR]; exact one_2 e
  have E3 : ¬ A = O → ¬ A = Q → Q = O → R = (A, 0) := fun h1 h2 e => by rw [← hR]; exact one_3 h1 h2 e
  have E4 : ¬ A = O → ¬ A = Q → ¬ Q = O → (ba = false ∨ bq = false) → R = (O, 1) := fun h1 h2 h3 e => by rw [← hR]; exact one_4 h1 h2 h3 (by rw [← hba, ← hbq]; exact e)
  have E5 : ¬ A = O → ¬ A = Q → ¬ Q = O → ba = true → bq = true → bo = false → R = (O, 2) := fun h1 h2 h3 e1 e2 e3 => by rw [← hR]; exact one_5 h1 h2 h3 (by rw [← hba]; exact e1) (by rw [← hbq]; exact e2) (by rw [← hbo]; exact e3)
  have E6 : ¬ A = O → ¬ A = Q → ¬ Q = O → ba = true → bq = true → bo = true → R = if (mText xo xa xq).2 = true then (some (mText xo xa xq).1, 0) else (O, 3) := fun h1 h2 h3 e1 e2 e3 => by rw [← hR, hxo, hxa, hxq]; exact one_6 h1 h2 h3 (by rw [← hba]; exact e1) (by rw [← hbq]; exact e2) (by rw [← hbo]; exact e3)
  rw [← hxo, ← hxa, ← hxq, ← hbo, ← hba, ← hbq]
  rw [← hxo] at hO
  rw [← hxa] at hA
  rw [← hxq] at hQ
  have HRO : Hid (∀ n : Nat, R = (O, n) → R.1.isSome = bo ∧ R.1.getD [] = xo ∧ R.2 = n) := fun n e => by rw [e]; exact ⟨hbo.symm, hxo.symm, rfl⟩
  have HRA : Hid (∀ n : Nat, R = (A, n) → R.1.isSome = ba ∧ R.1.getD [] = xa ∧ R.2 = n) := fun n e => by rw [e]; exact ⟨hba.symm, hxa.symm, rfl⟩
  have HRQ : Hid (∀ n : Nat, R = (Q, n) → R.1.isSome = bq ∧ R.1.getD [] = xq ∧ R.2 = n) := fun n e => by rw [e]; exact ⟨hbq.symm, hxq.symm, rfl⟩
  have HCAO := Lib.hid CAO
  have HCAQ := Lib.hid CAQ
  have HCQO := Lib.hid CQO
  clear hxo hxa hxq hbo hba hbq SO SA SQ hR CAO CAQ CQO
  obtain ⟨w1, hw1⟩ : ∃ w1, w1 = w.alloc (.cells #[.slice ao xo.length co, .bool bo] 85) := ⟨_, rfl⟩
  obtain ⟨hb1, hs1, hq1⟩ := boxed (vs := [.slice ao xo.length co, .bool bo]) hw1
  obtain ⟨w2, hw2⟩ : ∃ w2, w2 = w1.alloc (.cells #[.slice aa xa.length ca, .bool ba] 85) := ⟨_, rfl⟩
  obtain ⟨hb2, hs2, hq2⟩ := boxed (vs := [.slice aa xa.length ca, .bool ba]) hw2
  obtain ⟨w3, hw3⟩ : ∃ w3, w3 = w2.alloc (.cells #[.slice aq xq.length cq, .bool bq] 85) := ⟨_, rfl⟩
  obtain ⟨hb3, hs3, hq3⟩ := boxed (vs := [.slice aq xq.length cq, .bool bq]) hw3
  obtain ⟨w4, hw4⟩ : ∃ w4, w4 = w3.alloc (.cells #[.slice none 0 0, .bool false] 85) := ⟨_, rfl⟩
  obtain ⟨hb4, hs4, _⟩ := boxed (vs := [.slice none 0 0, .bool false]) hw4
  have e1 : w1.heap.size = w.heap.size + 1 := hs1
  have e2 : w2.heap.size = w.heap.size + 2 := by omega
  have e3 : w3.heap.size = w.heap.size + 3 := by omega
  have hbx : w4.heap[w.heap.size + 3]? = some (.cells #[.slice none 0 0, .bool false] 85 (0, 0)) := by rw [hw4, ← e3]; exact heap_alloc_new _ _
  rw [e1] at hq2
  rw [e2] at hq3
  have hb34 := hb3.trans (hb4.mono hb3.size)
  have hb24 := hb2.trans (hb34.mono hb2.size)
  have p0 := keepc (hq1 0 _ rfl) hb24
  have p1 := keepc (hq1 1 _ rfl) hb24
  have q0 := keepc (hq2 0 _ rfl) hb34
  have q1 := keepc (hq2 1 _ rfl) hb34
  have r0 := keepc (hq3 0 _ rfl) hb4
  have r1 := keepc (hq3 1 _ rfl) hb4
  have hW := hb1.trans (hb24.mono hb1.size)
  have hO := hO.below (Nat.le_refl _) hW
  have hA := hA.below (Nat.le_refl _) hW
  have hQ := hQ.below (Nat.le_refl _) hW
  have H1 := Lib.hid hw1
  have H2 := Lib.hid hw2
  have H3 := Lib.hid hw3
  have H4 := Lib.hid hw4
  have hsw : w.heap.size + 4 ≤ w4.heap.size := by omega
  clear hw1 hw2 hw3 hw4 hq1 hq2 hq3 hb1 hb2 hb3 hb4 hb34 hb24 hs1 hs2 hs3 hs4 e1 e2 e3
  go_enter Tryz.func81, Tryz.ntmps81
  go_wp2_with fail
  rw [← H1.out, ← H2.out, ← H3.out, ← H4.out]
  by_cases h1 : A = O
  · have HE := Lib.hid (E1 h1)
    refine (HCAO.out _ true (Rep.mono (fun _ _ => trivial) hA.rd) (Rep.mono (fun _ _ => trivial) hO.rd) (decide_eq_true h1)).mono ?_
    rintro e w5 ⟨rfl, hb5⟩

    have hb5s := hb5.size
    have p0 := keepc p0 hb5
    have p1 := keepc p1 hb5
    have q0 := keepc q0 hb5
    have q1 := keepc q1 hb5
    have r0 := keepc r0 hb5
    have r1 := keepc r1 hb5
    have hbx := (hb5.block _ (by omega)).trans hbx
    have hO := hO.below (Nat.le_refl _) hb5
    have hA := hA.below (Nat.le_refl _) hb5
    have hQ := hQ.below (Nat.le_refl _) hb5
    have hW := hW.trans (hb5.mono hW.size)
    clear E1 E2 E3 E4 E5 E6 h1 HCAO HCAQ HCQO

    have x0 := cell_of_row _ (w.heap.size + 3) 0 _ _ (0, 0) hbx
    have x1 := cell_of_row _ (w.heap.size + 3) 1 _ _ (0, 0) hbx
    have z0 := frozen_of_row _ (w.heap.size + 3) 0 _ _ hbx
    have z1 := frozen_of_row _ (w.heap.size + 3) 1 _ _ hbx
    simp at x0 x1
    have hbx5 : ((w5.setCell ⟨w.heap.size + 3, 0, none⟩ (.slice aq xq.length cq)).setCell ⟨w.heap.size + 3, 1, none⟩ (.bool bq)).heap[w.heap.size + 3]? = some (.cells #[.slice aq xq.length cq, .bool bq] 85 (0, 0)) := heap_setCell_same _ _ 1 _ _ _ (heap_setCell_same _ _ 0 _ _ _ hbx)
    have HF := Lib.hid (((hQ.mono (Nat.le_refl _) (Nat.le_refl _)).setCell (a := ⟨w.heap.size + 3, 0, none⟩) (u := .slice aq xq.length cq) (.inr (Nat.le_add_right w.heap.size 3))).setCell (a := ⟨w.heap.size + 3, 1, none⟩) (u := .bool bq) (.inr (Nat.le_add_right w.heap.size 3)))
    have HBB := Lib.hid ((hW.setCell (p := ⟨w.heap.size + 3, 0, none⟩) (Nat.le_add_right w.heap.size 3) (.slice aq xq.length cq)).setCell (p := ⟨w.heap.size + 3, 1, none⟩) (Nat.le_add_right w.heap.size 3) (.bool bq))
    have HS2 := Lib.hid hW.size
    clear hbx hO hA hQ hW
    go_wp2
    (try simp only [Exit.inBlock, Exit.then])
    refine bodyPost_ret (results_row_tmp rfl _ _ (w.heap.size + 3) _ _ _ _ rfl hbx5 Tryz.underlying85 rfl (by kernel_rfl)) rfl ?_
    exact ⟨_, by rw [(HRQ.out 0 HE.out).1, (HRQ.out 0 HE.out).2.2]; rfl, by rw [(HRQ.out 0 HE.out).2.1]; exact HF.out.mono (Nat.le_refl _) (by have := HS2.out; simp; omega), HBB.out⟩
  · refine (HCAO.out _ false (Rep.mono (fun _ _ => trivial) hA.rd) (Rep.mono (fun _ _ => trivial) hO.rd) (decide_eq_false h1)).mono ?_
    rintro e w5 ⟨rfl, hb5⟩

    have hb5s := hb5.size
    have p0 := keepc p0 hb5
    have p1 := keepc p1 hb5
    have q0 := keepc q0 hb5
    have q1 := keepc q1 hb5
    have r0 := keepc r0 hb5
    have r1 := keepc r1 hb5
    have hbx := (hb5.block _ (by omega)).trans hbx
    have hO := hO.below (Nat.le_refl _) hb5
    have hA := hA.below (Nat.le_refl _) hb5
    have hQ := hQ.below (Nat.le_refl _) hb5
    have hW := hW.trans (hb5.mono hW.size)
    go_wp2_with fail
    by_cases h2 : A = Q
    · have HE := Lib.hid (E2 h2)
      refine (HCAQ.out _ true (Rep.mono (fun _ _ => trivial) hA.rd) (Rep.mono (fun _ _ => trivial) hQ.rd) (decide_eq_true h2)).mono ?_
      rintro e w6 ⟨rfl, hb6⟩

      have hb6s := hb6.size
      have p0 := keepc p0 hb6
      have p1 := keepc p1 hb6
      have q0 := keepc q0 hb6
      have q1 := keepc q1 hb6
      have r0 := keepc r0 hb6
      have r1 := keepc r1 hb6
      have hbx := (hb6.block _ (by omega)).trans hbx
      have hO := hO.below (Nat.le_refl _) hb6
      have hA := hA.below (Nat.le_refl _) hb6
      have hQ := hQ.below (Nat.le_refl _) hb6
      have hW := hW.trans (hb6.mono hW.size)
      clear E1 E2 E3 E4 E5 E6 h1 h2 HCAO HCAQ HCQO

      have x0 := cell_of_row _ (w.heap.size + 3) 0 _ _ (0, 0) hbx
      have x1 := cell_of_row _ (w.heap.size + 3) 1 _ _ (0, 0) hbx
      have z0 := frozen_of_row _ (w.heap.size + 3) 0 _ _ hbx
      have z1 := frozen_of_row _ (w.heap.size + 3) 1 _ _ hbx
      simp at x0 x1
      have hbx5 : ((w6.setCell ⟨w.heap.size + 3, 0, none⟩ (.slice aq xq.length cq)).setCell ⟨w.heap.size + 3, 1, none⟩ (.bool bq)).heap[w.heap.size + 3]? = some (.cells #[.slice aq xq.length cq, .bool bq] 85 (0, 0)) := heap_setCell_same _ _ 1 _ _ _ (heap_setCell_same _ _ 0 _ _ _ hbx)
      have HF := Lib.hid (((hQ.mono (Nat.le_refl _) (Nat.le_refl _)).setCell (a := ⟨w.heap.size + 3, 0, none⟩) (u := .slice aq xq.length cq) (.inr (Nat.le_add_right w.heap.size 3))).setCell (a := ⟨w.heap.size + 3, 1, none⟩) (u := .bool bq) (.inr (Nat.le_add_right w.heap.size 3)))
      have HBB := Lib.hid ((hW.setCell (p := ⟨w.heap.size + 3, 0, none⟩) (Nat.le_add_right w.heap.size 3) (.slice aq xq.length cq)).setCell (p := ⟨w.heap.size + 3, 1, none⟩) (Nat.le_add_right w.heap.size 3) (.bool bq))
      have HS2 := Lib.hid hW.size
      clear hbx hO hA hQ hW
      go_wp2
      (try simp only [Exit.inBlock, Exit.then])
      refine bodyPost_ret (results_row_tmp rfl _ _ (w.heap.size + 3) _ _ _ _ rfl hbx5 Tryz.underlying85 rfl (by kernel_rfl)) rfl ?_
      exact ⟨_, by rw [(HRQ.out 0 HE.out).1, (HRQ.out 0 HE.out).2.2]; rfl, by rw [(HRQ.out 0 HE.out).2.1]; exact HF.out.mono (Nat.le_refl _) (by have := HS2.out; simp; omega), HBB.out⟩
    · refine (HCAQ.out _ false (Rep.mono (fun _ _ => trivial) hA.rd) (Rep.mono (fun _ _ => trivial) hQ.rd) (decide_eq_false h2)).mono ?_
      rintro e w6 ⟨rfl, hb6⟩

      have hb6s := hb6.size
      have p0 := keepc p0 hb6
      have p1 := keepc p1 hb6
      have q0 := keepc q0 hb6
      have q1 := keepc q1 hb6
      have r0 := keepc r0 hb6
      have r1 := keepc r1 hb6
      have hbx := (hb6.block _ (by omega)).trans hbx
      have hO := hO.below (Nat.le_refl _) hb6
      have hA := hA.below (Nat.le_refl _) hb6
      have hQ := hQ.below (Nat.le_refl _) hb6
      have hW := hW.trans (hb6.mono hW.size)
      go_wp2_with fail
      by_cases h3 : Q = O
      · have HE := Lib.hid (E3 h1 h2 h3)
        refine (HCQO.out _ true (Rep.mono (fun _ _ => trivial) hQ.rd) (Rep.mono (fun _ _ => trivial) hO.rd) (decide_eq_true h3)).mono ?_
        rintro e w7 ⟨rfl, hb7⟩

        have hb7s := hb7.size
        have p0 := keepc p0 hb7
        have p1 := keepc p1 hb7
        have q0 := keepc q0 hb7
        have q1 := keepc q1 hb7
        have r0 := keepc r0 hb7
        have r1 := keepc r1 hb7
        have hbx := (hb7.block _ (by omega)).trans hbx
        have hO := hO.below (Nat.le_refl _) hb7
        have hA := hA.below (Nat.le_refl _) hb7
        have hQ := hQ.below (Nat.le_refl _) hb7
        have hW := hW.trans (hb7.mono hW.size)
        clear E1 E2 E3 E4 E5 E6 h1 h2 h3 HCAO HCAQ HCQO

        have x0 := cell_of_row _ (w.heap.size + 3) 0 _ _ (0, 0) hbx
        have x1 := cell_of_row _ (w.heap.size + 3) 1 _ _ (0, 0) hbx
        have z0 := frozen_of_row _ (w.heap.size + 3) 0 _ _ hbx
        have z1 := frozen_of_row _ (w.heap.size + 3) 1 _ _ hbx
        simp at x0 x1
        have hbx5 : ((w7.setCell ⟨w.heap.size + 3, 0, none⟩ (.slice aa xa.length ca)).setCell ⟨w.heap.size + 3, 1, none⟩ (.bool ba)).heap[w.heap.size + 3]? = some (.cells #[.slice aa xa.length ca, .bool ba] 85 (0, 0)) := heap_setCell_same _ _ 1 _ _ _ (heap_setCell_same _ _ 0 _ _ _ hbx)
        have HF := Lib.hid (((hA.mono (Nat.le_refl _) (Nat.le_refl _)).setCell (a := ⟨w.heap.size + 3, 0, none⟩) (u := .slice aa xa.length ca) (.inr (Nat.le_add_right w.heap.size 3))).setCell (a := ⟨w.heap.size + 3, 1, none⟩) (u := .bool ba) (.inr (Nat.le_add_right w.heap.size 3)))
        have HBB := Lib.hid ((hW.setCell (p := ⟨w.heap.size + 3, 0, none⟩) (Nat.le_add_right w.heap.size 3) (.slice aa xa.length ca)).setCell (p := ⟨w.heap.size + 3, 1, none⟩) (Nat.le_add_right w.heap.size 3) (.bool ba))
        have HS2 := Lib.hid hW.size
        clear hbx hO hA hQ hW
        go_wp2
        (try simp only [Exit.inBlock, Exit.then])
        refine bodyPost_ret (results_row_tmp rfl _ _ (w.heap.size + 3) _ _ _ _ rfl hbx5 Tryz.underlying85 rfl (by kernel_rfl)) rfl ?_
        exact ⟨_, by rw [(HRA.out 0 HE.out).1, (HRA.out 0 HE.out).2.2]; rfl, by rw [(HRA.out 0 HE.out).2.1]; exact HF.out.mono (Nat.le_refl _) (by have := HS2.out; simp; omega), HBB.out⟩
      · refine (HCQO.out _ false (Rep.mono (fun _ _ => trivial) hQ.rd) (Rep.mono (fun _ _ => trivial) hO.rd) (decide_eq_false h3)).mono ?_
        rintro e w7 ⟨rfl, hb7⟩

        have hb7s := hb7.size
        have p0 := keepc p0 hb7
        have p1 := keepc p1 hb7
        have q0 := keepc q0 hb7
        have q1 := keepc q1 hb7
        have r0 := keepc r0 hb7
        have r1 := keepc r1 hb7
        have hbx := (hb7.block _ (by omega)).trans hbx
        have hO := hO.below (Nat.le_refl _) hb7
        have hA := hA.below (Nat.le_refl _) hb7
        have hQ := hQ.below (Nat.le_refl _) hb7
        have hW := hW.trans (hb7.mono hW.size)
        cases ba with
        | false =>
          have HE := Lib.hid (E4 h1 h2 h3 (.inl rfl))
          clear E1 E2 E3 E4 E5 E6 h1 h2 h3 HCAO HCAQ HCQO
          have x0 := cell_of_row _ (w.heap.size + 3) 0 _ _ (0, 0) hbx
          have x1 := cell_of_row _ (w.heap.size + 3) 1 _ _ (0, 0) hbx
          have z0 := frozen_of_row _ (w.heap.size + 3) 0 _ _ hbx
          have z1 := frozen_of_row _ (w.heap.size + 3) 1 _ _ hbx
          simp at x0 x1
          have hbx5 : ((w7.setCell ⟨w.heap.size + 3, 0, none⟩ (.slice ao xo.length co)).setCell ⟨w.heap.size + 3, 1, none⟩ (.bool bo)).heap[w.heap.size + 3]? = some (.cells #[.slice ao xo.length co, .bool bo] 85 (0, 0)) := heap_setCell_same _ _ 1 _ _ _ (heap_setCell_same _ _ 0 _ _ _ hbx)
          have HF := Lib.hid (((hO.mono (Nat.le_refl _) (Nat.le_refl _)).setCell (a := ⟨w.heap.size + 3, 0, none⟩) (u := .slice ao xo.length co) (.inr (Nat.le_add_right w.heap.size 3))).setCell (a := ⟨w.heap.size + 3, 1, none⟩) (u := .bool bo) (.inr (Nat.le_add_right w.heap.size 3)))
          have HBB := Lib.hid ((hW.setCell (p := ⟨w.heap.size + 3, 0, none⟩) (Nat.le_add_right w.heap.size 3) (.slice ao xo.length co)).setCell (p := ⟨w.heap.size + 3, 1, none⟩) (Nat.le_add_right w.heap.size 3) (.bool bo))
          have HS2 := Lib.hid hW.size
          clear hbx hO hA hQ hW
          go_wp2
          (try simp only [Exit.inBlock, Exit.then])
          refine bodyPost_ret (results_row_tmp rfl _ _ (w.heap.size + 3) _ _ _ _ rfl hbx5 Tryz.underlying85 rfl (by kernel_rfl)) rfl ?_
          exact ⟨_, by rw [(HRO.out 1 HE.out).1, (HRO.out 1 HE.out).2.2]; rfl, by rw [(HRO.out 1 HE.out).2.1]; exact HF.out.mono (Nat.le_refl _) (by have := HS2.out; simp; omega), HBB.out⟩
        | true =>
          cases bq with
          | false =>
            have HE := Lib.hid (E4 h1 h2 h3 (.inr rfl))
            clear E1 E2 E3 E4 E5 E6 h1 h2 h3 HCAO HCAQ HCQO
            have x0 := cell_of_row _ (w.heap.size + 3) 0 _ _ (0, 0) hbx
            have x1 := cell_of_row _ (w.heap.size + 3) 1 _ _ (0, 0) hbx
            have z0 := frozen_of_row _ (w.heap.size + 3) 0 _ _ hbx
            have z1 := frozen_of_row _ (w.heap.size + 3) 1 _ _ hbx
            simp at x0 x1
            have hbx5 : ((w7.setCell ⟨w.heap.size + 3, 0, none⟩ (.slice ao xo.length co)).setCell ⟨w.heap.size + 3, 1, none⟩ (.bool bo)).heap[w.heap.size + 3]? = some (.cells #[.slice ao xo.length co, .bool bo] 85 (0, 0)) := heap_setCell_same _ _ 1 _ _ _ (heap_setCell_same _ _ 0 _ _ _ hbx)
            have HF := Lib.hid (((hO.mono (Nat.le_refl _) (Nat.le_refl _)).setCell (a := ⟨w.heap.size + 3, 0, none⟩) (u := .slice ao xo.length co) (.inr (Nat.le_add_right w.heap.size 3))).setCell (a := ⟨w.heap.size + 3, 1, none⟩) (u := .bool bo) (.inr (Nat.le_add_right w.heap.size 3)))
            have HBB := Lib.hid ((hW.setCell (p := ⟨w.heap.size + 3, 0, none⟩) (Nat.le_add_right w.heap.size 3) (.slice ao xo.length co)).setCell (p := ⟨w.heap.size + 3, 1, none⟩) (Nat.le_add_right w.heap.size 3) (.bool bo))
            have HS2 := Lib.hid hW.size
            clear hbx hO hA hQ hW
            go_wp2
            (try simp only [Exit.inBlock, Exit.then])
            refine bodyPost_ret (results_row_tmp rfl _ _ (w.heap.size + 3) _ _ _ _ rfl hbx5 Tryz.underlying85 rfl (by kernel_rfl)) rfl ?_
            exact ⟨_, by rw [(HRO.out 1 HE.out).1, (HRO.out 1 HE.out).2.2]; rfl, by rw [(HRO.out 1 HE.out).2.1]; exact HF.out.mono (Nat.le_refl _) (by have := HS2.out; simp; omega), HBB.out⟩
          | true =>
            cases bo with
            | false =>
              have HE := Lib.hid (E5 h1 h2 h3 rfl rfl rfl)
              clear E1 E2 E3 E4 E5 E6 h1 h2 h3 HCAO HCAQ HCQO
              have x0 := cell_of_row _ (w.heap.size + 3) 0 _ _ (0, 0) hbx
              have x1 := cell_of_row _ (w.heap.size + 3) 1 _ _ (0, 0) hbx
              have z0 := frozen_of_row _ (w.heap.size + 3) 0 _ _ hbx
              have z1 := frozen_of_row _ (w.heap.size + 3) 1 _ _ hbx
              simp at x0 x1
              have hbx5 : ((w7.setCell ⟨w.heap.size + 3, 0, none⟩ (.slice ao xo.length co)).setCell ⟨w.heap.size + 3, 1, none⟩ (.bool false)).heap[w.heap.size + 3]? = some (.cells #[.slice ao xo.length co, .bool false] 85 (0, 0)) := heap_setCell_same _ _ 1 _ _ _ (heap_setCell_same _ _ 0 _ _ _ hbx)
              have HF := Lib.hid (((hO.mono (Nat.le_refl _) (Nat.le_refl _)).setCell (a := ⟨w.heap.size + 3, 0, none⟩) (u := .slice ao xo.length co) (.inr (Nat.le_add_right w.heap.size 3))).setCell (a := ⟨w.heap.size + 3, 1, none⟩) (u := .bool false) (.inr (Nat.le_add_right w.heap.size 3)))
              have HBB := Lib.hid ((hW.setCell (p := ⟨w.heap.size + 3, 0, none⟩) (Nat.le_add_right w.heap.size 3) (.slice ao xo.length co)).setCell (p := ⟨w.heap.size + 3, 1, none⟩) (Nat.le_add_right w.heap.size 3) (.bool false))
              have HS2 := Lib.hid hW.size
              clear hbx hO hA hQ hW
              go_wp2
              (try simp only [Exit.inBlock, Exit.then])
              refine bodyPost_ret (results_row_tmp rfl _ _ (w.heap.size + 3) _ _ _ _ rfl hbx5 Tryz.underlying85 rfl (by kernel_rfl)) rfl ?_
              exact ⟨_, by rw [(HRO.out 2 HE.out).1, (HRO.out 2 HE.out).2.2]; rfl, by rw [(HRO.out 2 HE.out).2.1]; exact HF.out.mono (Nat.le_refl _) (by have := HS2.out; simp; omega), HBB.out⟩
            | true =>
              have HE := Lib.hid (E6 h1 h2 h3 rfl rfl rfl)
              clear E1 E2 E3 E4 E5 E6 h1 h2 h3 HCAO HCAQ HCQO
              go_wp2_with fail
              refine (implMergeText _ _ _ xo xa xq _ hO.rd hA.rd hQ.rd).mono ?_
              rintro e w8 ⟨v8, rfl, hT, hb8⟩
              have hb8s := hb8.size
              have p0 := keepc p0 hb8
              have p1 := keepc p1 hb8
              have q0 := keepc q0 hb8
              have q1 := keepc q1 hb8
              have r0 := keepc r0 hb8
              have r1 := keepc r1 hb8
              have hbx := (hb8.block _ (by omega)).trans hbx
              have hO := hO.below (Nat.le_refl _) hb8
              have hA := hA.below (Nat.le_refl _) hb8
              have hQ := hQ.below (Nat.le_refl _) hb8
              have hW := hW.trans (hb8.mono hW.size)
              obtain ⟨a8, c8, rfl, _⟩ := hT.shape
              obtain ⟨M, hM⟩ : ∃ M, M = mText xo xa xq := ⟨_, rfl⟩
              rw [← hM] at hT HE ⊢
              obtain ⟨xm, bm⟩ := M
              simp only at hT HE ⊢
              clear hM
              cases bm with
              | false =>
                have HE2 : Hid (R = (O, 3)) := by show _ = _; rw [HE.out]; rfl
                clear HE hT
                have x0 := cell_of_row _ (w.heap.size + 3) 0 _ _ (0, 0) hbx
                have x1 := cell_of_row _ (w.heap.size + 3) 1 _ _ (0, 0) hbx
                have z0 := frozen_of_row _ (w.heap.size + 3) 0 _ _ hbx
                have z1 := frozen_of_row _ (w.heap.size + 3) 1 _ _ hbx
                simp at x0 x1
                have hbx5 : ((w8.setCell ⟨w.heap.size + 3, 0, none⟩ (.slice ao xo.length co)).setCell ⟨w.heap.size + 3, 1, none⟩ (.bool true)).heap[w.heap.size + 3]? = some (.cells #[.slice ao xo.length co, .bool true] 85 (0, 0)) := heap_setCell_same _ _ 1 _ _ _ (heap_setCell_same _ _ 0 _ _ _ hbx)
                have HF := Lib.hid (((hO.mono (Nat.le_refl _) (Nat.le_refl _)).setCell (a := ⟨w.heap.size + 3, 0, none⟩) (u := .slice ao xo.length co) (.inr (Nat.le_add_right w.heap.size 3))).setCell (a := ⟨w.heap.size + 3, 1, none⟩) (u := .bool true) (.inr (Nat.le_add_right w.heap.size 3)))
                have HBB := Lib.hid ((hW.setCell (p := ⟨w.heap.size + 3, 0, none⟩) (Nat.le_add_right w.heap.size 3) (.slice ao xo.length co)).setCell (p := ⟨w.heap.size + 3, 1, none⟩) (Nat.le_add_right w.heap.size 3) (.bool true))
                have HS2 := Lib.hid hW.size
                clear hbx hO hA hQ hW
                go_wp2
                (try simp only [Exit.inBlock, Exit.then])
                refine bodyPost_ret (results_row_tmp rfl _ _ (w.heap.size + 3) _ _ _ _ rfl hbx5 Tryz.underlying85 rfl (by kernel_rfl)) rfl ?_
                exact ⟨_, by rw [(HRO.out 3 HE2.out).1, (HRO.out 3 HE2.out).2.2]; rfl, by rw [(HRO.out 3 HE2.out).2.1]; exact HF.out.mono (Nat.le_refl _) (by have := HS2.out; simp; omega), HBB.out⟩
              | true =>
                have HE2 : Hid (R = (some xm, 0)) := by show _ = _; rw [HE.out]; rfl
                clear HE
                have hT2 := hT.mono (B' := B) (by have := hW.size; omega) (Nat.le_refl _)
                have hT3 := hT
                have x0 := cell_of_row _ (w.heap.size + 3) 0 _ _ (0, 0) hbx
                have x1 := cell_of_row _ (w.heap.size + 3) 1 _ _ (0, 0) hbx
                have z0 := frozen_of_row _ (w.heap.size + 3) 0 _ _ hbx
                have z1 := frozen_of_row _ (w.heap.size + 3) 1 _ _ hbx
                simp at x0 x1
                have hbx5 : ((w8.setCell ⟨w.heap.size + 3, 0, none⟩ (.slice a8 xm.length c8)).setCell ⟨w.heap.size + 3, 1, none⟩ (.bool true)).heap[w.heap.size + 3]? = some (.cells #[.slice a8 xm.length c8, .bool true] 85 (0, 0)) := heap_setCell_same _ _ 1 _ _ _ (heap_setCell_same _ _ 0 _ _ _ hbx)
                have HF := Lib.hid ((((hT.setCell (a := ⟨w.heap.size + 3, 0, none⟩) (u := .slice a8 xm.length c8) (.inl (by show w.heap.size + 3 < _; omega))).setCell (a := ⟨w.heap.size + 3, 1, none⟩) (u := .bool true) (.inl (by show w.heap.size + 3 < _; omega))).mono (B' := B) (by have := hW.size; omega) (Nat.le_refl _)))
                have HBB := Lib.hid ((hW.setCell (p := ⟨w.heap.size + 3, 0, none⟩) (Nat.le_add_right w.heap.size 3) (.slice a8 xm.length c8)).setCell (p := ⟨w.heap.size + 3, 1, none⟩) (Nat.le_add_right w.heap.size 3) (.bool true))
                have HS2 := Lib.hid hW.size
                clear hT hT2 hT3 hbx hO hA hQ hW
                go_wp2
                (try simp only [Exit.inBlock, Exit.then])
                refine bodyPost_ret (results_row_tmp rfl _ _ (w.heap.size + 3) _ _ _ _ rfl hbx5 Tryz.underlying85 rfl (by kernel_rfl)) rfl ?_
                exact ⟨_, by rw [HE2.out]; rfl, by rw [HE2.out]; exact HF.out.mono (Nat.le_refl _) (by simp), HBB.out⟩
end Go.Proofs.YtegknjcifmenpaaGreatDoor
