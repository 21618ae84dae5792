/-
  The walk of a law: FnChangesBack. / Closed facts of the row of the law 'FnChangesBack'. / PROVED: 'laws.FnChangesBack': for every input the call returns true, and each argument reads behind it as it read before. Conditions: none but the given row's own.
-/
import Derived.Test.YtlaklnpdnohofaaGreatDoorVCP
import Derived.Test.YtlaklnpdnohofaaGreatDoorWChD
import Derived.Test.YtlaklnpdnohofaaGreatDoorWChDs
import Derived.Test.YtlaklnpdnohofaaGreatDoorVBK
import Derived.Test.YtlaklnpdnohofaaGreatDoorWBackC
import Derived.Test.YtlaklnpdnohofaaGreatDoorVCS
import Derived.Test.YtlaklnpdnohofaaGreatDoorVD1
import Derived.Test.YtlaklnpdnohofaaGreatDoorVSM
import Derived.Test.YtlaklnpdnohofaaGreatDoorVZ
set_option linter.unusedVariables false
namespace Go.Proofs.YtlaklnpdnohofaaGreatDoor
open Go.RowKit Go.Vc
open Go.Vc.Rep (rd)
open Go.Vc.Own (own)
set_option maxHeartbeats 8000000 in
set_option maxRecDepth 100000 in
theorem lawFnChangesBack (v0 : Value) (bs : List UInt8) (w : World) (h0 : rd (fun b => b < w.heap.size) w [v0] bs) (hM : ML w) :
    Calls Tryz.prog 3 #[v0] w fun e w' => e = .returned (.bool true) ∧ Below w.heap.size w w' := by
  obtain ⟨a0, c0, rfl, hs0⟩ := rd_slice_elim h0
  have hle := hs0.le
  by_cases hbig : 1048576 < bs.length
  · go_enter Tryz.func3, Tryz.ntmps3
    go_wp2
    go_ret
    exact ⟨rfl, Below.refl _ _⟩
  go_enter Tryz.func3, Tryz.ntmps3
  go_wp2_with fail
  refine (drawChangesDo_any _ bs w h0 (by omega)).mono ?_
  rintro e w0 ⟨v, u, t, l, rfl, hSt9, hSl, ht, hl, HB⟩
  have ht := Rep.lt ht
  have hl := Rep.lt hl
  have hM := hM.keep HB
  have hSt : ∀ f, f ∈ t → ShortS f.path := fun f hf => short_of (by have := (hSt9.2 f hf).1; omega)
  clear h0 hs0 hle hbig hSt9
  obtain ⟨htA, htC, htV, _⟩ := rd_slice_elim ht
  subst htV
  obtain ⟨hlA, hlC, hlV, _⟩ := rd_slice_elim hl
  subst hlV
  obtain ⟨x, ok, hdo⟩ : ∃ x ok, changesDo t l = (x, ok) := ⟨_, _, rfl⟩
  have ID := fun (q : World) (v' u' : Value) (h1 : rd (fun b => b < q.heap.size) q [v'] t) (h2 : rd (fun b => b < q.heap.size) q [u'] l) (hM : ML q) => implChangesDo v' u' t l q h1 h2 hSt hSl hM
  rw [hdo] at ID
  simp only at ID
  have HD := Lib.hid hdo
  have SD := fun (q : World) (v' u' : Value) (h1 : rd (fun b => b < q.heap.size) q [v'] t) (h2 : rd (fun b => b < q.heap.size) q [u'] l) => specChangesDo v' u' t l q h1 h2
  rw [hdo] at SD
  simp only at SD
  have hne : (ok != ok) = false := by simp
  have heq : (ok == ok) = true := by simp
  clear hdo
  go_wp2_with fail
  refine (ID _ _ _ ht hl hM).mono ?_
  rintro e w1 ⟨xv, rfl, hX, hb1⟩
  have ht := Rep.lt (Rep.keep ht hb1)
  have hl := Rep.lt (Rep.keep hl hb1)
  have hM := ML.keep hM hb1
  have HB := HB.trans (hb1.mono HB.size)
  have hX := Rep.lt hX
  obtain ⟨hXA, hXC, hXV, _⟩ := rd_slice_elim hX
  subst hXV
  go_wp2_with fail
  refine (SD _ _ _ ht hl).mono ?_
  rintro e w2 ⟨yv, rfl, hY, hb2⟩
  have ht := Rep.lt (Rep.keep ht hb2)
  have hl := Rep.lt (Rep.keep hl hb2)
  have hM := ML.keep hM hb2
  have HB := HB.trans (hb2.mono HB.size)
  have hX := Rep.lt (Rep.keep hX hb2)
  have hY := Rep.lt hY
  obtain ⟨hYA, hYC, hYV, _⟩ := rd_slice_elim hY
  subst hYV
  go_wp2_with fail
  refine (smTree_is _ _ x x _ hX hY (decide_eq_true rfl)).mono ?_
  rintro e w3 ⟨rfl, hb3⟩
  have ht := Rep.lt (Rep.keep ht hb3)
  have hl := Rep.lt (Rep.keep hl hb3)
  have hM := ML.keep hM hb3
  have HB := HB.trans (hb3.mono HB.size)
  have hX := Rep.lt (Rep.keep hX hb3)
  have hY := Rep.lt (Rep.keep hY hb3)
  clear ID SD
  cases ok with
  | false =>
    go_wp2_with fail
    refine (smTree_is _ _ x x _ hX hY (decide_eq_true rfl)).mono ?_
    rintro e w4 ⟨rfl, hb4⟩
    have ht := Rep.lt (Rep.keep ht hb4)
    have hl := Rep.lt (Rep.keep hl hb4)
    have hM := ML.keep hM hb4
    have HB := HB.trans (hb4.mono HB.size)
    have hX := Rep.lt (Rep.keep hX hb4)
    have hY := Rep.lt (Rep.keep hY hb4)
    go_wp2
    go_ret
    exact ⟨rfl, HB⟩
  | true =>
    obtain ⟨hx1, hx2, hx3⟩ := changes_back HD.out
    have hSx : ∀ f, f ∈ x → ShortS f.path := do_short HD.out hSt hSl
    have hSb : ∀ c, c ∈ changesBack l → ShortS c.path ∧ ShortS c.dst := back_short (short_of (by decide)) hSl
    obtain ⟨b, hbe⟩ : ∃ b, changesBack l = b := ⟨_, rfl⟩
    have IB := fun (q : World) (v' : Value) (h : rd (fun b => b < q.heap.size) q [v'] l) (hM : ML q) => implChangesBack v' l q h hSl hM
    have SB := fun (q : World) (v' : Value) (h : rd (fun b => b < q.heap.size) q [v'] l) => specChangesBack v' l q h
    rw [hbe] at hx2 hx3 hSb IB SB
    have I2 := fun (q : World) (v' u' : Value) (h1 : rd (fun b => b < q.heap.size) q [v'] x) (h2 : rd (fun b => b < q.heap.size) q [u'] b) (hM : ML q) => implChangesDo v' u' x b q h1 h2 hSx hSb hM
    rw [hx2] at I2
    simp only at I2
    have IC := fun (q : World) (v' : Value) (h : rd (fun b => b < q.heap.size) q [v'] b) (hM : ML q) => implChangesBack v' b q h hSb hM
    rw [hx3] at IC
    clear hx2 hx3 hbe hY HD hne heq
    go_wp2_with fail
    refine (IB _ _ hl hM).mono ?_
    rintro e w5 ⟨bv, rfl, hK, hb5⟩
    have ht := Rep.lt (Rep.keep ht hb5)
    have hl := Rep.lt (Rep.keep hl hb5)
    have hM := ML.keep hM hb5
    have HB := HB.trans (hb5.mono HB.size)
    have hX := Rep.lt (Rep.keep hX hb5)
    have hK := Rep.lt hK.rd
    obtain ⟨hKA, hKC, hKV, _⟩ := rd_slice_elim hK
    subst hKV
    go_wp2_with fail
    refine (I2 _ _ _ hX hK hM).mono ?_
    rintro e w6 ⟨zv, rfl, hZ, hb6⟩
    have ht := Rep.lt (Rep.keep ht hb6)
    have hl := Rep.lt (Rep.keep hl hb6)
    have hM := ML.keep hM hb6
    have HB := HB.trans (hb6.mono HB.size)
    have hX := Rep.lt (Rep.keep hX hb6)
    have hK := Rep.lt (Rep.keep hK hb6)
    have hZ := Rep.lt hZ
    obtain ⟨hZA, hZC, hZV, _⟩ := rd_slice_elim hZ
    subst hZV
    go_wp2_with fail
    refine (treeOk_is _ x _ hX hSx hM hx1).mono ?_
    rintro e w7 ⟨rfl, hb7⟩
    have ht := Rep.lt (Rep.keep ht hb7)
    have hl := Rep.lt (Rep.keep hl hb7)
    have hM := ML.keep hM hb7
    have HB := HB.trans (hb7.mono HB.size)
    have hX := Rep.lt (Rep.keep hX hb7)
    have hK := Rep.lt (Rep.keep hK hb7)
    have hZ := Rep.lt (Rep.keep hZ hb7)
    go_wp2_with fail
    refine (SB _ _ hl).mono ?_
    rintro e w8 ⟨sv, rfl, hQ, hb8⟩
    have ht := Rep.lt (Rep.keep ht hb8)
    have hl := Rep.lt (Rep.keep hl hb8)
    have hM := ML.keep hM hb8
    have HB := HB.trans (hb8.mono HB.size)
    have hX := Rep.lt (Rep.keep hX hb8)
    have hK := Rep.lt (Rep.keep hK hb8)
    have hZ := Rep.lt (Rep.keep hZ hb8)
    have hQ := Rep.lt hQ.rd
    obtain ⟨hQA, hQC, hQV, _⟩ := rd_slice_elim hQ
    subst hQV
    go_wp2_with fail
    refine (smChanges_same _ _ b _ hK hQ).mono ?_
    rintro e w9 ⟨rfl, hb9⟩
    have ht := Rep.lt (Rep.keep ht hb9)
    have hl := Rep.lt (Rep.keep hl hb9)
    have hM := ML.keep hM hb9
    have HB := HB.trans (hb9.mono HB.size)
    have hX := Rep.lt (Rep.keep hX hb9)
    have hK := Rep.lt (Rep.keep hK hb9)
    have hZ := Rep.lt (Rep.keep hZ hb9)
    have hQ := Rep.lt (Rep.keep hQ hb9)
    go_wp2_with fail
    refine (smTree_is _ _ t t _ hZ ht (decide_eq_true rfl)).mono ?_
    rintro e w10 ⟨rfl, hb10⟩
    have ht := Rep.lt (Rep.keep ht hb10)
    have hl := Rep.lt (Rep.keep hl hb10)
    have hM := ML.keep hM hb10
    have HB := HB.trans (hb10.mono HB.size)
    have hX := Rep.lt (Rep.keep hX hb10)
    have hK := Rep.lt (Rep.keep hK hb10)
    have hZ := Rep.lt (Rep.keep hZ hb10)
    have hQ := Rep.lt (Rep.keep hQ hb10)
    go_wp2_with fail
    refine (IC _ _ hK hM).mono ?_
    rintro e w11 ⟨cv, rfl, hC, hb11⟩
    have ht := Rep.lt (Rep.keep ht hb11)
    have hl := Rep.lt (Rep.keep hl hb11)
    have hM := ML.keep hM hb11
    have HB := HB.trans (hb11.mono HB.size)
    have hX := Rep.lt (Rep.keep hX hb11)
    have hK := Rep.lt (Rep.keep hK hb11)
    have hZ := Rep.lt (Rep.keep hZ hb11)
    have hQ := Rep.lt (Rep.keep hQ hb11)
    have hC := Rep.lt hC.rd
    obtain ⟨hCA, hCC, hCV, _⟩ := rd_slice_elim hC
    subst hCV
    go_wp2_with fail
    refine (smChanges_same _ _ l _ hC hl).mono ?_
    rintro e w12 ⟨rfl, hb12⟩
    have ht := Rep.lt (Rep.keep ht hb12)
    have hl := Rep.lt (Rep.keep hl hb12)
    have hM := ML.keep hM hb12
    have HB := HB.trans (hb12.mono HB.size)
    have hX := Rep.lt (Rep.keep hX hb12)
    have hK := Rep.lt (Rep.keep hK hb12)
    have hZ := Rep.lt (Rep.keep hZ hb12)
    have hQ := Rep.lt (Rep.keep hQ hb12)
    have hC := Rep.lt (Rep.keep hC hb12)
    go_wp2
    go_ret
    exact ⟨rfl, HB⟩
end Go.Proofs.YtlaklnpdnohofaaGreatDoor
namespace Go.Proofs.YtlaklnpdnohofaaGreatDoor.fnChangesBack
open Go.ChangeShapes Go.WideShapes Go.ChangeAt Go.RowKit Go.Vc
theorem named : Tryz.pinned.checked.prog.funcNamed Rows.fnChangesBackRow.func = some 3 := by kernel_rfl
theorem closed : joinedFacts Tryz.pinned.checked.prog 3 Tryz.f3 Rows.fnChangesBackSpec Rows.fnChangesBackRow = true := by kernel_rfl
theorem inst : Tryz.f3.isInstance Tryz.pinned.checked.prog Rows.fnChangesBackRow.origin Rows.fnChangesBackRow.targs := of_decide_eq_true (by kernel_rfl)
theorem wrap : Tryz.f3.isWrapper Tryz.pinned.checked.prog Rows.fnChangesBackRow.wrapper Rows.fnChangesBackRow.mainSum := by unfold Func.isWrapper; first | (rw [if_pos (by decide +kernel)]; kernel_rfl) | (rw [if_neg (by decide +kernel)]; exact ⟨rfl, rfl⟩)
end Go.Proofs.YtlaklnpdnohofaaGreatDoor.fnChangesBack
namespace Go.Proofs.YtlaklnpdnohofaaGreatDoor.fnChangesBack
open Go.ChangeShapes Go.WideShapes Go.ChangeAt Go.RowKit Go.Vc
set_option linter.unusedVariables false

set_option maxRecDepth 100000 in
theorem contract (H : Type) (enc : TypeId × Value → H) (W : World) (base : Nat) (args : Array Value) (ds gs : List (DataW H)) (before : List MemPlace)
    (hval : ∀ (j : Nat) t v, Tryz.f3.params[j]? = some t → args[j]? = some v → Value.okWide Tryz.prog W .any base t v)
    (hW : DataW.Whole enc Tryz.prog Tryz.f3.params.toList Rows.fnChangesBackSpec.vars false W args.toList ds gs before) (hM : ML W) :
    Calls Tryz.prog 3 args W fun e W' => ∃ v, e = .returned v ∧ Rows.fnChangesBackSpec.post enc Tryz.prog Tryz.f3 false true false false W args v W' := by
  have hW' := hW
  obtain ⟨p, q, hA0, hV, rfl, hfz, hnd⟩ := hW
  have hA : DataW.TrodAll enc Tryz.prog W 0 (fun _ => true) true Tryz.f3.params.toList args.toList ds p := hA0
  rw [Tryz.params3] at hA hval
  obtain ⟨v0, vs0, d0, ds0, p0, q0, hargs, rfl, rfl, h0, r0⟩ := trodAll_cons hA
  obtain ⟨rfl, rfl, rfl⟩ := trodAll_nil r0
  obtain rfl : args = #[v0] := by cases args; simp_all
  obtain ⟨rfl, rfl⟩ := trodVars_none hV
  obtain ⟨a0, l0, c0, rfl⟩ := okWide_slice Tryz.underlying22 (hval 0 22 v0 rfl rfl)
  obtain ⟨x0, hx0⟩ := opn_byteS.arg h0
  have hlt := hW'.lt
  refine (lawFnChangesBack _ x0 W hx0 hM).mono fun e W' ⟨he, hb⟩ => ?_
  subst he
  refine ⟨_, rfl, _, _, _, _, _, _, hW', trodAll_cons_mk (shut_bool Tryz.underlying4 _) trodAll_mk0, trodAll_cons_mk (Below.trod laid (by kernel_rfl) (of_decide_eq_true (by kernel_rfl)) h0 hb (fun x hx => hlt x (by simp [hx]))) (trodAll_mk0), rfl, hb.frame _, fun h => by cases h⟩

set_option maxRecDepth 100000 in
theorem lifted (os : Os) (started : os.Started) (H : Type) (enc : TypeId × Value → H) :
    ReturnsInHanded {} Tryz.checked os 3 .any (fun w args => (Rows.fnChangesBackSpec.pre enc Tryz.prog Tryz.f3 Rows.fnChangesBackRow.domain false w args ∧ laidMetH Tryz.prog Rows.fnChangesBackRow.laid w) ∧ sizedMet enc Tryz.prog Tryz.f3 (OpenSpec.ofChange Rows.fnChangesBackSpec) false w args) (Rows.fnChangesBackSpec.post enc Tryz.prog Tryz.f3 false true false false) := by
  refine returnsInHanded_laid (C := Tryz.checked) (X := fun w _ => laidMetH Tryz.prog Rows.fnChangesBackRow.laid w) own started (by kernel_rfl) Tryz.func3
    (ChangeSpec.witness_shaped (enc := enc) (C := Tryz.checked) (os := os) (X := fun w _ => laidMetH Tryz.prog Rows.fnChangesBackRow.laid w) false (World.laidAll Tryz.prog os Rows.fnChangesBackRow.laid) #[.slice none 0 0] 8 (World.laidAll_os _ _ _)
      (World.shaped_of_ZipB (by kernel_rfl) (by kernel_rfl)) (by kernel_rfl) (by kernel_rfl) (by kernel_rfl)
      (by rw [MakeChecks.laidMetH_plain _ _ _ (by kernel_rfl)]; exact laidMet_laidAll _ (by kernel_rfl) (by kernel_rfl))) ?_
  intro W base args ds gs before hval hW hsh
  exact contract H enc W base args ds gs before hval hW (ml_of_shape hsh)

theorem row : Rows.FnChangesBackSaid :=
  OpenClaim.holds_of_wide 3 Tryz.f3 rfl rfl rfl rfl rfl rfl rfl ⟨rfl, rfl, rfl, rfl, rfl⟩ rfl rfl rfl rfl rfl named Tryz.func3 closed inst wrap
    (fun os started H enc _ => lifted os started H enc)

theorem proved : Rows.FnChangesBackCardSaid :=
  Claim7.holds_tied_plain_at .later [] Rows.fnChangesBackCard.laidKinds true Rows.fnChangesBackCard.stood.harness Rows.fnChangesBackCard.stood.looks row (fun _ h => by cases h) (by kernel_rfl) (fun _ h => by cases h) fnChangesBack_row_tie rfl ⟨rfl, rfl⟩ (by kernel_rfl) rfl
    (fun f fn hf hfn => by
      obtain rfl : f = 3 := Option.some.inj ((show Tryz.prog.funcNamed Rows.fnChangesBackRow.func = some 3 by kernel_rfl).symm.trans hf) |>.symm
      obtain rfl : fn = Tryz.f3 := (Option.some.inj (Tryz.func3.symm.trans hfn)).symm
      exact ⟨by kernel_rfl, fun j t ht => by
        rw [Tryz.params3] at ht
        have hm : t ∈ [22] := by simpa using Array.mem_of_getElem? ht
        have hall : ([22].all fun u => !Tryz.prog.wantsStandIn u) = true := by kernel_rfl
        exact (show Tryz.prog.wantsStandIn t = false by simpa using List.all_eq_true.1 hall t hm)⟩)
    (by kernel_rfl)
end Go.Proofs.YtlaklnpdnohofaaGreatDoor.fnChangesBack
