/-
  PROVED: 'laws.FnPatchPut': for every input the call returns true, and each argument reads behind it as it read before. Conditions: none but the given row's own.
-/
import Derived.Test.YthhmaclhggmneaaDoorLFnPatchPut
import Derived.Test.YthhmaclhggmneaaDoorPKFnPatchPut
import Derived.Test.YthhmaclhggmneaaDoorDoorN
import Derived.Test.YthhmaclhggmneaaDoorVN
import Derived.Test.YthhmaclhggmneaaDoorOpn2
set_option linter.unusedVariables false
namespace Go.Proofs.YthhmaclhggmneaaDoor.fnPatchPut
open Go.ChangeShapes Go.WideShapes Go.ChangeAt Go.RowKit Go.Vc
set_option linter.unusedVariables false

set_option maxRecDepth 100000 in
theorem contract (H : Type) (enc : TypeId × Value → H) (W : World) (base : Nat) (args : Array Value) (ds gs : List (DataW H)) (before : List MemPlace)
    (hval : ∀ (j : Nat) t v, Tryd.f4.params[j]? = some t → args[j]? = some v → Value.okWide Tryd.prog W .any base t v)
    (hW : DataW.Whole enc Tryd.prog Tryd.f4.params.toList Rows.fnPatchPutSpec.vars false W args.toList ds gs before) (hM : ML W) (hNV : NumV W) :
    Calls Tryd.prog 4 args W fun e W' => ∃ v, e = .returned v ∧ Rows.fnPatchPutSpec.post enc Tryd.prog Tryd.f4 false true false false W args v W' := by
  have hW' := hW
  obtain ⟨p, q, hA0, hV, rfl, hfz, hnd⟩ := hW
  have hA : DataW.TrodAll enc Tryd.prog W 0 (fun _ => true) true Tryd.f4.params.toList args.toList ds p := hA0
  rw [Tryd.params4] at hA hval
  obtain ⟨v0, vs0, d0, ds0, p0, q0, hargs, rfl, rfl, h0, r0⟩ := trodAll_cons hA
  obtain ⟨rfl, rfl, rfl⟩ := trodAll_nil r0
  obtain rfl : args = #[v0] := by cases args; simp_all
  obtain ⟨rfl, rfl⟩ := trodVars_none hV
  obtain ⟨a0, l0, c0, rfl⟩ := okWide_slice Tryd.underlying36 (hval 0 36 v0 rfl rfl)
  obtain ⟨x0, hx0⟩ := opn_byteS.arg h0
  have hlt := hW'.lt
  refine (lawFnPatchPut _ x0 W hx0 hM hNV).mono fun e W' ⟨he, hb⟩ => ?_
  subst he
  refine ⟨_, rfl, _, _, _, _, _, _, hW', trodAll_cons_mk (shut_bool Tryd.underlying4 _) trodAll_mk0, trodAll_cons_mk (Below.trod laid (by kernel_rfl) (of_decide_eq_true (by kernel_rfl)) h0 hb (fun x hx => hlt x (by simp [hx]))) (trodAll_mk0), rfl, hb.frame _, fun h => by cases h⟩

set_option maxRecDepth 100000 in
theorem lifted (os : Os) (started : os.Started) (H : Type) (enc : TypeId × Value → H) :
    ReturnsInHanded {} Tryd.checked os 4 .any (fun w args => (Rows.fnPatchPutSpec.pre enc Tryd.prog Tryd.f4 Rows.fnPatchPutRow.domain false w args ∧ laidMetH Tryd.prog Rows.fnPatchPutRow.laid w) ∧ sizedMet enc Tryd.prog Tryd.f4 (OpenSpec.ofChange Rows.fnPatchPutSpec) false w args) (Rows.fnPatchPutSpec.post enc Tryd.prog Tryd.f4 false true false false) := by
  refine returnsInHanded_laidX (C := Tryd.checked) (l := Rows.fnPatchPutRow.laid) own started (by kernel_rfl) Tryd.func4
    (ChangeSpec.witness_shaped (enc := enc) (C := Tryd.checked) (os := os) (X := fun w _ => laidMetH Tryd.prog Rows.fnPatchPutRow.laid w) false (World.laidAll Tryd.prog os Rows.fnPatchPutRow.laid) #[.slice none 0 0] 8 (World.laidAll_os _ _ _)
      (World.shaped_of_ZipB (by kernel_rfl) (by kernel_rfl)) (by kernel_rfl) (by kernel_rfl) (by kernel_rfl)
      (by rw [MakeChecks.laidMetH_plain _ _ _ (by kernel_rfl)]; exact laidMet_laidAll _ (by kernel_rfl) (by kernel_rfl))) ?_
  intro W base args ds gs before hval hW hsh hx
  have hl : laidMet Tryd.prog Rows.fnPatchPutRow.laid W := by rw [MakeChecks.laidMetH_plain _ _ _ (by kernel_rfl)] at hx; exact hx
  exact contract H enc W base args ds gs before hval hW (ml_of_shape hsh) (numV_of hl)

theorem row : Rows.FnPatchPutSaid :=
  OpenClaim.holds_of_wide 4 Tryd.f4 rfl rfl rfl rfl rfl rfl rfl ⟨rfl, rfl, rfl, rfl, rfl⟩ rfl rfl rfl rfl rfl named Tryd.func4 closed inst wrap
    (fun os started H enc _ => lifted os started H enc)

theorem proved : Rows.FnPatchPutCardSaid :=
  Claim7.holds_tied_plain_at .later [] Rows.fnPatchPutCard.laidKinds true Rows.fnPatchPutCard.stood.harness Rows.fnPatchPutCard.stood.looks row (fun _ h => by cases h) (by kernel_rfl) (fun _ h => by cases h) fnPatchPut_row_tie rfl ⟨rfl, rfl⟩ (by kernel_rfl) rfl
    (fun f fn hf hfn => by
      obtain rfl : f = 4 := Option.some.inj ((show Tryd.prog.funcNamed Rows.fnPatchPutRow.func = some 4 by kernel_rfl).symm.trans hf) |>.symm
      obtain rfl : fn = Tryd.f4 := (Option.some.inj (Tryd.func4.symm.trans hfn)).symm
      exact ⟨by kernel_rfl, fun j t ht => by
        rw [Tryd.params4] at ht
        have hm : t ∈ [36] := by simpa using Array.mem_of_getElem? ht
        have hall : ([36].all fun u => !Tryd.prog.wantsStandIn u) = true := by kernel_rfl
        exact (show Tryd.prog.wantsStandIn t = false by simpa using List.all_eq_true.1 hall t hm)⟩)
    (by kernel_rfl)
end Go.Proofs.YthhmaclhggmneaaDoor.fnPatchPut
