/-
  What a tied card's row gives its walk: the variables that reading and writing numbers looks at, as they are laid.
-/
import Derived.Test.YthhmaclhggmneaaDoorVN
import Derived.Test.YthhmaclhggmneaaDoorWNum
import Derived.Stop.LaidErr
import Derived.Lib.LaidTab
set_option linter.unusedVariables false
namespace Go.Vc
open Go.RowKit
variable {H : Type} {enc : TypeId × Value → H}
/-- the kit's wrap of a row that lists variables: the world's shape kept, and what the listed variables hold -/
theorem returnsInHanded_laidX {a : Assume} {C : Checked} {os : Os} {f : FuncId} {fn : Func} {s : ChangeSpec} {conds : List PathCond} {apart fresh handsOn again : Bool} {l : List (String × DataW Unit)}
    (own : ownKnob C.prog.godebug = none) (started : os.Started) (noInit : C.prog.inits.idxOf? f = none) (hfn : C.prog.funcs[f]? = some fn)
    (witness : ∃ (w : World) (tape : Tape) (i : Input), w.os = os ∧ (w.forCall tape i).Shaped C.prog ∧ i.vars = [] ∧ Input.okWide C.prog (w.forCall tape i) .any w.heap.size f i ∧
      ((s.pre enc C.prog fn conds apart (w.forCall tape i).memory i.args ∧ laidMetH C.prog l (w.forCall tape i).memory) ∧ sizedMet enc C.prog fn (OpenSpec.ofChange s) apart (w.forCall tape i).memory i.args) ∧ a.holds C.prog (lone (Frame.enter C.prog f i.args .normal) [] (w.forCall tape i)))
    (contract : ∀ (W : World) (base : Nat) (args : Array Value) (ds gs : List (DataW H)) (before : List MemPlace),
      (∀ (j : Nat) t v, fn.params[j]? = some t → args[j]? = some v → Value.okWide C.prog W .any base t v) →
      DataW.Whole enc C.prog fn.params.toList s.vars apart W args.toList ds gs before →
      W.ShapedOpen C.prog → laidMetH C.prog l W →
      Calls C.prog f args W fun e W' => ∃ v, e = .returned v ∧ s.post enc C.prog fn apart fresh handsOn again W args v W') :
    ReturnsInHanded a C os f .any (fun w args => (s.pre enc C.prog fn conds apart w args ∧ laidMetH C.prog l w) ∧ sizedMet enc C.prog fn (OpenSpec.ofChange s) apart w args) (s.post enc C.prog fn apart fresh handsOn again) := by
  refine returnsInHanded_of_calls own started noInit witness ?_
  intro w tape i _ hsh _ hok hpre hholds
  obtain ⟨_, _, _, fn', hfn', _, _, _, _, hval⟩ := hok
  have e : fn' = fn := Option.some.inj (hfn'.symm.trans hfn)
  subst e
  obtain ⟨⟨⟨ds, gs, before, hw, hc⟩, hx⟩, hz⟩ := hpre
  have hw' := DataW.Whole.of_heap (w' := w.forCall tape i) (by rfl) hw
  refine (contract (w.forCall tape i) w.heap.size i.args ds gs before hval hw' hsh (laidMetH.of_heap (by rfl) hx)).mono fun e W' ⟨v, he, hp⟩ => ?_
  subst he
  exact ChangeSpec.post_blind hp
end Go.Vc
namespace Go.Proofs.YthhmaclhggmneaaDoor
open Go.RowKit Go.Vc
def starT : String := String.ofList [Char.ofNat 42]
/-- the type's name in the row's own list -/
def ptrName : String := match (Rows.laid_strconv_ErrRange (H := Unit)) with
  | .iface n _ => n
  | _ => starT
theorem starE : starT ++ "errors.errorString" = ptrName := by decide +kernel
theorem rowE (u : TypeId) (h : Tryd.prog.typeName? 3 u = some ptrName) : u = 176 := by
  refine typeName_ptr_named (P := Tryd.prog) (tp := 176) (nm := "errors.errorString") ?_ (by kernel_rfl) (by decide) u ?_
  · show ((List.range Tryd.prog.types.size).all fun u => Tryd.prog.typeName? 3 u != some (starT ++ "errors.errorString") || u == 176) = true
    rw [starE]
    kernel_rfl
  · show Tryd.prog.typeName? 3 u = some (starT ++ "errors.errorString")
    rw [starE]
    exact h
theorem numV_of {W : World} (h : laidMet Tryd.prog Rows.fnPatchPutRow.laid W) : NumV W := by
  have h1 := h.tail.tail
  have h2 := h1.tail.tail
  have h3 := h2.tail
  refine ⟨?_, ?_, ?_⟩
  · obtain ⟨a, _, hv, _⟩ := laid_sentinel h2 (g := 1) (ti := 112) (tp := 176) (te := 178) (ts := 9) (by kernel_rfl) (by kernel_rfl) Tryd.underlying112 rowE Tryd.underlying176 Tryd.underlying178 rfl rfl Tryd.underlying9 (by kernel_rfl) (by kernel_rfl)
    exact ⟨_, _, hv⟩
  · obtain ⟨a, _, hv, _⟩ := laid_sentinel h3 (g := 0) (ti := 112) (tp := 176) (te := 178) (ts := 9) (by kernel_rfl) (by kernel_rfl) Tryd.underlying112 rowE Tryd.underlying176 Tryd.underlying178 rfl rfl Tryd.underlying9 (by kernel_rfl) (by kernel_rfl)
    exact ⟨_, _, hv⟩
  · exact Lib.tabIs_of_head (g := 2) (t := 171) (e := 153) (n := 20) (by kernel_rfl) (by kernel_rfl) Tryd.underlying171 Tryd.underlying153 (by kernel_rfl) (by kernel_rfl) h1
end Go.Proofs.YthhmaclhggmneaaDoor
