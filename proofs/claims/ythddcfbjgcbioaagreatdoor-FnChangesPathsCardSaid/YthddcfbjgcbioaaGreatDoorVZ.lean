/-
  A struct's value out of its cells. No program is in sight here. / A law's argument: bytes. / What a tied card's row gives its walk: the listed variables as laid, and the world's shape: a variable of the library's own holds some number.
-/
import Derived.Test.YthddcfbjgcbioaaGreatDoorVF
import Derived.Test.YthddcfbjgcbioaaGreatDoorVTY
import Derived.Test.YthddcfbjgcbioaaGreatDoorBase
import Derived.Test.YthddcfbjgcbioaaGreatDoorSplit
import Derived.Test.YthddcfbjgcbioaaGreatDoorTie
import Derived.Test.YthddcfbjgcbioaaGreatDoorCards
import Derived.OpenShut
import Derived.LaidMore
import Derived.Lay
import Derived.SevenTiedAt
import Derived.Stop.Joined
import Derived.Shelf.Vars
set_option linter.unusedVariables false
namespace Go.Vc
open Go.RowKit
theorem agg_of_cells {v : Value} {l : List Value} (h : v.cells.toList = l) (hl : l.length ≠ 1) : v = .agg l.toArray := by
  subst h
  cases v with
  | agg cs => rfl
  | _ => exact absurd rfl hl
end Go.Vc
namespace Go.Proofs.YthddcfbjgcbioaaGreatDoor
open Go.RowKit Go.Vc
theorem opn_byteS : Opn Tryz.prog 22 (List UInt8) := opn_slice Tryz.underlying22 (opn_byte Tryz.underlying5) (by kernel_rfl) Nat.one_pos
end Go.Proofs.YthddcfbjgcbioaaGreatDoor
namespace Go.Vc
open Go.RowKit
variable {H : Type} {enc : TypeId × Value → H}
/-- the kit's wrap of a row that lists variables, the world's shape kept -/
theorem returnsInHanded_laid {a : Assume} {C : Checked} {os : Os} {f : FuncId} {fn : Func} {s : ChangeSpec} {conds : List PathCond} {apart fresh handsOn again : Bool} {X : World → Array Value → Prop}
    (own : ownKnob C.prog.godebug = none) (started : os.Started) (noInit : C.prog.inits.idxOf? f = none) (hfn : C.prog.funcs[f]? = some fn)
    (witness : ∃ (w : World) (tape : Tape) (i : Input), w.os = os ∧ (w.forCall tape i).Shaped C.prog ∧ i.vars = [] ∧ Input.okWide C.prog (w.forCall tape i) .any w.heap.size f i ∧
      ((s.pre enc C.prog fn conds apart (w.forCall tape i).memory i.args ∧ X (w.forCall tape i).memory i.args) ∧ sizedMet enc C.prog fn (OpenSpec.ofChange s) apart (w.forCall tape i).memory i.args) ∧ a.holds C.prog (lone (Frame.enter C.prog f i.args .normal) [] (w.forCall tape i)))
    (contract : ∀ (W : World) (base : Nat) (args : Array Value) (ds gs : List (DataW H)) (before : List MemPlace),
      (∀ (j : Nat) t v, fn.params[j]? = some t → args[j]? = some v → Value.okWide C.prog W .any base t v) →
      DataW.Whole enc C.prog fn.params.toList s.vars apart W args.toList ds gs before →
      W.ShapedOpen C.prog →
      Calls C.prog f args W fun e W' => ∃ v, e = .returned v ∧ s.post enc C.prog fn apart fresh handsOn again W args v W') :
    ReturnsInHanded a C os f .any (fun w args => (s.pre enc C.prog fn conds apart w args ∧ X w args) ∧ sizedMet enc C.prog fn (OpenSpec.ofChange s) apart w args) (s.post enc C.prog fn apart fresh handsOn again) := by
  refine returnsInHanded_of_calls own started noInit witness ?_
  intro w tape i _ hsh _ hok hpre hholds
  obtain ⟨_, _, _, fn', hfn', _, _, _, _, hval⟩ := hok
  have e : fn' = fn := Option.some.inj (hfn'.symm.trans hfn)
  subst e
  obtain ⟨⟨⟨ds, gs, before, hw, hc⟩, hx⟩, hz⟩ := hpre
  have hw' := DataW.Whole.of_heap (w' := w.forCall tape i) (by rfl) hw
  refine (contract (w.forCall tape i) w.heap.size i.args ds gs before hval hw' hsh).mono fun e W' ⟨v, he, hp⟩ => ?_
  subst he
  exact ChangeSpec.post_blind hp
end Go.Vc
namespace Go.Proofs.YthddcfbjgcbioaaGreatDoor
open Go.RowKit Go.Vc
theorem ml_of_shape {W : World} (h : W.ShapedOpen Tryz.prog) : ML W :=
  cell_of_shapedOpen_int (zero := #[.int .i64 0]) (t := 3) h (by decide +kernel) (by kernel_rfl) rfl (by kernel_rfl) (by kernel_rfl) Tryz.underlying3
end Go.Proofs.YthddcfbjgcbioaaGreatDoor
