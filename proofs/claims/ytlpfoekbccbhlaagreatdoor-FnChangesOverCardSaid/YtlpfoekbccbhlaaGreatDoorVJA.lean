/-
  Walks: what a tree has at a path, and what two sides made of it. / Walks: what two sides made of a file.
-/
import Derived.Test.YtlpfoekbccbhlaaGreatDoorVGR
import Derived.Test.YtlpfoekbccbhlaaGreatDoorVSM
import Derived.Test.YtlpfoekbccbhlaaGreatDoorVG
import Derived.Test.YtlpfoekbccbhlaaGreatDoorVPJ
set_option linter.unusedVariables false
namespace Go
/-- a result in a box -/
theorem results_row {P : Program} {fn : Func} {p : Tmp} {ty : TypeId} (h : fn.results = #[.cell p ty]) (tmps : Array Value) (w : World) (g : Nat) (t : TypeId) (cs : Array Value) (fr : Nat × Nat) (d : TypeDesc)
    (hp : tmps.getD p undef = .pointer (some ⟨g, 0, none⟩)) (hg : w.heap[g]? = some (.cells cs t fr))
    (hu : P.underlying ty = some d) (hd : (match d with | .struct _ | .array _ _ => true | _ => false) = true) (hi : (P.info? ty).map (·.size) = some cs.size) :
    (results fn tmps).run P w = .ok (.agg cs) w := by
  have hp' : tmps[p]?.getD undef = .pointer (some ⟨g, 0, none⟩) := by simpa using hp
  simp [results, h, hp', asAddr, run_loadVar_row w g t ty cs fr d hg hu hd hi]
/-- a result in a box, and one in a variable -/
theorem results_row_tmp {P : Program} {fn : Func} {u p : Tmp} {ty : TypeId} (h : fn.results = #[.cell p ty, .tmp u]) (tmps : Array Value) (w : World) (g : Nat) (t : TypeId) (cs : Array Value) (fr : Nat × Nat) (d : TypeDesc)
    (hp : tmps.getD p undef = .pointer (some ⟨g, 0, none⟩)) (hg : w.heap[g]? = some (.cells cs t fr))
    (hu : P.underlying ty = some d) (hd : (match d with | .struct _ | .array _ _ => true | _ => false) = true) (hi : (P.info? ty).map (·.size) = some cs.size) :
    (results fn tmps).run P w = .ok (.tuple #[.agg cs, tmps.getD u undef]) w := by
  have hp' : tmps[p]?.getD undef = .pointer (some ⟨g, 0, none⟩) := by simpa using hp
  simp [results, h, hp', asAddr, run_loadVar_row w g t ty cs fr d hg hu hd hi]
end Go
namespace Go.Vc
open Go.RowKit
open Rep (rd)
open Own (own)
theorem opt_same (M1 M2 : Option (List ByteArray)) : (M1.isSome == M2.isSome && decide (M1.getD [] = M2.getD [])) = decide (M1 = M2) := by
  cases M1 <;> cases M2 <;> simp
theorem opt_same_t {M1 M2 : Option (List ByteArray)} (h : M1.isSome = M2.isSome) : decide (M1.getD [] = M2.getD []) = decide (M1 = M2) := by
  rw [← opt_same, h]; simp
theorem opt_same_f {M1 M2 : Option (List ByteArray)} (h : ¬ M1.isSome = M2.isSome) : decide (M1 = M2) = false := decide_eq_false fun e => h (by rw [e])
end Go.Vc
namespace Go.Proofs.YtlpfoekbccbhlaaGreatDoor
open Go.RowKit Go.Vc
open Go.Vc.Rep (rd)
open Go.Vc.Own (own)

end Go.Proofs.YtlpfoekbccbhlaaGreatDoor
namespace Go.Vc
open Go.RowKit
open Rep (rd)
open Own (own)
theorem one_1 {O A Q : Option (List ByteArray)} (h : A = O) : joinOne O A Q = (Q, 0) := by unfold joinOne; rw [if_pos (.inl h)]
theorem one_2 {O A Q : Option (List ByteArray)} (h : A = Q) : joinOne O A Q = (Q, 0) := by unfold joinOne; rw [if_pos (.inr h)]
theorem one_3 {O A Q : Option (List ByteArray)} (h1 : ¬ A = O) (h2 : ¬ A = Q) (h : Q = O) : joinOne O A Q = (A, 0) := by unfold joinOne; rw [if_neg (fun e => e.elim h1 h2), if_pos h]
theorem one_4 {O A Q : Option (List ByteArray)} (h1 : ¬ A = O) (h2 : ¬ A = Q) (h3 : ¬ Q = O) (h : A.isSome = false ∨ Q.isSome = false) : joinOne O A Q = (O, 1) := by
  unfold joinOne
  rw [if_neg (fun e => e.elim h1 h2), if_neg h3, if_pos]
  rcases h with h | h
  · exact .inl (by cases A with | none => rfl | some _ => cases h)
  · exact .inr (by cases Q with | none => rfl | some _ => cases h)
theorem one_5 {O A Q : Option (List ByteArray)} (h1 : ¬ A = O) (h2 : ¬ A = Q) (h3 : ¬ Q = O) (h4 : A.isSome = true) (h5 : Q.isSome = true) (h : O.isSome = false) : joinOne O A Q = (O, 2) := by
  unfold joinOne
  rw [if_neg (fun e => e.elim h1 h2), if_neg h3, if_neg]
  · cases O with
    | none => rw [if_pos rfl]
    | some _ => cases h
  · rintro (rfl | rfl)
    · cases h4
    · cases h5
theorem one_6 {O A Q : Option (List ByteArray)} (h1 : ¬ A = O) (h2 : ¬ A = Q) (h3 : ¬ Q = O) (h4 : A.isSome = true) (h5 : Q.isSome = true) (h6 : O.isSome = true) :
    joinOne O A Q = if (mText (O.getD []) (A.getD []) (Q.getD [])).2 = true then (some (mText (O.getD []) (A.getD []) (Q.getD [])).1, 0) else (O, 3) := by
  conv => lhs; unfold joinOne
  rw [if_neg (fun e => e.elim h1 h2), if_neg h3, if_neg, if_neg]
  · rintro rfl; cases h6
  · rintro (rfl | rfl)
    · cases h4
    · cases h5
end Go.Vc
namespace Go.Proofs.YtlpfoekbccbhlaaGreatDoor
open Go.RowKit Go.Vc
open Go.Vc.Rep (rd)
open Go.Vc.Own (own)
end Go.Proofs.YtlpfoekbccbhlaaGreatDoor
