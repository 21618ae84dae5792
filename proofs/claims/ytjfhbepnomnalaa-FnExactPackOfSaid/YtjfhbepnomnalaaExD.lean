/-
  The laws' helpers on []Delta, in one form with all others.
-/
import Derived.Test.YtjfhbepnomnalaaW9
set_option linter.unusedVariables false
namespace Go.Proofs.Ytjfhbepnomnalaa
open Go.RowKit Go.Vc
open Go.Vc.Rep (rd)
open Go.Vc.Own (own)

abbrev marks_D (k : Int) (xs : List Delta) : List Delta := marksL markD countD k xs
theorem marks_D_len (k : Int) (xs : List Delta) : (marks_D k xs).length = xs.length := marksL_len _ _ _ _
abbrev bulk_D (xs : List Delta) : Nat := bulkL bulkD xs
abbrev cnt_D (xs : List Delta) : Nat := bsum countD xs
theorem cnt_D_le (xs : List Delta) : cnt_D xs ≤ 4 * bulk_D xs := bsum_le (fun d => by show 2 + d.lines.length ≤ 4 * (1 + (d.lines.length + _)); omega) xs
theorem sz_D {S : Nat → Prop} (v : Value) (xs : List Delta) (l : Int) (w : World) (hv : rd S w [v] xs) (hl0 : 0 ≤ l) (hl1 : l ≤ 1048576) :
    Calls Try.prog 15 #[v, .int .i64 l] w fun e w' => e = .returned (.int .i64 (sub l (bulk_D xs))) ∧ Below w.heap.size w w' := szDeltaS_any v xs l w hv hl0 hl1
theorem to_D {S : Nat → Prop} (v : Value) (xs : List Delta) (w : World) (hv : rd S w [v] xs) (hlen : bulk_D xs ≤ 1048576) :
    Calls Try.prog 17 #[v] w fun e w' => ∃ v', e = .returned v' ∧ Fresh w.heap.size w'.heap.size w' [v'] xs ∧ Below w.heap.size w w' := toDeltaS_any v xs w hv hlen
theorem eq_D {S T : Nat → Prop} (v u : Value) (xs ys : List Delta) (w : World) (hv : rd S w [v] xs) (hu : rd T w [u] ys) :
    Calls Try.prog 19 #[v, u] w fun e w' => e = .returned (.bool (decide (xs = ys))) ∧ Below w.heap.size w w' := eqDeltaS_any v u xs ys w hv hu
theorem mark_D {F : List Nat} (v : Value) (xs : List Delta) (k : Int) (w : World) (hv : own F w [v] xs) (hn : F.Nodup) (hk0 : 0 ≤ k) (hk1 : k + cnt_D xs ≤ 16777216) :
    Calls Try.prog 26 #[v, .int .i64 k] w fun e w' => e = .returned (.int .i64 (k + cnt_D xs)) ∧ Still F w w' [v] (marksL markD countD k xs) := markDeltaS_any v xs k w hv hn hk0 hk1
theorem held_D {S : Nat → Prop} (v : Value) (xs : List Delta) (k : Int) (w : World) (hv : rd S w [v] (marksL markD countD k xs)) (hk0 : 0 ≤ k) (hk1 : k + cnt_D xs ≤ 16777216) :
    Calls Try.prog 27 #[v, .int .i64 k] w fun e w' => e = .returned (.int .i64 (k + cnt_D xs)) ∧ Below w.heap.size w w' := heldDeltaS_any v xs k w hv hk0 hk1
end Go.Proofs.Ytjfhbepnomnalaa
