/-
  The laws' helpers, of one shape for every type: what they take of the budget, copies, whether two are one, marks.
-/
import Derived.Test.YtjfhbepnomnalaaW9
namespace Go.Vc
open Go.RowKit
open Rep (rd)
open Own (own)
/-- marks at x's blocks leave what lies elsewhere -/
theorem Still.fresh {α β : Type} [Own α] [Own β] {F : List Nat} {w w' : World} {vs zs : List Value} {x : α} {z : β} {B m B' m' : Nat} (h : Still F w w' vs x) (hF : ∀ b, b ∈ F → B ≤ b ∧ b < m) (hz : Fresh B' m' w zs z) (hd : m' ≤ B ∨ m ≤ B') : Fresh B' m' w' zs z :=
  hz.keep fun b h1 h2 h3 => h.touch.rest b h3 fun hm => by have := hF b hm; omega
theorem Still.args {α β : Type} [Own α] [Rep β] {F : List Nat} {w w' : World} {vs zs : List Value} {x : α} {z : β} {B m C : Nat} (h : Still F w w' vs x) (hF : ∀ b, b ∈ F → B ≤ b ∧ b < m) (hz : Rep.rd (fun b => b < C) w zs z) (hd : C ≤ B) : Rep.rd (fun b => b < C) w' zs z :=
  Rep.frame (fun b h1 h2 => ⟨h.touch.rest b h2 fun hm => by have := hF b hm; omega, h1⟩) hz
theorem Still.rdlt {α : Type} [Own α] {F : List Nat} {w w' : World} {vs : List Value} {x : α} (h : Still F w w' vs x) : Rep.rd (fun b => b < w'.heap.size) w' vs x := Rep.lt h.rd
end Go.Vc
namespace Go.Proofs.Ytjfhbepnomnalaa
open Go.RowKit Go.Vc
open Go.Vc.Rep (rd)
open Go.Vc.Own (own)

abbrev bulk_S (xs : List ByteArray) : Nat := bulkS xs
abbrev cnt_S (xs : List ByteArray) : Nat := xs.length
theorem cnt_S_le (xs : List ByteArray) : cnt_S xs ≤ 4 * bulk_S xs := by show xs.length ≤ 4 * (xs.length + _); omega
theorem sz_S {S : Nat → Prop} (v : Value) (xs : List ByteArray) (l : Int) (w : World) (hv : rd S w [v] xs) (hl0 : 0 ≤ l) (hl1 : l ≤ 1048576) :
    Calls Try.prog 20 #[v, .int .i64 l] w fun e w' => e = .returned (.int .i64 (sub l (bulk_S xs))) ∧ Below w.heap.size w w' :=
  (szStringS_any v xs l w hv hl0 hl1).mono fun _ _ ⟨h, e⟩ => ⟨h, e ▸ Below.refl _ _⟩
theorem to_S {S : Nat → Prop} (v : Value) (xs : List ByteArray) (w : World) (hv : rd S w [v] xs) (hlen : bulk_S xs ≤ 1048576) :
    Calls Try.prog 22 #[v] w fun e w' => ∃ v', e = .returned v' ∧ Fresh w.heap.size w'.heap.size w' [v'] xs ∧ Below w.heap.size w w' :=
  toStringS_any v xs w hv (by have : bulk_S xs = xs.length + bsum ByteArray.size xs := rfl; omega)
theorem eq_S {S T : Nat → Prop} (v u : Value) (xs ys : List ByteArray) (w : World) (hv : rd S w [v] xs) (hu : rd T w [u] ys) :
    Calls Try.prog 24 #[v, u] w fun e w' => e = .returned (.bool (decide (xs = ys))) ∧ Below w.heap.size w w' :=
  (eqStringS_any v u xs ys w hv hu).mono fun _ _ ⟨h, n, e⟩ => ⟨h, e ▸ below_drewN (Below.refl _ _) n⟩
theorem mark_S {F : List Nat} (v : Value) (xs : List ByteArray) (k : Int) (w : World) (hv : own F w [v] xs) (hn : F.Nodup) (hk0 : 0 ≤ k) (hk1 : k + cnt_S xs ≤ 16777216) :
    Calls Try.prog 25 #[v, .int .i64 k] w fun e w' => e = .returned (.int .i64 (k + cnt_S xs)) ∧ Still F w w' [v] (marksS k xs.length) := markStringS_any v xs k w hv hn hk0 hk1
theorem held_S {S : Nat → Prop} (v : Value) (xs : List ByteArray) (k : Int) (w : World) (hv : rd S w [v] (marksS k xs.length)) (hk0 : 0 ≤ k) (hk1 : k + cnt_S xs ≤ 16777216) :
    Calls Try.prog 30 #[v, .int .i64 k] w fun e w' => e = .returned (.int .i64 (k + cnt_S xs)) ∧ Below w.heap.size w w' := heldStringS_any v xs.length k w hv hk0 hk1

abbrev bulk_D (xs : List Delta) : Nat := bulkL bulkD xs
abbrev cnt_D (xs : List Delta) : Nat := bsum countD xs
theorem bsum_le {α : Type} {b c : α → Nat} {n : Nat} (h : ∀ x, c x ≤ n * (1 + b x)) : ∀ xs : List α, bsum c xs ≤ n * (xs.length + bsum b xs)
  | [] => by simp [bsum]
  | x :: r => by
    have h1 := bsum_le h r
    have h2 := h x
    rw [bsum_cons, bsum_cons, List.length_cons]
    have : n * (r.length + 1 + (b x + bsum b r)) = n * (1 + b x) + n * (r.length + bsum b r) := by rw [← Nat.mul_add]; congr 1; omega
    omega
theorem cnt_D_le (xs : List Delta) : cnt_D xs ≤ 4 * bulk_D xs := bsum_le (fun d => by show 2 + d.lines.length ≤ 4 * (1 + (d.lines.length + _)); omega) xs
theorem sz_D {S : Nat → Prop} (v : Value) (xs : List Delta) (l : Int) (w : World) (hv : rd S w [v] xs) (hl0 : 0 ≤ l) (hl1 : l ≤ 1048576) :
    Calls Try.prog 15 #[v, .int .i64 l] w fun e w' => e = .returned (.int .i64 (sub l (bulk_D xs))) ∧ Below w.heap.size w w' := szDeltaS_any v xs l w hv hl0 hl1
theorem to_D {S : Nat → Prop} (v : Value) (xs : List Delta) (w : World) (hv : rd S w [v] xs) (hlen : bulk_D xs ≤ 1048576) :
    Calls Try.prog 17 #[v] w fun e w' => ∃ v', e = .returned v' ∧ Fresh w.heap.size w'.heap.size w' [v'] xs ∧ Below w.heap.size w w' := toDeltaS_any v xs w hv hlen
theorem eq_D {S T : Nat → Prop} (v u : Value) (xs ys : List Delta) (w : World) (hv : rd S w [v] xs) (hu : rd T w [u] ys) :
    Calls Try.prog 19 #[v, u] w fun e w' => e = .returned (.bool (decide (xs = ys))) ∧ Below w.heap.size w w' := eqDeltaS_any v u xs ys w hv hu
theorem mark_D {F : List Nat} (v : Value) (xs : List Delta) (k : Int) (w : World) (hv : own F w [v] xs) (hn : F.Nodup) (hk0 : 0 ≤ k) (hk1 : k + cnt_D xs ≤ 16777216) :
    Calls Try.prog 26 #[v, .int .i64 k] w fun e w' => e = .returned (.int .i64 (k + cnt_D xs)) ∧ Still F w w' [v] (marksL markD countD k xs) := markDeltaS_any v xs k w hv hn hk0 hk1
theorem held_D {S : Nat → Prop} (v : Value) (xs : List Delta) (k : Int) (w : World) (hv : rd S w [v] (marksL markD countD k xs)) (hk0 : 0 ≤ k) (hk1 : k + cnt_D xs ≤ 16777216) :
    Calls Try.prog 27 #[v, .int .i64 k] w fun e w' => e = .returned (.int .i64 (k + cnt_D xs)) ∧ Below w.heap.size w w' := heldDeltaS_any v xs k w hv hk0 hk1
end Go.Proofs.Ytjfhbepnomnalaa
