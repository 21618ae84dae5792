/-
  Walks: marks of []string, in one form with all others.
-/
import Derived.Test.YtjfhbepnomnalaaW8
import Derived.Test.YtjfhbepnomnalaaHlp
set_option linter.unusedVariables false
namespace Go.Vc
open Go.RowKit
open Rep (rd)
open Own (own)
/-- marks at x's blocks leave what lies elsewhere -/
theorem Still.fresh {α β : Type} [Own α] [Own β] {F : List Nat} {w w' : World} {vs zs : List Value} {x : α} {z : β} {B m B' m' : Nat} (h : Still F w w' vs x) (hF : ∀ b, b ∈ F → B ≤ b ∧ b < m) (hz : Fresh B' m' w zs z) (hd : m' ≤ B ∨ m ≤ B') : Fresh B' m' w' zs z :=
  hz.keep fun b h1 h2 h3 => h.touch.rest b h3 fun hm => by have := hF b hm; omega
theorem Still.args {α β : Type} [Own α] [Rep β] {F : List Nat} {w w' : World} {vs zs : List Value} {x : α} {z : β} {B m C : Nat} (h : Still F w w' vs x) (hF : ∀ b, b ∈ F → B ≤ b ∧ b < m) (hz : Rep.rd (fun b => b < C) w zs z) (hd : C ≤ B) : Rep.rd (fun b => b < C) w' zs z :=
  Rep.frame (fun b h1 h2 => ⟨h.touch.rest b h2 fun hm => by have := hF b hm; omega, h1⟩) hz
theorem Still.rdlt {α : Type} [Own α] {F : List Nat} {w w' : World} {vs : List Value} {x : α} (h : Still F w w' vs x) : Rep.rd (fun b => b < w'.heap.size) w' vs x := Rep.lt h.rd
end Go.Vc
namespace Go.Proofs.Ytjfhbepnomnalaa
open Go.RowKit Go.Vc
open Go.Vc.Rep (rd)
open Go.Vc.Own (own)

abbrev cnt_S (xs : List ByteArray) : Nat := xs.length
theorem cnt_S_le (xs : List ByteArray) : cnt_S xs ≤ 4 * bulk_S xs := by show xs.length ≤ 4 * (xs.length + _); omega
theorem bsum_le {α : Type} {b c : α → Nat} {n : Nat} (h : ∀ x, c x ≤ n * (1 + b x)) : ∀ xs : List α, bsum c xs ≤ n * (xs.length + bsum b xs)
  | [] => by simp [bsum]
  | x :: r => by
    have h1 := bsum_le h r
    have h2 := h x
    rw [bsum_cons, bsum_cons, List.length_cons]
    have : n * (r.length + 1 + (b x + bsum b r)) = n * (1 + b x) + n * (r.length + bsum b r) := by rw [← Nat.mul_add]; congr 1; omega
    omega
theorem own_int {k : Int} (h0 : 0 ≤ k) (h1 : k ≤ 16777216) (w : World) : own [] w [.int .i64 k] k := ⟨rfl, rfl, by unfold I64; omega⟩
abbrev marks_S (k : Int) (xs : List ByteArray) : List ByteArray := marksS k xs.length
theorem marks_S_len (k : Int) (xs : List ByteArray) : (marks_S k xs).length = xs.length := marksS_len _ _
theorem mark_S {F : List Nat} (v : Value) (xs : List ByteArray) (k : Int) (w : World) (hv : own F w [v] xs) (hn : F.Nodup) (hk0 : 0 ≤ k) (hk1 : k + cnt_S xs ≤ 16777216) :
    Calls Try.prog 25 #[v, .int .i64 k] w fun e w' => e = .returned (.int .i64 (k + cnt_S xs)) ∧ Still F w w' [v] (marksS k xs.length) := markStringS_any v xs k w hv hn hk0 hk1
theorem held_S {S : Nat → Prop} (v : Value) (xs : List ByteArray) (k : Int) (w : World) (hv : rd S w [v] (marksS k xs.length)) (hk0 : 0 ≤ k) (hk1 : k + cnt_S xs ≤ 16777216) :
    Calls Try.prog 30 #[v, .int .i64 k] w fun e w' => e = .returned (.int .i64 (k + cnt_S xs)) ∧ Below w.heap.size w w' := heldStringS_any v xs.length k w hv hk0 hk1

end Go.Proofs.Ytjfhbepnomnalaa
