/-
  Append in a region that draws its order, with named results; literals that are still there. No program is in sight here.
-/
import Derived.Test.YtlpfoekbccbhlaaFS
import Derived.Test.YtlpfoekbccbhlaaLits
set_option linter.unusedVariables false
namespace Go.Vc
open Go.RowKit
open Rep (rd)
open Own (own)
/-- a literal of one string -/
def LitAt (te : TypeId) (w : World) (g : Nat) (s : ByteArray) : Prop := w.heap[g]? = some (.cells #[.string s] te (0, 0))
theorem LitAt.at (te : TypeId) {w : World} {g : Nat} (s : ByteArray) (h : g = w.heap.size) : LitAt te (w.alloc (.cells #[.string s] te)) g s := heap_new_at h
theorem LitAt.alloc {te : TypeId} {w : World} {g : Nat} {s : ByteArray} (h : LitAt te w g s) (o : Obj) : LitAt te (w.alloc o) g s :=
  (Below.heap_alloc w o g (Array.getElem?_eq_some_iff.1 h).1).trans h
theorem LitAt.drew {te : TypeId} {w : World} {g : Nat} {s : ByteArray} (h : LitAt te w g s) : LitAt te w.drew g s := h
theorem LitAt.slice {te : TypeId} {w : World} {g : Nat} {s : ByteArray} (h : LitAt te w g s) (hz : s.size ≤ maxLen) : IsSlice (fun _ => True) w (some ⟨g, 0, none⟩) 1 [s] :=
  (lit_strs [s] h (fun u hu => by rw [List.mem_singleton.1 hu]; exact hz) (by unfold maxLen; simp)).mono fun _ _ => trivial
theorem LitAt.rest {te : TypeId} {w w' : World} {g n : Nat} {s : ByteArray} {S : Nat → Prop} (hr : ∀ b, b < n → ¬ S b → w'.heap[b]? = w.heap[b]?) (hn : g < n) (hS : ¬ S g) (h : LitAt te w g s) : LitAt te w' g s :=
  (hr g hn hS).trans h
section
variable {P : Program} {w : World} {α : Type} [Own α] [Tid α] {S : Nat → Prop} {xs : List α} {ops : Array Oper} {o : Oper} {a : Act} {Q : Exit → Act → World → Prop} {K : Act → World → Prop} {E : Prop}
theorem step_app_named [Leaf α] {t : TypeId} {bytes : Nat} (T : SlT P t α bytes) (hg : o.guard = none) (s x : Operand) (hop : o.op = Op.call { callee := Callee.builtin Builtin.append, args := #[s, x], argTypes := #[t, t] })
    {v : Value} (hs : a.eval s = v) (h : FS S w [v] xs) {R : Nat → Prop} {ad : Option Addr} {n c : Nat} {ys : List α} (hx : a.eval x = .slice ad n c) (hn : n = ys.length) (hy : IsSlice R w ad c ys) (hbytes : (xs.length + ys.length) * bytes ≤ 140737488355328) (h63 : xs.length + ys.length ≤ maxLen)
    (hK : ∀ (a' : Option Addr) (c' m n : Nat) (X : List α) (w' : World), Hid (X = xs ++ ys) → X.length ≤ xs.length + ys.length → n ≤ w.heap.size → w.heap.size ≤ n → n ≤ w'.heap.size → FS (fun b => S b ∨ (n ≤ b ∧ b < w'.heap.size)) w' [.slice a' m c'] X →
      (∀ b, b < n → ¬ S b → w'.heap[b]? = w.heap[b]?) → (∀ B, B ≤ n → (∀ b, S b → b < n → B ≤ b) → Below B w w') → K (a.put o.dst (.slice a' m c')) w') :
    if Region.wanted o (yielded ops a.tmps) = true then Oper.wp P o a w K Q else E :=
  step_app_leafS T hg s x hop hs h hx hn hy hbytes h63 fun a' c' w' hG => by
    refine hK a' c' _ w.heap.size (xs ++ ys) w' rfl (by simp) (Nat.le_refl _) (Nat.le_refl _) hG.size ?_ hG.rest hG.below
    exact hG.fs.mono fun b hb hl => by
      rcases hb with hb | hb
      · exact .inl hb
      · exact .inr ⟨hb, hl⟩
/-- the same where orders are not drawn, and one block g is older than N -/
theorem wpList_app_sb {rest : List Oper} [Leaf α] {t : TypeId} {bytes : Nat} (T : SlT P t α bytes) (hgd : o.guard = none) (s x : Operand) (ho : o.op = .call { callee := .builtin .append, args := #[s, x], argTypes := #[t, t] })
    {g N B : Nat} {v : Value} (hs : a.eval s = v) (h : FS (fun b => b = g ∨ N ≤ b) w [v] xs) (hN : N ≤ w.heap.size) (hBg : B ≤ g) (hBN : B ≤ N) {R : Nat → Prop} {ad : Option Addr} {n c : Nat} {ys : List α} (hx : a.eval x = .slice ad n c) (hn : n = ys.length) (hy : IsSlice R w ad c ys) (hbytes : (xs.length + ys.length) * bytes ≤ 140737488355328) (h63 : xs.length + ys.length ≤ maxLen)
    (k : ∀ (a' : Option Addr) (c' m : Nat) (X : List α) (w' : World), Hid (X = xs ++ ys) → X.length ≤ xs.length + ys.length → w.heap.size ≤ w'.heap.size → FS (fun b => b = g ∨ N ≤ b) w' [.slice a' m c'] X → (∀ b, b < N → b ≠ g → w'.heap[b]? = w.heap[b]?) → Below B w w' → wpList P ops Q rest (a.put o.dst (.slice a' m c')) w') : wpList P ops Q (o :: rest) a w :=
  wpList_app_leafS T hgd s x ho hs h hx hn hy hbytes h63 fun a' c' w' hG => by
    refine k a' c' _ (xs ++ ys) w' rfl (by simp) hG.size ?_ (fun b hb hg => hG.rest b (by omega) (fun h => by rcases h with h | h; exact hg h; omega)) (hG.below B (by omega) (fun b hb _ => by rcases hb with h | h <;> omega))
    exact hG.fs.mono fun b hb hl => by
      rcases hb with hb | hb
      · exact hb
      · exact .inr (by omega)
theorem cell_rest {g N : Nat} {w' : World} (hr : ∀ b, b < N → b ≠ g → w'.heap[b]? = w.heap[b]?) {p : Addr} {u : Value} (h : w.cell? p = some u) (h1 : p.block < N) (h2 : p.block ≠ g) : w'.cell? p = some u :=
  (World.cell?_of_block (hr p.block h1 h2)).trans h
end
end Go.Vc
