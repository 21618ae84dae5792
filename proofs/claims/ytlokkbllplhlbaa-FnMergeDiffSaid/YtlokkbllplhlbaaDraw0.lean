/-
  What a drawing function reads from, and what it leaves behind. No program is in sight here.
-/
import Derived.Test.YtlokkbllplhlbaaMark
namespace Go.Vc
open Go.RowKit
open Rep (rd)
open Own (own)

/-- the reader in block rb: bytes that lie below it, and how many have been read -/
def RdOk (w : World) (rb N : Nat) : Prop :=
  ∃ (a : Option Addr) (cap p : Nat) (bs : List UInt8) (e : TypeId), w.heap[rb]? = some (.cells #[.slice a bs.length cap, .int .i64 p] e (0, 0)) ∧ p ≤ N ∧ IsSlice (fun b => b < rb) w a cap bs ∧ bs.length ≤ 2000
theorem RdOk.lt {w : World} {rb N : Nat} (h : RdOk w rb N) : rb < w.heap.size := by
  obtain ⟨_, _, _, _, _, hh, _⟩ := h
  exact (Array.getElem?_eq_some_iff.1 hh).1
theorem RdOk.mono {w : World} {rb N N' : Nat} (h : RdOk w rb N) (hN : N ≤ N') : RdOk w rb N' := by
  obtain ⟨a, cap, p, bs, e, hh, hp, r⟩ := h
  exact ⟨a, cap, p, bs, e, hh, by omega, r⟩
theorem RdOk.keep {w w' : World} {rb N : Nat} (h : RdOk w rb N) (hf : ∀ b, b ≤ rb → w'.heap[b]? = w.heap[b]?) : RdOk w' rb N := by
  obtain ⟨a, cap, p, bs, e, hh, hp, hs, hl⟩ := h
  exact ⟨a, cap, p, bs, e, (hf rb (Nat.le_refl _)).trans hh, hp, hs.frame fun b hb _ => ⟨hf b (by omega), hb⟩, hl⟩
theorem RdOk.below {w w' : World} {rb N B : Nat} (h : RdOk w rb N) (hB : rb < B) (hb : Below B w w') : RdOk w' rb N := h.keep fun b hl => hb.block b (by omega)
theorem RdOk.alloc {w : World} {rb N : Nat} (h : RdOk w rb N) (o : Obj) : RdOk (w.alloc o) rb N := h.keep fun b hl => Below.heap_alloc w o b (by have := h.lt; omega)

/-- w' is w with more memory; of what was there the reader alone may have changed -/
abbrev Drew (rb : Nat) (w w' : World) : Prop := TouchF [rb] w w'
theorem Drew.refl (rb : Nat) (w : World) : Drew rb w w := TouchF.refl _ _
theorem Drew.tr {rb : Nat} {a b c : World} (h : Drew rb a b) (k : Drew rb b c) : Drew rb a c := TouchF.trans h k fun _ hx => .inl hx
theorem Drew.below {rb : Nat} {a b c : World} (h : Drew rb a b) (k : Below b.heap.size b c) : Drew rb a c := TouchF.trans h (TouchF.of_below (F := []) k) fun _ hx => by cases hx
theorem Drew.belowB {rb B : Nat} {a b c : World} (h : Drew rb a b) (k : Below B b c) (hB : a.heap.size ≤ B) : Drew rb a c :=
  ⟨k.os.trans h.os, k.tape.trans h.tape, k.output.trans h.output, Nat.le_trans h.size k.size, fun x hx hxF => (k.block x (by omega)).trans (h.rest x hx hxF)⟩
theorem Drew.of {rb : Nat} {a b : World} (k : Below a.heap.size a b) : Drew rb a b := TouchF.of_below k
section
variable {α : Type} {rb : Nat} {w w' : World} {vs : List Value} {x : α}
theorem Drew.fresh [Own α] {B m : Nat} (h : Drew rb w w') (hz : Fresh B m w vs x) (hd : rb < B ∨ m ≤ rb) : Fresh B m w' vs x :=
  hz.keep fun b h1 h2 h3 => h.rest b h3 (by simp; omega)
theorem Drew.rdS [Rep α] {S : Nat → Prop} (h : Drew rb w w') (hz : rd S w vs x) (hd : ∀ b, S b → b ≠ rb) : rd S w' vs x :=
  Rep.frame (fun b h1 h2 => ⟨h.rest b h2 (by simpa using hd b h1), h1⟩) hz
theorem Drew.slice [Rep α] {S : Nat → Prop} {a : Option Addr} {cap : Nat} {xs : List α} (h : Drew rb w w') (hz : IsSlice S w a cap xs) (hd : ∀ b, S b → b ≠ rb) : IsSlice S w' a cap xs :=
  hz.frame fun b h1 h2 => ⟨h.rest b h2 (by simpa using hd b h1), h1⟩
/-- nothing below the reader has changed -/
theorem Drew.under (h : Drew rb w w') (hrb : rb < w.heap.size) : Below rb w w' := ⟨h.os, h.tape, h.output, h.size, fun k hk => h.rest k (by omega) (by simp; omega)⟩
theorem Drew.low {B : Nat} (h : Drew rb w w') (hB : B ≤ rb) (hrb : rb < w.heap.size) : Below B w w' := (h.under hrb).mono hB
end
end Go.Vc
