/-
  The vocabulary of these proofs: what a value in memory reads as ('Rep'), a slice that the call itself made and appends to ('Own'), and the laws that carry both over what a call does to memory. No program is in sight here.
-/
import Derived.WalkKit
import Derived.WalkSpells
import Derived.WalkLawsBesides
import Derived.Lib.Hide
import Derived.BigQuiet
import Derived.Deep.LoopGhost
import Derived.Deep.DeepCutAuto
import Derived.StillTailTactics
import Derived.Deep.DeepMust
import Derived.Deep.DeepFit
namespace Go.Vc
open Go.RowKit

/-- what 'Below' says of all old cells, as the walk uses it -/
theorem bcell {W w1 : World} (hb : Below W.heap.size W w1) : (∀ b o, b < W.heap.size → w1.cell? ⟨b, o, none⟩ = W.cell? ⟨b, o, none⟩) ∧ (∀ b o, b < W.heap.size → w1.frozen? ⟨b, o, none⟩ = W.frozen? ⟨b, o, none⟩) :=
  ⟨fun b o h => hb.cell (p := ⟨b, o, none⟩) h, fun b o h => hb.frozen (p := ⟨b, o, none⟩) h⟩

/-- '==' on strings, as the walk writes it -/
theorem toList_inj {a b : ByteArray} (h : a.toList = b.toList) : a = b := by
  rw [ByteArray.toList_eq, ByteArray.toList_eq] at h
  cases a; cases b
  simp only [ByteArray.mk.injEq]
  exact Array.ext' h
@[go_sem] theorem toList_beq (a b : ByteArray) : (a.toList == b.toList) = decide (a = b) := by
  by_cases h : a = b
  · simp [h]
  · rw [decide_eq_false h]
    apply beq_eq_false_iff_ne.2
    exact fun e => h (toList_inj e)
theorem drew_any {w : World} {a b : Nat} : ∃ n, (w.drewN a).drewN b = w.drewN n := ⟨_, World.drewN_drewN _ _ _⟩

/-- the worlds that are w, with more memory -/
def BW (w : World) : Type := { w' : World // Below w.heap.size w w' }
def BW.w {w : World} (n : BW w) : World := n.1
instance (w : World) : Nonempty (BW w) := ⟨⟨w, Below.refl _ _⟩⟩
theorem BW.below {w : World} (n : BW w) : Below w.heap.size w n.w := n.2
theorem BW.cell {w : World} {p : Addr} {v : Value} (h : w.cell? p = some v) (n : BW w) : n.w.cell? p = some v := by
  rw [n.below.cell (p := p) (World.block_lt_of_cell? w p h)]; exact h
theorem keepc {w w' : World} {p : Addr} {v : Value} (h : w.cell? p = some v) (hb : Below w.heap.size w w') : w'.cell? p = some v := BW.cell h ⟨w', hb⟩
theorem BW.next {w w1 : World} {p : Addr} {v : Value} (h : ∀ n : BW w, n.w.cell? p = some v) (hb : Below w.heap.size w w1) : ∀ n : BW w1, n.w.cell? p = some v :=
  BW.cell (h ⟨w1, hb⟩)
/-- a region that draws its order, whose operations read what was there, and whose callees write nothing that was there and answer the same whatever else there is -/
theorem wp_region_bw {P : Program} {id : Nat} {Q : Exit → Act → World → Prop} {a : Act} {w : World} {l : List Oper} (hm : P.follows .mixedOrders = true) (hB : Region.lexB .any l.toArray = true)
    (h : wpQuiet P l.toArray (fun w' => ∃ n : BW w, w' = n.w) (fun a' => ∀ w', (∃ n : BW w, w' = n.w) → Q .normal a' w') l a) : (Code.region id l.toArray true).wp P Q a w :=
  wp_region_quiet (C := fun w' => ∃ n : BW w, w' = n.w) hm hB ⟨⟨w.drew, (Below.refl _ _).drew⟩, rfl⟩ (by simpa using h)
/-- a callee's contract in such a region -/
theorem Calls.bw {P : Program} {f : FuncId} {args : Array Value} {w : World} {n : BW w} {v : Value} (h : Calls P f args n.w fun e w' => e = .returned v ∧ Below n.w.heap.size n.w w') :
    Calls P f args n.w fun e w'' => e = .returned v ∧ ∃ m : BW w, w'' = m.w :=
  h.mono fun _ w'' ⟨he, hb⟩ => ⟨he, ⟨w'', n.below.trans (hb.mono n.below.size)⟩, rfl⟩
theorem Calls.bw_same {P : Program} {f : FuncId} {args : Array Value} {w : World} {n : BW w} {v : Value} (h : Calls P f args n.w fun e w' => e = .returned v ∧ n.w = w') :
    Calls P f args n.w fun e w'' => e = .returned v ∧ ∃ m : BW w, w'' = m.w :=
  h.mono fun _ _ ⟨he, hb⟩ => ⟨he, n, hb.symm⟩
theorem Calls.bw_drew {P : Program} {f : FuncId} {args : Array Value} {w : World} {n : BW w} {v : Value} (h : Calls P f args n.w fun e w' => e = .returned v ∧ ∃ k, w' = n.w.drewN k) :
    Calls P f args n.w fun e w'' => e = .returned v ∧ ∃ m : BW w, w'' = m.w :=
  h.mono fun _ _ ⟨he, k, hb⟩ => ⟨he, ⟨n.w.drewN k, below_drewN n.below k⟩, hb⟩

/-- an int's range, behind a name -/
def I64 (n : Int) : Prop := -9223372036854775808 ≤ n ∧ n ≤ 9223372036854775807

theorem le_alloc {B : Nat} {w : World} (h : B ≤ w.heap.size) (o : Obj) : B ≤ (w.alloc o).heap.size := by simp; omega
theorem heap_new_at {w : World} {o : Obj} {n : Nat} (h : n = w.heap.size) : (w.alloc o).heap[n]? = some o := by rw [h]; show (w.heap.push o)[w.heap.size]? = some o; simp
theorem i64_nat {n : Nat} (h : n ≤ 1048576) : I64 (n : Int) := by unfold I64; omega

/-- 'vs' are the cells of a value of type α that reads as x; all blocks that the reading meets satisfy S. -/
class Rep (α : Type) where
  sz : Nat
  rd : (Nat → Prop) → World → List Value → α → Prop
  len : ∀ {S : Nat → Prop} {w : World} {vs : List Value} {x : α}, rd S w vs x → vs.length = sz
  one : ∀ {S : Nat → Prop} {w : World} {vs : List Value} {x : α}, rd S w vs x → ∀ u ∈ vs, u.oneCell' = true
  frame : ∀ {S S' : Nat → Prop} {w w' : World} {vs : List Value} {x : α}, (∀ b, S b → b < w.heap.size → w'.heap[b]? = w.heap[b]? ∧ S' b) → rd S w vs x → rd S' w' vs x

open Rep (rd)

section
variable {α : Type} [Rep α] {S S' : Nat → Prop} {w w' : World} {vs : List Value} {x : α}
theorem Rep.mono (h : ∀ b, S b → S' b) (r : rd S w vs x) : rd S' w vs x := Rep.frame (fun b hb _ => ⟨rfl, h b hb⟩) r
theorem Rep.bound (r : rd S w vs x) : rd (fun b => S b ∧ b < w.heap.size) w vs x := Rep.frame (fun _ hb hl => ⟨rfl, hb, hl⟩) r
theorem Rep.lt (r : rd S w vs x) : rd (fun b => b < w.heap.size) w vs x := Rep.frame (fun _ _ hl => ⟨rfl, hl⟩) r
theorem Rep.below {B : Nat} (r : rd S w vs x) (hB : w.heap.size ≤ B) (h : Below B w w') : rd S w' vs x :=
  Rep.frame (fun b hb hl => ⟨h.block b (by omega), hb⟩) r
theorem Rep.belowS {B : Nat} (r : rd S w vs x) (hB : ∀ b, S b → b < w.heap.size → b < B) (h : Below B w w') : rd S w' vs x :=
  Rep.frame (fun b hb hl => ⟨h.block b (hB b hb hl), hb⟩) r
theorem Rep.keep {B : Nat} (r : rd (fun b => b < B) w vs x) (h : Below B w w') : rd (fun b => b < B) w' vs x :=
  Rep.frame (fun b hb _ => ⟨h.block b hb, hb⟩) r
theorem Rep.grown {row : Option Nat} (r : rd S w vs x) (hg : w.grownBy w' row) (hne : ∀ b, S b → b < w.heap.size → some b ≠ row) : rd S w' vs x :=
  Rep.frame (fun b hb hl => ⟨hg.block b hl (hne b hb hl), hb⟩) r
theorem Rep.alloc (r : rd S w vs x) (o : Obj) : rd S (w.alloc o) vs x :=
  Rep.frame (fun b hb hl => ⟨Below.heap_alloc w o b hl, hb⟩) r
theorem Rep.setCell {a : Addr} {u : Value} (r : rd S w vs x) (hne : ¬ S a.block) : rd S (w.setCell a u) vs x :=
  Rep.frame (fun b hb _ => ⟨Below.heap_setCell w a u b (fun e => hne (e ▸ hb)), hb⟩) r
theorem Rep.drew (r : rd S w vs x) : rd S w.drew vs x := Rep.frame (w := w) (fun _ hb _ => ⟨rfl, hb⟩) r
theorem Rep.drewN (r : rd S w vs x) (n : Nat) : rd S (w.drewN n) vs x := Rep.frame (w := w) (fun _ hb _ => ⟨rfl, hb⟩) r
end

instance repInt : Rep Int where
  sz := 1
  rd := fun _ _ vs n => vs = [.int .i64 n] ∧ I64 n
  len := fun ⟨h, _⟩ => by rw [h]; rfl
  one := fun ⟨h, _⟩ => by rw [h]; intro u hu; simp at hu; rw [hu]; rfl
  frame := fun _ h => h

instance repBool : Rep Bool where
  sz := 1
  rd := fun _ _ vs n => vs = [.bool n]
  len := fun h => by rw [h]; rfl
  one := fun h => by rw [h]; intro u hu; simp at hu; rw [hu]; rfl
  frame := fun _ h => h

instance repStr : Rep ByteArray where
  sz := 1
  rd := fun _ _ vs s => vs = [.string s] ∧ s.size ≤ maxLen
  len := fun ⟨h, _⟩ => by rw [h]; rfl
  one := fun ⟨h, _⟩ => by rw [h]; intro u hu; simp at hu; rw [hu]; rfl
  frame := fun _ h => h

/-- a byte, in a []byte -/
instance repByte : Rep UInt8 where
  sz := 1
  rd := fun _ _ vs b => vs = [.int .u8 b.toNat]
  len := fun h => by rw [h]; rfl
  one := fun h => by rw [h]; intro u hu; simp at hu; rw [hu]; rfl
  frame := fun _ h => h

/-- the cells of element i of a slice that begins at a -/
def ElemAt {α : Type} [Rep α] (S : Nat → Prop) (w : World) (a : Option Addr) (i : Nat) (x : α) : Prop :=
  ∃ g off us, a = some ⟨g, off, none⟩ ∧ S g ∧ (∀ j u, us[j]? = some u → w.cell? ⟨g, off + i * Rep.sz α + j, none⟩ = some u) ∧ rd S w us x ∧ 0 < Rep.sz α

theorem ElemAt.frame {α : Type} [Rep α] {S S' : Nat → Prop} {w w' : World} {a : Option Addr} {i : Nat} {x : α}
    (h : ∀ b, S b → b < w.heap.size → w'.heap[b]? = w.heap[b]? ∧ S' b) (r : ElemAt S w a i x) : ElemAt S' w' a i x := by
  obtain ⟨g, off, us, ha, hg, hc, hr, hz⟩ := r
  have hlen := Rep.len hr
  have hlt : g < w.heap.size := by
    have h0 : 0 < us.length := by omega
    have := hc 0 us[0] (List.getElem?_eq_getElem h0)
    exact World.block_lt_of_cell? w _ this
  refine ⟨g, off, us, ha, (h g hg hlt).2, fun j u hu => ?_, Rep.frame h hr, hz⟩
  rw [← hc j u hu]
  exact World.cell?_of_block (w := w) (h g hg hlt).1

/-- a slice that reads as xs -/
def IsSlice {α : Type} [Rep α] (S : Nat → Prop) (w : World) (a : Option Addr) (cap : Nat) (xs : List α) : Prop :=
  xs.length ≤ cap ∧ cap ≤ maxLen ∧ ∀ i (h : i < xs.length), ElemAt S w a i xs[i]

theorem IsSlice.frame {α : Type} [Rep α] {S S' : Nat → Prop} {w w' : World} {a : Option Addr} {cap : Nat} {xs : List α}
    (h : ∀ b, S b → b < w.heap.size → w'.heap[b]? = w.heap[b]? ∧ S' b) (r : IsSlice S w a cap xs) : IsSlice S' w' a cap xs :=
  ⟨r.1, r.2.1, fun i hi => (r.2.2 i hi).frame h⟩

instance repList {α : Type} [Rep α] : Rep (List α) where
  sz := 1
  rd := fun S w vs xs => ∃ a cap, vs = [.slice a xs.length cap] ∧ IsSlice S w a cap xs
  len := fun ⟨_, _, h, _⟩ => by rw [h]; rfl
  one := fun ⟨_, _, h, _⟩ => by rw [h]; intro u hu; simp at hu; rw [hu]; rfl
  frame := fun h ⟨a, cap, hv, hs⟩ => ⟨a, cap, hv, hs.frame h⟩

section
variable {α : Type} [Rep α] {S S' : Nat → Prop} {w w' : World} {v : Value} {xs : List α}
theorem rd_slice {a : Option Addr} {cap : Nat} (h : IsSlice S w a cap xs) : rd S w [.slice a xs.length cap] xs := ⟨a, cap, rfl, h⟩
theorem rd_slice_nil (S : Nat → Prop) (w : World) : rd S w [.slice none 0 0] ([] : List α) := ⟨none, 0, rfl, Nat.le_refl _, by simp, fun i h => absurd h (by simp)⟩
theorem rd_slice_elim (h : rd S w [v] xs) : ∃ a cap, v = .slice a xs.length cap ∧ IsSlice S w a cap xs := by
  obtain ⟨a, cap, hv, hs⟩ := h
  simp at hv
  exact ⟨a, cap, hv, hs⟩
theorem IsSlice.rd {a : Option Addr} {cap : Nat} (h : IsSlice S w a cap xs) : rd S w [.slice a xs.length cap] xs := ⟨a, cap, rfl, h⟩
theorem rd_slice_of {a : Option Addr} {n cap : Nat} (h : rd S w [.slice a n cap] xs) : n = xs.length ∧ IsSlice S w a cap xs := by
  obtain ⟨a', cap', hv, hs⟩ := h
  simp at hv
  obtain ⟨rfl, rfl, rfl⟩ := hv
  exact ⟨rfl, hs⟩
theorem IsSlice.le {a : Option Addr} {cap : Nat} (h : IsSlice S w a cap xs) : xs.length ≤ 9223372036854775807 := by
  have h1 := h.1; have h2 := h.2.1; unfold maxLen at h2; omega
theorem IsSlice.keep {a : Option Addr} {cap B : Nat} (h : IsSlice (fun b => b < B) w a cap xs) (hb : Below B w w') : IsSlice (fun b => b < B) w' a cap xs :=
  h.frame fun b hl _ => ⟨hb.block b hl, hl⟩
theorem IsSlice.below {a : Option Addr} {cap B : Nat} (h : IsSlice S w a cap xs) (hB : w.heap.size ≤ B) (hb : Below B w w') : IsSlice S w' a cap xs :=
  h.frame fun b hs hl => ⟨hb.block b (by omega), hs⟩
theorem IsSlice.alloc {a : Option Addr} {cap : Nat} (h : IsSlice S w a cap xs) (o : Obj) : IsSlice S (w.alloc o) a cap xs := h.frame fun b hs hl => ⟨Below.heap_alloc w o b hl, hs⟩
theorem IsSlice.drew {a : Option Addr} {cap : Nat} (h : IsSlice S w a cap xs) : IsSlice S w.drew a cap xs := IsSlice.frame (w := w) (fun _ hs _ => ⟨rfl, hs⟩) h
theorem IsSlice.drewN {a : Option Addr} {cap : Nat} (h : IsSlice S w a cap xs) (n : Nat) : IsSlice S (w.drewN n) a cap xs := IsSlice.frame (w := w) (fun _ hs _ => ⟨rfl, hs⟩) h
theorem IsSlice.setCell {a : Option Addr} {cap : Nat} (h : IsSlice S w a cap xs) {p : Addr} {u : Value} (hne : ¬ S p.block) : IsSlice S (w.setCell p u) a cap xs :=
  h.frame fun b hb _ => ⟨Below.heap_setCell w p u b (fun e => hne (e ▸ hb)), hb⟩
theorem IsSlice.mono {a : Option Addr} {cap : Nat} (h : IsSlice S w a cap xs) (hS : ∀ b, S b → S' b) : IsSlice S' w a cap xs := h.frame fun b hs _ => ⟨rfl, hS b hs⟩
theorem IsSlice.lt {a : Option Addr} {cap : Nat} (h : IsSlice S w a cap xs) : IsSlice (fun b => b < w.heap.size) w a cap xs := h.frame fun _ _ hl => ⟨rfl, hl⟩
/-- the element at i, its cells -/
theorem IsSlice.elem {a : Option Addr} {cap : Nat} (h : IsSlice S w a cap xs) {i : Nat} (hi : i < xs.length) :
    ∃ g off us, a = some ⟨g, off, none⟩ ∧ S g ∧ (∀ j u, us[j]? = some u → w.cell? ⟨g, off + i * Rep.sz α + j, none⟩ = some u) ∧ Rep.rd S w us xs[i] := by
  obtain ⟨g, off, us, h1, h2, h3, h4, _⟩ := h.2.2 i hi
  exact ⟨g, off, us, h1, h2, h3, h4⟩
end

/-- a string of a []string -/
theorem IsSlice.str {S : Nat → Prop} {w : World} {a : Option Addr} {cap : Nat} {xs : List ByteArray} (h : IsSlice S w a cap xs) {i : Nat} (hi : i < xs.length) :
    ∃ g off, a = some ⟨g, off, none⟩ ∧ w.cell? ⟨g, off + i, none⟩ = some (.string xs[i]) ∧ xs[i].size ≤ maxLen := by
  obtain ⟨g, off, us, h1, _, h3, h4, h5⟩ := h.elem hi
  subst h4
  refine ⟨g, off, h1, ?_, h5⟩
  have := h3 0 _ rfl
  simpa [Rep.sz] using this
/-- an int of a []int -/
theorem IsSlice.int {S : Nat → Prop} {w : World} {a : Option Addr} {cap : Nat} {xs : List Int} (h : IsSlice S w a cap xs) {i : Nat} (hi : i < xs.length) :
    ∃ g off, a = some ⟨g, off, none⟩ ∧ w.cell? ⟨g, off + i, none⟩ = some (.int .i64 xs[i]) ∧ I64 xs[i] := by
  obtain ⟨g, off, us, h1, _, h3, h4, h5⟩ := h.elem hi
  subst h4
  refine ⟨g, off, h1, ?_, h5⟩
  have := h3 0 _ rfl
  simpa [Rep.sz] using this
theorem IsSlice.bw {α : Type} [Rep α] {S : Nat → Prop} {w : World} {a : Option Addr} {cap : Nat} {xs : List α} (h : IsSlice S w a cap xs) (n : BW w) : IsSlice S n.w a cap xs := h.below (Nat.le_refl _) n.below
end Go.Vc
