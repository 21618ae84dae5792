/-
  What a call has made for itself: each slice has a block of its own ('own'), no two the same ('Fresh'). Append, make and a store keep it. No program is in sight here. / Append, make and a store at what the call has made: the laws as the walk takes them. No program is in sight here. / Plain functions on lists and integers that the Go functions compute. No program is in sight here. / Structs: a struct's cells are its fields' cells, one behind the other. No program is in sight here. / The given form's own reading of an argument ('DataW.trod'), turned into this text's ('rd'). No program is in sight here.
-/
import Derived.Test.YthddcfbjgcbioaaGreatDoorCore
import Derived.ProofKit
import Derived.OpenShut
import Derived.Deep.Slices
import Derived.Deep.Strs
import Derived.Carry
set_option linter.unusedVariables false
namespace Go.Vc
open Go.RowKit
open Rep (rd)

/-- the number that a type has in the program -/
class Tid (α : Type) where tid : TypeId

/-- 'own F w vs x': vs are the cells of x, and the blocks of all slices in x are those of F, each once. -/
class Own (α : Type) extends Rep α where
  own : List Nat → World → List Value → α → Prop
  rd_of : ∀ {F : List Nat} {w : World} {vs : List Value} {x : α}, own F w vs x → rd (fun b => b ∈ F) w vs x
  oframe : ∀ {F : List Nat} {w w' : World} {vs : List Value} {x : α}, (∀ b, b ∈ F → w'.heap[b]? = w.heap[b]?) → own F w vs x → own F w' vs x
  lt : ∀ {F : List Nat} {w : World} {vs : List Value} {x : α}, own F w vs x → ∀ b, b ∈ F → b < w.heap.size
open Own (own)

instance ownInt : Own Int where
  own := fun F _ vs n => F = [] ∧ vs = [.int .i64 n] ∧ I64 n
  rd_of := fun h => h.2
  oframe := fun _ h => h
  lt := fun h b hb => by rw [h.1] at hb; cases hb
instance ownBool : Own Bool where
  own := fun F _ vs n => F = [] ∧ vs = [.bool n]
  rd_of := fun h => h.2
  oframe := fun _ h => h
  lt := fun h b hb => by rw [h.1] at hb; cases hb
instance ownStr : Own ByteArray where
  own := fun F _ vs s => F = [] ∧ vs = [.string s] ∧ s.size ≤ maxLen
  rd_of := fun h => h.2
  oframe := fun _ h => h
  lt := fun h b hb => by rw [h.1] at hb; cases hb
instance ownByte : Own UInt8 where
  own := fun F _ vs b => F = [] ∧ vs = [.int .u8 b.toNat]
  rd_of := fun h => h.2
  oframe := fun _ h => h
  lt := fun h b hb => by rw [h.1] at hb; cases hb

/-- element by element -/
def ownAll {α : Type} [Own α] (w : World) : List (List Nat) → List (List Value) → List α → Prop
  | [], [], [] => True
  | F :: Fs, c :: cs, x :: xs => own F w c x ∧ ownAll w Fs cs xs
  | _, _, _ => False

section
variable {α : Type} [Own α] {w w' : World}
theorem ownAll.lens : ∀ {Fs : List (List Nat)} {cs : List (List Value)} {xs : List α}, ownAll w Fs cs xs → Fs.length = xs.length ∧ cs.length = xs.length ∧ ∀ c ∈ cs, c.length = Rep.sz α
  | [], [], [], _ => ⟨rfl, rfl, fun c h => by cases h⟩
  | F :: Fs, c :: cs, x :: xs, h => by
    obtain ⟨h1, h2, h3⟩ := ownAll.lens h.2
    refine ⟨by simp [h1], by simp [h2], fun d hd => ?_⟩
    rcases List.mem_cons.1 hd with rfl | hd
    · exact Rep.len (Own.rd_of h.1)
    · exact h3 d hd
  | [], [], _ :: _, h => h.elim
  | [], _ :: _, [], h => h.elim
  | [], _ :: _, _ :: _, h => h.elim
  | _ :: _, [], [], h => h.elim
  | _ :: _, [], _ :: _, h => h.elim
  | _ :: _, _ :: _, [], h => h.elim
theorem ownAll.frame : ∀ {Fs : List (List Nat)} {cs : List (List Value)} {xs : List α}, (∀ b, b ∈ Fs.flatten → w'.heap[b]? = w.heap[b]?) → ownAll w Fs cs xs → ownAll w' Fs cs xs
  | [], [], [], _, _ => trivial
  | F :: Fs, c :: cs, x :: xs, hf, h => ⟨Own.oframe (fun b hb => hf b (by simp [hb])) h.1, ownAll.frame (fun b hb => hf b (by rw [List.flatten_cons]; exact List.mem_append.2 (.inr hb))) h.2⟩
  | [], [], _ :: _, _, h => h.elim
  | [], _ :: _, [], _, h => h.elim
  | [], _ :: _, _ :: _, _, h => h.elim
  | _ :: _, [], [], _, h => h.elim
  | _ :: _, [], _ :: _, _, h => h.elim
  | _ :: _, _ :: _, [], _, h => h.elim
theorem ownAll.lt : ∀ {Fs : List (List Nat)} {cs : List (List Value)} {xs : List α}, ownAll w Fs cs xs → ∀ b, b ∈ Fs.flatten → b < w.heap.size
  | [], [], [], _, b, hb => by cases hb
  | F :: Fs, c :: cs, x :: xs, h, b, hb => by
    rw [List.flatten_cons] at hb
    rcases List.mem_append.1 hb with hb | hb
    · exact Own.lt h.1 b hb
    · exact ownAll.lt h.2 b hb
  | [], [], _ :: _, h, _, _ => h.elim
  | [], _ :: _, [], h, _, _ => h.elim
  | [], _ :: _, _ :: _, h, _, _ => h.elim
  | _ :: _, [], [], h, _, _ => h.elim
  | _ :: _, [], _ :: _, h, _, _ => h.elim
  | _ :: _, _ :: _, [], h, _, _ => h.elim
theorem ownAll.append : ∀ {Fs : List (List Nat)} {cs : List (List Value)} {xs : List α} {Gs : List (List Nat)} {ds : List (List Value)} {ys : List α}, ownAll w Fs cs xs → ownAll w Gs ds ys → ownAll w (Fs ++ Gs) (cs ++ ds) (xs ++ ys)
  | [], [], [], _, _, _, _, h => h
  | _ :: _, _ :: _, _ :: _, _, _, _, h, k => ⟨h.1, ownAll.append h.2 k⟩
  | [], [], _ :: _, _, _, _, h, _ => h.elim
  | [], _ :: _, [], _, _, _, h, _ => h.elim
  | [], _ :: _, _ :: _, _, _, _, h, _ => h.elim
  | _ :: _, [], [], _, _, _, h, _ => h.elim
  | _ :: _, [], _ :: _, _, _, _, h, _ => h.elim
  | _ :: _, _ :: _, [], _, _, _, h, _ => h.elim
theorem ownAll.at : ∀ {Fs : List (List Nat)} {cs : List (List Value)} {xs : List α}, ownAll w Fs cs xs → ∀ (i : Nat) (hi : i < xs.length), ∃ F c, Fs[i]? = some F ∧ cs[i]? = some c ∧ own F w c xs[i]
  | F :: Fs, c :: cs, x :: xs, h, 0, _ => ⟨F, c, rfl, rfl, h.1⟩
  | F :: Fs, c :: cs, x :: xs, h, i + 1, hi => by
    obtain ⟨F', c', h1, h2, h3⟩ := ownAll.at h.2 i (by simpa using hi)
    exact ⟨F', c', by simpa using h1, by simpa using h2, by simpa using h3⟩
  | [], [], [], _, i, hi => absurd hi (by simp)
  | [], [], _ :: _, h, _, _ => h.elim
  | [], _ :: _, [], h, _, _ => h.elim
  | [], _ :: _, _ :: _, h, _, _ => h.elim
  | _ :: _, [], [], h, _, _ => h.elim
  | _ :: _, [], _ :: _, h, _, _ => h.elim
  | _ :: _, _ :: _, [], h, _, _ => h.elim
theorem ownAll.set : ∀ {Fs : List (List Nat)} {cs : List (List Value)} {xs : List α} {G : List Nat} {d : List Value} {y : α}, ownAll w Fs cs xs → own G w d y → ∀ (i : Nat), ownAll w (Fs.set i G) (cs.set i d) (xs.set i y)
  | F :: Fs, c :: cs, x :: xs, _, _, _, h, k, 0 => ⟨k, h.2⟩
  | F :: Fs, c :: cs, x :: xs, _, _, _, h, k, i + 1 => ⟨h.1, ownAll.set h.2 k i⟩
  | [], [], [], _, _, _, _, _, i => by cases i <;> exact trivial
  | [], [], _ :: _, _, _, _, h, _, _ => h.elim
  | [], _ :: _, [], _, _, _, h, _, _ => h.elim
  | [], _ :: _, _ :: _, _, _, _, h, _, _ => h.elim
  | _ :: _, [], [], _, _, _, h, _, _ => h.elim
  | _ :: _, [], _ :: _, _, _, _, h, _, _ => h.elim
  | _ :: _, _ :: _, [], _, _, _, h, _, _ => h.elim
end

theorem flatten_len {α : Type} {cs : List (List α)} {z : Nat} (h : ∀ c ∈ cs, c.length = z) : cs.flatten.length = cs.length * z := by
  induction cs with
  | nil => simp
  | cons c cs ih =>
    rw [List.flatten_cons, List.length_append, ih (fun c hc => h c (List.mem_cons_of_mem _ hc)), h c (List.mem_cons_self ..), List.length_cons, Nat.add_mul]
    omega
theorem flatten_at {α : Type} {z : Nat} : ∀ {cs : List (List α)}, (∀ c ∈ cs, c.length = z) → ∀ {i : Nat} {c : List α}, cs[i]? = some c → ∀ {j : Nat}, j < z → cs.flatten[i * z + j]? = c[j]?
  | [], _, i, c, hi, _, _ => by simp at hi
  | d :: cs, h, 0, c, hi, j, hj => by
    simp at hi
    subst hi
    have := h d (List.mem_cons_self ..)
    rw [List.flatten_cons, Nat.zero_mul, Nat.zero_add, List.getElem?_append_left (by omega)]
  | d :: cs, h, i + 1, c, hi, j, hj => by
    have hd := h d (List.mem_cons_self ..)
    rw [List.flatten_cons, List.getElem?_append_right (by rw [hd, Nat.add_mul]; omega)]
    have e : (i + 1) * z + j - d.length = i * z + j := by rw [hd, Nat.add_mul]; omega
    rw [e]
    exact flatten_at (fun c hc => h c (List.mem_cons_of_mem _ hc)) (by simpa using hi) hj
/-- one element's cells set -/
theorem flatten_set {α : Type} {z : Nat} : ∀ {cs : List (List α)}, (∀ c ∈ cs, c.length = z) → ∀ (i : Nat) (d : List α), d.length = z → i < cs.length →
    (cs.set i d).flatten = cs.flatten.take (i * z) ++ d ++ cs.flatten.drop (i * z + z)
  | [], _, i, _, _, hi => by simp at hi
  | c :: cs, h, 0, d, hd, _ => by
    have hc := h c (List.mem_cons_self ..)
    simp only [List.set_cons_zero, List.flatten_cons, Nat.zero_mul, List.take_zero, List.nil_append, Nat.zero_add]
    rw [List.drop_append_of_le_length (by omega), List.drop_eq_nil_of_le (by omega), List.nil_append]
  | c :: cs, h, i + 1, d, hd, hi => by
    have hc := h c (List.mem_cons_self ..)
    rw [List.set_cons_succ, List.flatten_cons, List.flatten_cons, flatten_set (fun c hc => h c (List.mem_cons_of_mem _ hc)) i d hd (by simpa using hi)]
    have e1 : (i + 1) * z = c.length + i * z := by rw [hc, Nat.add_mul]; omega
    have e2 : (i + 1) * z + z = c.length + (i * z + z) := by rw [hc, Nat.add_mul]; omega
    rw [e1, Nat.add_assoc, List.take_length_add_append, List.drop_length_add_append]
    simp only [List.append_assoc]

instance ownList {α : Type} [Own α] [Tid α] : Own (List α) where
  own := fun F w vs xs => ∃ v cs Fs, vs = [v] ∧ w.ownsRow 0 (Tid.tid α) (Rep.sz α) v xs.length cs.flatten ∧ F = v.ownBlock.toList ++ Fs.flatten ∧ ownAll w Fs cs xs ∧ 0 < Rep.sz α
  rd_of := by
    rintro F w vs xs ⟨v, cs, Fs, rfl, hrow, rfl, hall, hz⟩
    obtain ⟨h1, h2, h3⟩ := hall.lens
    rcases hrow.2 with ⟨rfl, hn⟩ | ⟨g, cap, cur, rfl, _, hg, hnc, hcm, hcs, htake⟩
    · have : xs = [] := List.eq_nil_of_length_eq_zero hn
      subst this
      exact rd_slice_nil _ _
    · refine ⟨_, _, rfl, hnc, hcm, fun i hi => ?_⟩
      obtain ⟨F', c, hF, hc, ho⟩ := hall.at i hi
      have hmem : c ∈ cs := List.mem_of_getElem? hc
      refine ⟨g, 0, c, rfl, by simp [Value.ownBlock], fun j u hu => ?_, Rep.mono (fun b hb => ?_) (Own.rd_of ho), hz⟩
      · have hj : j < Rep.sz α := by rw [← h3 c hmem]; exact (List.getElem?_eq_some_iff.1 hu).1
        have hfl := flatten_at h3 hc hj
        have := hrow.cells (g := g) rfl (i * Rep.sz α + j) u (by rw [hfl]; exact hu)
        have hadd : (⟨g, 0, none⟩ : Addr).add (i * Rep.sz α + j) = ⟨g, 0 + i * Rep.sz α + j, none⟩ := by unfold Addr.add; split <;> simp_all
        rw [hadd] at this
        exact this
      · exact List.mem_append.2 (.inr (List.mem_flatten.2 ⟨F', List.mem_of_getElem? hF, hb⟩))
  oframe := by
    rintro F w w' vs xs hf ⟨v, cs, Fs, rfl, hrow, rfl, hall, hz⟩
    refine ⟨v, cs, Fs, rfl, ⟨hrow.1, ?_⟩, rfl, hall.frame fun b hb => hf b (List.mem_append.2 (.inr hb)), hz⟩
    rcases hrow.2 with h | ⟨g, cap, cur, rfl, hb, hg, r⟩
    · exact .inl h
    · exact .inr ⟨g, cap, cur, rfl, hb, by rw [hf g (by simp [Value.ownBlock])]; exact hg, r⟩
  lt := by
    rintro F w vs xs ⟨v, cs, Fs, rfl, hrow, rfl, hall, hz⟩ b hb
    rcases List.mem_append.1 hb with hb | hb
    · exact (hrow.lt b (by simpa using hb)).2
    · exact hall.lt b hb

/-- x is made by the call: its blocks are its own, from B on, below m. -/
def Fresh {α : Type} [Own α] (B m : Nat) (w : World) (vs : List Value) (x : α) : Prop := ∃ F, own F w vs x ∧ F.Nodup ∧ ∀ b, b ∈ F → B ≤ b ∧ b < m

section
variable {α : Type} [Own α] {B m : Nat} {w w' : World} {vs : List Value} {x : α}
theorem Fresh.rd (h : Fresh B m w vs x) : rd (fun b => B ≤ b) w vs x := by
  obtain ⟨F, ho, _, hb⟩ := h
  exact Rep.mono (fun b h => (hb b h).1) (Own.rd_of ho)
theorem Fresh.rd2 (h : Fresh B m w vs x) : Rep.rd (fun b => B ≤ b ∧ b < m) w vs x := by
  obtain ⟨F, ho, _, hb⟩ := h
  exact Rep.mono (fun b h => hb b h) (Own.rd_of ho)
theorem Fresh.mono {B' m' : Nat} (h : Fresh B m w vs x) (hB : B' ≤ B) (hm : m ≤ m') : Fresh B' m' w vs x := by
  obtain ⟨F, ho, hn, hb⟩ := h
  exact ⟨F, ho, hn, fun b h => ⟨Nat.le_trans hB (hb b h).1, Nat.lt_of_lt_of_le (hb b h).2 hm⟩⟩
theorem Fresh.now (h : Fresh B m w vs x) : Fresh B w.heap.size w vs x := by
  obtain ⟨F, ho, hn, hb⟩ := h
  exact ⟨F, ho, hn, fun b h => ⟨(hb b h).1, Own.lt ho b h⟩⟩
/-- nothing in [B, m) was written -/
theorem Fresh.keep (h : Fresh B m w vs x) (hf : ∀ b, B ≤ b → b < m → b < w.heap.size → w'.heap[b]? = w.heap[b]?) : Fresh B m w' vs x := by
  obtain ⟨F, ho, hn, hb⟩ := h
  exact ⟨F, Own.oframe (fun b h => hf b (hb b h).1 (hb b h).2 (Own.lt ho b h)) ho, hn, hb⟩
theorem Fresh.below {C : Nat} (h : Fresh B m w vs x) (hC : w.heap.size ≤ C) (hb : Below C w w') : Fresh B m w' vs x :=
  h.keep fun b _ _ hl => hb.block b (by omega)
theorem Fresh.belowm {C : Nat} (h : Fresh B m w vs x) (hC : m ≤ C) (hb : Below C w w') : Fresh B m w' vs x :=
  h.keep fun b _ hl _ => hb.block b (by omega)
theorem Fresh.alloc (h : Fresh B m w vs x) (o : Obj) : Fresh B m (w.alloc o) vs x :=
  h.keep fun b _ _ hl => Below.heap_alloc w o b hl
theorem Fresh.drew (h : Fresh B m w vs x) : Fresh B m w.drew vs x := h.keep (w := w) fun _ _ _ _ => rfl
theorem Fresh.drewN (h : Fresh B m w vs x) (n : Nat) : Fresh B m (w.drewN n) vs x := h.keep (w := w) fun _ _ _ _ => rfl
theorem Fresh.setCell (h : Fresh B m w vs x) {a : Addr} {u : Value} (hn : a.block < B ∨ m ≤ a.block) : Fresh B m (w.setCell a u) vs x :=
  h.keep fun b _ _ _ => Below.heap_setCell w a u b (by omega)
theorem Fresh.leaf (h : own [] w vs x) : Fresh B m w vs x := ⟨[], h, List.nodup_nil, fun b hb => by cases hb⟩
end

/-- t is the type of the slices of α -/
structure SlT (P : Program) (t : TypeId) (α : Type) [Rep α] [Tid α] (bytes : Nat) : Prop where
  ht : P.underlying t = some (.slice (Tid.tid α))
  hi : ∃ i z, P.info? (Tid.tid α) = some i ∧ i.zero = some z ∧ i.size = Rep.sz α ∧ i.bytes = bytes ∧ z.cells.size = Rep.sz α
  pos : 0 < Rep.sz α

/-- one of the elements' cells, at an address that may be nil where there is none -/
def CellsAt (w : World) (a : Option Addr) (vs : List Value) : Prop := vs = [] ∨ ∃ ad, a = some ad ∧ ∀ j u, vs[j]? = some u → w.cell? (ad.add j) = some u

theorem own_ownBlock {α : Type} [Own α] [Tid α] {F : List Nat} {w : World} {v : Value} {xs : List α} (h : own F w [v] xs) : ∀ g, v.ownBlock = some g → g ∈ F := by
  obtain ⟨v', cs, Fs, hv, _, rfl, _⟩ := h
  simp at hv
  subst hv
  intro g hg
  rw [hg]
  simp

section
variable {P : Program} {w : World} {α : Type} [Own α] [Tid α]
theorem run_append_empty (t ty e : TypeId) (i : TypeInfo) (size : Nat) (ht : P.underlying t = some (.slice e)) (hi : P.info? e = some i)
    (base : Nat) (v : Value) (n : Nat) (cs : List Value) (hown : w.ownsRow base e size v n cs) (a : Option Addr) (c : Nat) (hc : ∀ ad : Addr, a = some ad → True) :
    (Builtin.append_ #[t, t] ty #[v, .slice a 0 c]).run P w = .ok v w := by
  rcases hown.2 with ⟨rfl, rfl⟩ | ⟨g, cap, cur, rfl, _, _, hnc, _⟩
  · cases a <;> simp [Builtin.append_, run_underlying ht, sizeOf, typeInfo, hi, Builtin.lenOf, Builtin.firstCells, loadCells, loadCellsFrom]
  · cases a <;> simp [Builtin.append_, run_underlying ht, sizeOf, typeInfo, hi, Builtin.lenOf, Builtin.firstCells, hnc, storeCells, loadCells, loadCellsFrom]

/-- append, the appended elements at a place in memory -/
theorem run_app {t ty : TypeId} {bytes : Nat} (T : SlT P t α bytes) {F : List Nat} {v : Value} {xs : List α} (h : own F w [v] xs)
    {a : Option Addr} {m c : Nat} {ns : List (List Value)} {Gs : List (List Nat)} {ys : List α} (hm : m = ys.length) (hc : CellsAt w a ns.flatten) (hy : ownAll w Gs ns ys)
    (hnd : (F ++ Gs.flatten).Nodup) (hbytes : (xs.length + m) * bytes ≤ 140737488355328) (h63 : xs.length + m ≤ maxLen) :
    ∃ v' w' F', (Builtin.append_ #[t, t] ty #[v, .slice a m c]).run P w = .ok v' w' ∧ own F' w' [v'] (xs ++ ys) ∧ F'.Nodup ∧ w.grownBy w' v.ownBlock ∧ (∀ b, b ∈ F' → b ∈ F ∨ b ∈ Gs.flatten ∨ w.heap.size ≤ b) := by
  obtain ⟨v', cs, Fs, hv, hrow, rfl, hall, hz⟩ := h
  simp at hv
  subst hv
  obtain ⟨i, z, hi, hz0, hsz, hby, hzs⟩ := T.hi
  obtain ⟨l1, l2, l3⟩ := hy.lens
  by_cases h0 : ys = []
  · subst h0
    simp at hm l1 l2
    subst hm l1 l2
    refine ⟨v, w, v.ownBlock.toList ++ Fs.flatten, run_append_empty t ty _ i _ T.ht hi 0 v _ _ hrow a c (fun _ _ => trivial), ?_, by simpa using hnd, ⟨rfl, rfl, rfl, Nat.le_refl _, fun _ _ _ => rfl⟩, fun b hb => .inl hb⟩
    rw [List.append_nil]
    exact ⟨v, cs, Fs, rfl, hrow, rfl, hall, hz⟩
  · have hpos : 0 < ys.length := List.length_pos_iff.2 h0
    have hl : ns.flatten.length = m * Rep.sz α := by rw [flatten_len l3, l2, hm]
    have h1 : ∀ u ∈ ns.flatten, u.oneCell' = true := by
      intro u hu
      obtain ⟨c', hc', hu'⟩ := List.mem_flatten.1 hu
      obtain ⟨k, hk, hck⟩ := List.getElem_of_mem hc'
      obtain ⟨F', c'', hF, hc2, ho⟩ := hy.at k (by omega)
      have : c'' = c' := by rw [List.getElem?_eq_getElem hk] at hc2; simp at hc2; rw [← hc2, hck]
      subst this
      exact Rep.one (Own.rd_of ho) u hu'
    obtain ⟨ad, rfl, hcells⟩ : ∃ ad, a = some ad ∧ ∀ j u, ns.flatten[j]? = some u → w.cell? (ad.add j) = some u := by
      rcases hc with hn | h
      · rw [hn] at hl
        simp at hl
        have := Nat.mul_pos (show 0 < m by omega) hz
        omega
      · exact h
    have hlen : (cs.flatten ++ ns.flatten).length = (xs.length + m) * Rep.sz α := by rw [List.length_append, hrow.1, hl, Nat.add_mul]
    have hno : v.ownBlock = none ∨ ∃ g, v.ownBlock = some g := by cases v.ownBlock <;> simp
    have hn1 : (Fs.flatten ++ Gs.flatten).Nodup := by
      rw [List.append_assoc] at hnd
      exact (List.nodup_append.1 hnd).2.1
    have hall' : ownAll w (Fs ++ Gs) (cs ++ ns) (xs ++ ys) := hall.append hy
    -- a new block
    have fresh : ∀ old : Nat, old < xs.length + m → ∃ v' w' F',
        (Result.ok (Value.slice (some ⟨w.heap.size, 0, none⟩) (xs.length + m) (grownCap w (xs.length + m) old (Tid.tid α)))
          (w.drew.alloc (.cells (cs.flatten.toArray ++ ns.flatten.toArray ++ Builtin.zeroCells z.cells (grownCap w (xs.length + m) old (Tid.tid α) - (xs.length + m))) (Tid.tid α))) : Result Value) = .ok v' w' ∧
        own F' w' [v'] (xs ++ ys) ∧ F'.Nodup ∧ w.grownBy w' v.ownBlock ∧ (∀ b, b ∈ F' → b ∈ v.ownBlock.toList ++ Fs.flatten ∨ b ∈ Gs.flatten ∨ w.heap.size ≤ b) := by
      intro old ho
      have hge := grownCap_ge w (xs.length + m) old (Tid.tid α)
      have hcm : grownCap w (xs.length + m) old (Tid.tid α) ≤ maxLen := grownCap_le_maxLen w (xs.length + m) old (Tid.tid α) h63
      refine ⟨_, _, w.heap.size :: (Fs ++ Gs).flatten, rfl, ⟨_, cs ++ ns, Fs ++ Gs, rfl, ⟨?_, .inr ⟨w.heap.size, _, _, ?_, Nat.zero_le _, heap_alloc_new w.drew _, ?_, hcm, ?_, ?_⟩⟩, by simp [Value.ownBlock], ?_, hz⟩, ?_, ⟨rfl, rfl, rfl, by simp, fun k hk _ => Below.heap_alloc w.drew _ k hk⟩, ?_⟩
      · rw [List.flatten_append, hlen, List.length_append, hm]
      · rw [List.length_append, hm]
      · rw [List.length_append]; omega
      · simp only [Array.size_append, List.size_toArray, size_zeroCells, hzs, hrow.1, hl, ← Nat.add_mul]
        congr 1
        omega
      · rw [List.length_append, ← hm, ← hlen, List.flatten_append]
        simp only [Array.toList_append]
        exact List.take_left
      · exact ownAll.frame (w := w) (fun b hb => Below.heap_alloc w.drew _ b (hall'.lt b hb)) hall'
      · refine List.nodup_cons.2 ⟨fun hmem => ?_, by rw [List.flatten_append]; exact hn1⟩
        have := hall'.lt _ hmem
        omega
      · intro b hb
        rcases List.mem_cons.1 hb with rfl | hb
        · exact .inr (.inr (Nat.le_refl _))
        · rw [List.flatten_append] at hb
          rcases List.mem_append.1 hb with hb | hb
          · exact .inl (List.mem_append.2 (.inr hb))
          · exact .inr (.inl hb)
    rcases hrow.2 with ⟨rfl, hn0⟩ | ⟨g, cap, cur, rfl, hbg, hg, hnc, hcm, hcs, htake⟩
    · have hx : xs = [] := List.eq_nil_of_length_eq_zero hn0
      subst hx
      have hcs0 : cs = [] := List.eq_nil_of_length_eq_zero (by simpa using hall.lens.2.1)
      subst hcs0
      have hr := run_append_nil (P := P) w t ty (Tid.tid α) i z T.ht hi hz0 ad m c ns.flatten (by rw [hsz]; exact hl) hcells (by omega) (by simp [maxLen] at h63 ⊢; omega) (by simp at hbytes; rw [hby]; omega)
      obtain ⟨v', w', F', e, r⟩ := fresh 0 (by omega)
      simp only [List.length_nil, Nat.zero_add, List.flatten_nil, Array.empty_append] at e hr
      exact ⟨v', w', F', hr.trans e, r⟩
    · by_cases hroom : xs.length + m ≤ cap
      · have hfit : xs.length * i.size + ns.flatten.length ≤ cur.size := by rw [hl, hcs, hsz, ← Nat.add_mul]; exact Nat.mul_le_mul_right _ hroom
        have hr := run_append_room (P := P) w t ty (Tid.tid α) i T.ht hi g xs.length cap cur hg ad m c ns.flatten (by rw [hsz]; exact hl) hcells h1 hroom hfit
        have hgn : g ∉ (Fs ++ Gs).flatten := by
          rw [List.flatten_append]
          simp only [Value.ownBlock, Option.toList_some, List.cons_append, List.nil_append] at hnd
          exact (List.nodup_cons.1 hnd).1
        rw [hsz] at hr hfit
        refine ⟨_, _, g :: (Fs ++ Gs).flatten, hr, ⟨_, cs ++ ns, Fs ++ Gs, rfl, ⟨?_, .inr ⟨g, cap, _, ?_, Nat.zero_le _, setRow_heap w g cur _ (Tid.tid α) _ hg, ?_, hcm, ?_, ?_⟩⟩, by simp [Value.ownBlock], ?_, hz⟩, List.nodup_cons.2 ⟨hgn, by rw [List.flatten_append]; exact hn1⟩, ⟨rfl, rfl, rfl, by simp, fun k _ hk => setRow_other w g k _ (fun e => hk (by simp [Value.ownBlock, e]))⟩, ?_⟩
        · rw [List.flatten_append, hlen, List.length_append, hm]
        · rw [List.length_append, hm]
        · rw [List.length_append]; omega
        · simp only [List.size_toArray, List.length_append, List.length_take, List.length_drop, Array.length_toList]
          omega
        · rw [List.length_append, ← hm, ← hlen, List.flatten_append, ← htake]
          exact List.take_left
        · refine ownAll.frame (w := w) (fun b hb => setRow_other w g b _ (fun e => hgn (e ▸ hb))) hall'
        · intro b hb
          rcases List.mem_cons.1 hb with rfl | hb
          · exact .inl (by simp [Value.ownBlock])
          · rw [List.flatten_append] at hb
            rcases List.mem_append.1 hb with hb | hb
            · exact .inl (List.mem_append.2 (.inr hb))
            · exact .inr (.inl hb)
      · have holds : ∀ j u, cs.flatten[j]? = some u → w.cell? ((⟨g, 0, none⟩ : Addr).add j) = some u := hrow.cells (g := g) rfl
        have hr := run_append_grow (P := P) w t ty (Tid.tid α) i z T.ht hi hz0 ⟨g, 0, none⟩ xs.length cap cs.flatten (by rw [hsz]; exact hrow.1) holds ad m c ns.flatten (by rw [hsz]; exact hl) hcells (by omega) (by simp [maxLen] at h63 ⊢; omega) (growslice_fits (by omega) (by rw [hby]; exact hbytes))
        obtain ⟨v', w', F', e, r⟩ := fresh cap (by omega)
        exact ⟨v', w', F', hr.trans e, r⟩
end
end Go.Vc
namespace Go.Vc
open Go.RowKit
open Rep (rd)
open Own (own)

/-- a type whose values hold no slice -/
class Leaf (α : Type) [Own α] : Prop where
  of_rd : ∀ {S : Nat → Prop} {w : World} {vs : List Value} {x : α}, rd S w vs x → own [] w vs x
  none : ∀ {F : List Nat} {w : World} {vs : List Value} {x : α}, own F w vs x → F = []
instance : Leaf Int := ⟨fun h => ⟨rfl, h⟩, fun h => h.1⟩
instance : Leaf Bool := ⟨fun h => ⟨rfl, h⟩, fun h => h.1⟩
instance : Leaf ByteArray := ⟨fun h => ⟨rfl, h⟩, fun h => h.1⟩
instance : Leaf UInt8 := ⟨fun h => ⟨rfl, h⟩, fun h => h.1⟩

theorem addr_add (g o n : Nat) : (⟨g, o, none⟩ : Addr).add n = ⟨g, o + n, none⟩ := by unfold Addr.add; split <;> simp_all

section
variable {α : Type} [Own α] {S : Nat → Prop} {w : World}
theorem ownAll_leaf : ∀ (cs : List (List Value)) (xs : List α), cs.length = xs.length → (∀ i (h : i < xs.length) c, cs[i]? = some c → own [] w c xs[i]) → ownAll w (List.replicate xs.length []) cs xs
  | [], [], _, _ => trivial
  | c :: cs, x :: xs, hl, h => ⟨h 0 (by simp) c rfl, ownAll_leaf cs xs (by simpa using hl) fun i hi d hd => h (i + 1) (by simpa using hi) d (by simpa using hd)⟩
  | [], _ :: _, hl, _ => by simp at hl
  | _ :: _, [], hl, _ => by simp at hl
theorem flatten_replicate_nil (n : Nat) : (List.replicate n ([] : List Nat)).flatten = [] := by induction n <;> simp_all [List.replicate_succ]
/-- the elements of a slice of leaves, as an append's source -/
theorem IsSlice.src [Leaf α] {a : Option Addr} {cap : Nat} {ys : List α} (h : IsSlice S w a cap ys) :
    ∃ ns : List (List Value), CellsAt w a ns.flatten ∧ ownAll w (List.replicate ys.length []) ns ys := by
  by_cases h0 : ys = []
  · subst h0
    exact ⟨[], .inl rfl, trivial⟩
  · have hpos : 0 < ys.length := List.length_pos_iff.2 h0
    obtain ⟨g, off, _, rfl, _⟩ := h.elem hpos
    have hc : ∀ i : Fin ys.length, ∃ us, (∀ j u, us[j]? = some u → w.cell? ⟨g, off + i.1 * Rep.sz α + j, none⟩ = some u) ∧ Rep.rd S w us ys[i.1] := by
      intro i
      obtain ⟨g', off', us, he, _, hcell, hr⟩ := h.elem i.2
      simp at he
      obtain ⟨rfl, rfl⟩ := he
      exact ⟨us, hcell, hr⟩
    let f : Fin ys.length → List Value := fun i => Classical.choose (hc i)
    have hf : ∀ i, _ := fun i => Classical.choose_spec (hc i)
    let ns : List (List Value) := List.ofFn f
    have hlen : ∀ c ∈ ns, c.length = Rep.sz α := by
      intro c hcm
      obtain ⟨i, hi⟩ := List.mem_ofFn.1 hcm
      rw [← hi]
      exact Rep.len (hf i).2
    refine ⟨ns, .inr ⟨⟨g, off, none⟩, rfl, fun j u hu => ?_⟩, ownAll_leaf ns ys (by simp [ns]) fun i hi c hcm => ?_⟩
    · have hz : 0 < Rep.sz α := by
        obtain ⟨_, _, _, _, _, _, _, hz⟩ := h.2.2 0 hpos
        exact hz
      have hj : j < ns.flatten.length := (List.getElem?_eq_some_iff.1 hu).1
      rw [flatten_len hlen] at hj
      have hn : ns.length = ys.length := by simp [ns]
      rw [hn] at hj
      have hi : j / Rep.sz α < ys.length := (Nat.div_lt_iff_lt_mul hz).2 hj
      have hm : j % Rep.sz α < Rep.sz α := Nat.mod_lt _ hz
      have hdm : j / Rep.sz α * Rep.sz α + j % Rep.sz α = j := by rw [Nat.mul_comm]; exact Nat.div_add_mod j _
      have hci : ns[j / Rep.sz α]? = some (f ⟨j / Rep.sz α, hi⟩) := by simp [ns, hi]
      rw [← hdm, flatten_at hlen hci hm] at hu
      have := (hf ⟨j / Rep.sz α, hi⟩).1 _ u hu
      rw [addr_add, ← hdm, ← Nat.add_assoc]
      exact this
    · have : c = f ⟨i, hi⟩ := by simp [ns, hi] at hcm; exact hcm.symm
      rw [this]
      exact Leaf.of_rd (hf ⟨i, hi⟩).2

theorem Fresh.shape {β : Type} [Own β] [Tid β] {B m : Nat} {v : Value} {xs : List β} (h : Fresh B m w [v] xs) : ∃ a cap, v = .slice a xs.length cap ∧ IsSlice (fun b => B ≤ b) w a cap xs := rd_slice_elim h.rd
theorem Fresh.ownBlock {β : Type} [Own β] [Tid β] {B m : Nat} {v : Value} {xs : List β} (h : Fresh B m w [v] xs) : ∀ g, v.ownBlock = some g → B ≤ g ∧ g < m := by
  obtain ⟨F, ho, _, hb⟩ := h
  exact fun g hg => hb g (own_ownBlock ho g hg)
theorem Fresh.nil {β : Type} [Own β] [Tid β] (B m : Nat) (w : World) (hz : 0 < Rep.sz β) : Fresh B m w [.slice none 0 0] ([] : List β) :=
  ⟨[], ⟨_, [], [], rfl, World.ownsRow_nil _ _ _ _, rfl, trivial, hz⟩, List.nodup_nil, fun b hb => by cases hb⟩
end

/-- what an append at an own slice gives -/
structure Grew {α : Type} [Own α] [Tid α] (B m : Nat) (w w' : World) (v' : Value) (xs : List α) : Prop where
  fresh : Fresh B w'.heap.size w' [v'] xs
  below : Below B w w'
  rest : ∀ b, b < w.heap.size → (b < B ∨ m ≤ b) → w'.heap[b]? = w.heap[b]?

section
variable {P : Program} {w : World} {α : Type} [Own α] [Tid α]
theorem run_app_leaf [Leaf α] {t ty : TypeId} {bytes : Nat} (T : SlT P t α bytes) {B m0 : Nat} {v : Value} {xs : List α} (h : Fresh B m0 w [v] xs) (hB : B ≤ w.heap.size)
    {S : Nat → Prop} {a : Option Addr} {c : Nat} {ys : List α} (hy : IsSlice S w a c ys) (hbytes : (xs.length + ys.length) * bytes ≤ 140737488355328) (h63 : xs.length + ys.length ≤ maxLen) :
    ∃ a' c' w', (Builtin.append_ #[t, t] ty #[v, .slice a ys.length c]).run P w = .ok (.slice a' (xs.length + ys.length) c') w' ∧ Grew B m0 w w' (.slice a' (xs.length + ys.length) c') (xs ++ ys) := by
  obtain ⟨F, ho, hn, hb⟩ := h
  obtain ⟨ns, hc, hall⟩ := hy.src
  obtain ⟨v', w', F', hr, ho', hn', hg, hF'⟩ := run_app (P := P) (ty := ty) T ho (a := a) (c := c) rfl hc hall (by rw [flatten_replicate_nil, List.append_nil]; exact hn) hbytes h63
  have hown := own_ownBlock ho
  obtain ⟨a', c', rfl, _⟩ := rd_slice_elim (Own.rd_of ho')
  rw [List.length_append] at hr ho'
  refine ⟨a', c', w', hr, ⟨⟨F', ho', hn', fun b hbm => ⟨?_, Own.lt ho' b hbm⟩⟩, ?_, ?_⟩⟩
  · rcases hF' b hbm with h | h | h
    · exact (hb b h).1
    · rw [flatten_replicate_nil] at h; cases h
    · omega
  · exact (Below.refl B w).grown hg hB fun k hk => (hb k (hown k hk)).1
  · intro b hbl hbb
    refine hg.block b hbl fun e => ?_
    have := hb b (hown b e.symm)
    omega

/-- append of one element that the call has made, its cells in a new row of one -/
theorem run_app_one {t ty : TypeId} {bytes : Nat} (T : SlT P t α bytes) {B m0 : Nat} {v : Value} {xs : List α} (h : Fresh B m0 w [v] xs) (hB : B ≤ w.heap.size)
    {g c : Nat} {cs : List Value} {e : TypeId} {m1 : Nat} {y : α} (hg : w.heap[g]? = some (.cells cs.toArray e (0, 0))) (hy : Fresh m0 m1 w cs y) (hBm : B ≤ m0) (hbytes : (xs.length + 1) * bytes ≤ 140737488355328) (h63 : xs.length + 1 ≤ maxLen) :
    ∃ a' c' w', (Builtin.append_ #[t, t] ty #[v, .slice (some ⟨g, 0, none⟩) 1 c]).run P w = .ok (.slice a' (xs.length + 1) c') w' ∧ Grew B m0 w w' (.slice a' (xs.length + 1) c') (xs ++ [y]) := by
  obtain ⟨F, ho, hn, hb⟩ := h
  obtain ⟨G, hoy, hny, hby⟩ := hy
  have hcells : CellsAt w (some ⟨g, 0, none⟩) ([cs] : List (List Value)).flatten := by
    refine .inr ⟨_, rfl, fun j u hu => ?_⟩
    rw [addr_add, Nat.zero_add, cell_of_row w g j _ e (0, 0) hg]
    simpa using hu
  obtain ⟨v', w', F', hr, ho', hn', hgr, hF'⟩ := run_app (P := P) (ty := ty) T ho (a := some ⟨g, 0, none⟩) (c := c) (m := 1) (ys := [y]) rfl hcells (Gs := [G]) ⟨hoy, trivial⟩
    (by
      simp only [List.flatten_cons, List.flatten_nil, List.append_nil]
      refine List.nodup_append.2 ⟨hn, hny, fun a ha b hbb e => ?_⟩
      have h1 := hb a ha
      have h2 := hby b hbb
      omega) hbytes h63
  have hown := own_ownBlock ho
  obtain ⟨a', c', rfl, _⟩ := rd_slice_elim (Own.rd_of ho')
  rw [List.length_append] at hr ho'
  refine ⟨a', c', w', hr, ⟨⟨F', ho', hn', fun b hbm => ⟨?_, Own.lt ho' b hbm⟩⟩, ?_, ?_⟩⟩
  · rcases hF' b hbm with h | h | h
    · exact (hb b h).1
    · simp at h
      exact Nat.le_trans hBm (hby b h).1
    · omega
  · exact (Below.refl B w).grown hgr hB fun k hk => (hb k (hown k hk)).1
  · intro b hbl hbb
    refine hgr.block b hbl fun e => ?_
    have := hb b (hown b e.symm)
    omega

section
variable {ops : Array Oper} {rest : List Oper} {o : Oper} {a : Act} {Q : Exit → Act → World → Prop}
/-- the walk's arm at 'append(out, ys...)', ys a slice of leaves -/
theorem wpList_app_leaf [Leaf α] {t : TypeId} {bytes : Nat} (T : SlT P t α bytes) (hgd : o.guard = none) (s x : Operand) (ho : o.op = .call { callee := .builtin .append, args := #[s, x], argTypes := #[t, t] })
    {B m0 : Nat} {v : Value} {xs : List α} (hs : a.eval s = v) (h : Fresh B m0 w [v] xs) (hB : B ≤ w.heap.size)
    {S : Nat → Prop} {ad : Option Addr} {n c : Nat} {ys : List α} (hx : a.eval x = .slice ad n c) (hn : n = ys.length) (hy : IsSlice S w ad c ys) (hbytes : (xs.length + ys.length) * bytes ≤ 140737488355328) (h63 : xs.length + ys.length ≤ maxLen)
    (k : ∀ a' c' w', Grew B m0 w w' (.slice a' (xs.length + ys.length) c') (xs ++ ys) → wpList P ops Q rest (a.put o.dst (.slice a' (xs.length + ys.length) c')) w') : wpList P ops Q (o :: rest) a w := by
  refine wpList_plain hgd fun K hK => ?_
  subst hn
  obtain ⟨a', c', w', hr, hg⟩ := run_app_leaf (P := P) (ty := o.type) T h hB hy hbytes h63
  unfold Oper.wp execOp
  simp only [ho, resolve, invoke, builtin, Sem.run_bind, Sem.run_pure, Result.andThen_ok, List.map_toArray, List.map_cons, List.map_nil, hs, hx, hr]
  exact hK _ _ (k a' c' w' hg)
/-- the walk's arm at 'append(out, y)' -/
theorem wpList_app_one {t : TypeId} {bytes : Nat} (T : SlT P t α bytes) (hgd : o.guard = none) (s x : Operand) (ho : o.op = .call { callee := .builtin .append, args := #[s, x], argTypes := #[t, t] })
    {B m0 : Nat} {v : Value} {xs : List α} (hs : a.eval s = v) (h : Fresh B m0 w [v] xs) (hB : B ≤ w.heap.size)
    {g c : Nat} {cs : List Value} {e : TypeId} {m1 : Nat} {y : α} (hx : a.eval x = .slice (some ⟨g, 0, none⟩) 1 c) (hg : w.heap[g]? = some (.cells cs.toArray e (0, 0))) (hy : Fresh m0 m1 w cs y) (hBm : B ≤ m0)
    (hbytes : (xs.length + 1) * bytes ≤ 140737488355328) (h63 : xs.length + 1 ≤ maxLen)
    (k : ∀ a' c' w', Grew B m0 w w' (.slice a' (xs.length + 1) c') (xs ++ [y]) → wpList P ops Q rest (a.put o.dst (.slice a' (xs.length + 1) c')) w') : wpList P ops Q (o :: rest) a w := by
  refine wpList_plain hgd fun K hK => ?_
  obtain ⟨a', c', w', hr, hgr⟩ := run_app_one (P := P) (ty := o.type) T h hB (c := c) hg hy hBm hbytes h63
  unfold Oper.wp execOp
  simp only [ho, resolve, invoke, builtin, Sem.run_bind, Sem.run_pure, Result.andThen_ok, List.map_toArray, List.map_cons, List.map_nil, hs, hx, hr]
  exact hK _ _ (k a' c' w' hgr)
end
end

/-- cells from o on set -/
def setAll (cur : Array Value) : Nat → List Value → Array Value
  | _, [] => cur
  | o, u :: us => setAll (cur.setIfInBounds o u) (o + 1) us
theorem setAll_size : ∀ (us : List Value) (cur : Array Value) (o : Nat), (setAll cur o us).size = cur.size
  | [], _, _ => rfl
  | u :: us, cur, o => by rw [setAll, setAll_size us]; simp
theorem setAll_toList : ∀ (us : List Value) (cur : Array Value) (o : Nat), o + us.length ≤ cur.size → (setAll cur o us).toList = cur.toList.take o ++ us ++ cur.toList.drop (o + us.length)
  | [], cur, o, _ => by simp [setAll]
  | u :: us, cur, o, h => by
    rw [List.length_cons] at h
    rw [setAll, setAll_toList us _ _ (by simp; omega)]
    have ho : o < cur.toList.length := by simp; omega
    rw [Array.toList_setIfInBounds, List.take_add_one, List.take_set_of_le (by omega), List.getElem?_set_self ho, List.drop_set_of_lt (by omega)]
    simp [Nat.add_assoc, Nat.add_comm 1]

section
variable {α : Type} [Own α] [Tid α] {w w' : World}
theorem own_head {F : List Nat} {g n cap : Nat} {xs : List α} (h : own F w [.slice (some ⟨g, 0, none⟩) n cap] xs) :
    ∃ cur cs Fs, w.heap[g]? = some (.cells cur (Tid.tid α) (0, 0)) ∧ F = g :: Fs ∧ cur.size = cap * Rep.sz α ∧ cs.length = xs.length ∧ n = xs.length ∧ xs.length ≤ cap ∧ (cs : List (List Value)).flatten = cur.toList.take (xs.length * Rep.sz α) ∧ ∀ c ∈ cs, c.length = Rep.sz α := by
  obtain ⟨v, cs, Fs, hv, hrow, rfl, hall, hz⟩ := h
  simp at hv
  subst hv
  obtain ⟨h1, h2, h3⟩ := hall.lens
  rcases hrow.2 with ⟨hh, _⟩ | ⟨g', cap', cur, hh, _, hg, hnc, hcm, hcs, htake⟩
  · simp at hh
  · simp only [Value.slice.injEq, Option.some.injEq, Addr.mk.injEq, and_true] at hh
    obtain ⟨rfl, rfl, rfl⟩ := hh
    exact ⟨cur, cs, Fs.flatten, hg, by simp [Value.ownBlock], hcs, h2, rfl, hnc, htake.symm, h3⟩

/-- an own slice's cells may be written -/
theorem Fresh.there {B m : Nat} {g n cap : Nat} {xs : List α} (h : Fresh B m w [.slice (some ⟨g, 0, none⟩) n cap] xs) {i : Nat} (hi : i < xs.length) {j : Nat} (hj : j < Rep.sz α) :
    (∃ u, w.cell? ⟨g, i * Rep.sz α + j, none⟩ = some u) ∧ w.frozen? ⟨g, i * Rep.sz α + j, none⟩ = false ∧ B ≤ g ∧ g < m := by
  obtain ⟨F, ho, hn, hb⟩ := h
  obtain ⟨cur, cs, Fs, hg, rfl, hsz, hl, rfl, hnc, hfl, hcl⟩ := own_head ho
  have hlt : i * Rep.sz α + j < cur.size := by
    rw [hsz]
    calc i * Rep.sz α + j < i * Rep.sz α + Rep.sz α := by omega
      _ = (i + 1) * Rep.sz α := by rw [Nat.add_mul]; omega
      _ ≤ cap * Rep.sz α := Nat.mul_le_mul_right _ (by omega)
  refine ⟨⟨cur[i * Rep.sz α + j], ?_⟩, frozen_of_row w g _ cur _ hg, hb g (by simp)⟩
  rw [cell_of_row w g _ cur _ (0, 0) hg]
  simp [hlt]

/-- element i is written: its new cells are d; w' is w but for block g. -/
theorem Fresh.set {B m m' : Nat} {g n cap : Nat} {xs : List α} (h : Fresh B m w [.slice (some ⟨g, 0, none⟩) n cap] xs) {i : Nat} (hi : i < xs.length) {d : List Value} {y : α}
    (hset : ∀ cur e, w.heap[g]? = some (.cells cur e (0, 0)) → w'.heap[g]? = some (.cells (setAll cur (i * Rep.sz α) d) e (0, 0)))
    (hrest : ∀ b, b ≠ g → b < w.heap.size → w'.heap[b]? = w.heap[b]?) (hy : Fresh m m' w d y) (hBm : B ≤ m) : Fresh B w'.heap.size w' [.slice (some ⟨g, 0, none⟩) n cap] (xs.set i y) := by
  obtain ⟨F, ho, hn, hb⟩ := h
  obtain ⟨G, hoy, hny, hby⟩ := hy
  obtain ⟨v, cs, Fs, hv, hrow, rfl, hall, hz⟩ := ho
  simp at hv
  subst hv
  obtain ⟨h1, h2, h3⟩ := hall.lens
  have hd : d.length = Rep.sz α := Rep.len (Own.rd_of hoy)
  rcases hrow.2 with ⟨hh, _⟩ | ⟨g', cap', cur, hh, _, hg, hnc, hcm, hcs, htake⟩
  · simp at hh
  · simp only [Value.slice.injEq, Option.some.injEq, Addr.mk.injEq, and_true] at hh
    obtain ⟨rfl, rfl, rfl⟩ := hh
    have hgF : g ∉ Fs.flatten := by
      simp only [Value.ownBlock, Option.toList_some, List.cons_append, List.nil_append] at hn
      exact (List.nodup_cons.1 hn).1
    have hgm : B ≤ g ∧ g < m := hb g (by simp [Value.ownBlock])
    have hgG : g ∉ G := fun hm => by have := hby g hm; omega
    have hle : (i + 1) * Rep.sz α ≤ xs.length * Rep.sz α := Nat.mul_le_mul_right _ (by omega)
    have hle2 : xs.length * Rep.sz α ≤ cap * Rep.sz α := Nat.mul_le_mul_right _ hnc
    rw [Nat.add_mul, Nat.one_mul] at hle
    have hall0 : ownAll w (Fs.set i G) (cs.set i d) (xs.set i y) := hall.set hoy i
    have hsub : ∀ b, b ∈ (Fs.set i G).flatten → b ∈ Fs.flatten ∨ b ∈ G := by
      intro b hbm
      obtain ⟨L, hL, hbL⟩ := List.mem_flatten.1 hbm
      rcases List.mem_or_eq_of_mem_set hL with hL | rfl
      · exact .inl (List.mem_flatten.2 ⟨L, hL, hbL⟩)
      · exact .inr hbL
    have hall' : ownAll w' (Fs.set i G) (cs.set i d) (xs.set i y) := by
      refine ownAll.frame (w := w) (fun b hbm => hrest b ?_ (hall0.lt b hbm)) hall0
      rintro rfl
      rcases hsub b hbm with h | h
      · exact hgF h
      · exact hgG h
    have hnd : (Fs.set i G).flatten.Nodup := by
      have hFn : Fs.flatten.Nodup := by
        simp only [Value.ownBlock, Option.toList_some, List.cons_append, List.nil_append] at hn
        exact (List.nodup_cons.1 hn).2
      have hFG : ∀ b, b ∈ Fs.flatten → b ∉ G := by
        intro b h1 h2
        have e1 := hb b (by simp [Value.ownBlock]; exact .inr (by simpa using h1))
        have e2 := hby b h2
        omega
      clear hall0 hall' hsub hb hn hall hrow
      clear h1
      induction Fs generalizing i with
      | nil => simp
      | cons F Fs ih =>
        rw [List.flatten_cons] at hFn hgF hFG
        obtain ⟨n1, n2, n3⟩ := List.nodup_append.1 hFn
        cases i with
        | zero =>
          rw [List.set_cons_zero, List.flatten_cons]
          refine List.nodup_append.2 ⟨hny, n2, fun a ha b hb e => ?_⟩
          subst e
          exact hFG a (List.mem_append.2 (.inr hb)) ha
        | succ i =>
          rw [List.set_cons_succ, List.flatten_cons]
          have ih' : (Fs.set i G).flatten.Nodup := by
            clear ih
            have : ∀ (Fs : List (List Nat)) (i : Nat), Fs.flatten.Nodup → (∀ b, b ∈ Fs.flatten → b ∉ G) → (Fs.set i G).flatten.Nodup := by
              intro Fs
              induction Fs with
              | nil => intro i _ _; simp
              | cons F Fs ih =>
                intro i hn hd
                rw [List.flatten_cons] at hn hd
                obtain ⟨m1, m2, m3⟩ := List.nodup_append.1 hn
                cases i with
                | zero =>
                  rw [List.set_cons_zero, List.flatten_cons]
                  refine List.nodup_append.2 ⟨hny, m2, fun a ha b hb e => ?_⟩
                  subst e
                  exact hd a (List.mem_append.2 (.inr hb)) ha
                | succ i =>
                  rw [List.set_cons_succ, List.flatten_cons]
                  refine List.nodup_append.2 ⟨m1, ih i m2 fun b hb => hd b (List.mem_append.2 (.inr hb)), fun a ha b hb e => ?_⟩
                  subst e
                  obtain ⟨L, hL, hbL⟩ := List.mem_flatten.1 hb
                  rcases List.mem_or_eq_of_mem_set hL with hL | rfl
                  · exact m3 a ha a (List.mem_flatten.2 ⟨L, hL, hbL⟩) rfl
                  · exact hd a (List.mem_append.2 (.inl ha)) hbL
            exact this Fs i n2 fun b hb => hFG b (List.mem_append.2 (.inr hb))
          refine List.nodup_append.2 ⟨n1, ih', fun a ha b hb e => ?_⟩
          subst e
          obtain ⟨L, hL, hbL⟩ := List.mem_flatten.1 hb
          rcases List.mem_or_eq_of_mem_set hL with hL | rfl
          · exact n3 a ha a (List.mem_flatten.2 ⟨L, hL, hbL⟩) rfl
          · exact hFG a (List.mem_append.2 (.inl ha)) hbL
    have hg' := hset cur _ hg
    refine ⟨g :: (Fs.set i G).flatten, ⟨_, cs.set i d, Fs.set i G, rfl, ⟨?_, .inr ⟨g, cap, _, ?_, Nat.zero_le _, hg', ?_, hcm, ?_, ?_⟩⟩, by simp [Value.ownBlock], hall', hz⟩, List.nodup_cons.2 ⟨fun hm => ?_, hnd⟩, fun b hbm => ?_⟩
    · rw [flatten_len (z := Rep.sz α) (hall'.lens).2.2]; simp [h2]
    · simp
    · simpa using hnc
    · rw [setAll_size]; exact hcs
    · rw [setAll_toList _ _ _ (by rw [hcs, hd]; omega), hd, flatten_set h3 i d hd (by omega), List.length_set, ← htake]
      have hl : cur.toList.length = cap * Rep.sz α := by simpa using hcs
      rw [List.take_append, List.take_append, List.take_take]
      simp only [List.length_take, List.length_append, hl, hd, List.drop_take]
      rw [List.take_take, Nat.min_eq_right (by omega), Nat.min_eq_left (by omega), Nat.min_eq_left (by omega), List.take_of_length_le (l := d) (by omega)]
    · rcases hsub g hm with h | h
      · exact hgF h
      · exact hgG h
    · have hlw : ∀ b, b ∈ (Fs.set i G).flatten → b < w'.heap.size := hall'.lt
      rcases List.mem_cons.1 hbm with rfl | hbm
      · exact ⟨hgm.1, (Array.getElem?_eq_some_iff.1 hg').1⟩
      · refine ⟨?_, hlw b hbm⟩
        rcases hsub b hbm with h | h
        · exact (hb b (by simp [Value.ownBlock]; exact .inr (by simpa using h))).1
        · exact Nat.le_trans hBm (hby b h).1
end

section
variable {α : Type} [Own α] [Tid α] {w : World}
/-- of one cell each -/
theorem Fresh.there1 (hz : Rep.sz α = 1) {B m : Nat} {g n cap : Nat} {xs : List α} (h : Fresh B m w [.slice (some ⟨g, 0, none⟩) n cap] xs) {i : Nat} (hi : i < xs.length) :
    (∃ u, w.cell? ⟨g, i, none⟩ = some u) ∧ w.frozen? ⟨g, i, none⟩ = false ∧ B ≤ g ∧ g < m := by
  have := h.there hi (j := 0) (by omega)
  rw [hz, Nat.mul_one] at this
  exact this
theorem Fresh.set1 (hz : Rep.sz α = 1) {B m : Nat} {g n cap : Nat} {xs : List α} (h : Fresh B m w [.slice (some ⟨g, 0, none⟩) n cap] xs) {i : Nat} (hi : i < xs.length) {u : Value} {y : α} {m' : Nat}
    (hy : Fresh m m' w [u] y) (hBm : B ≤ m) : Fresh B (w.setCell ⟨g, i, none⟩ u).heap.size (w.setCell ⟨g, i, none⟩ u) [.slice (some ⟨g, 0, none⟩) n cap] (xs.set i y) := by
  refine h.set hi (fun cur e hg => ?_) (fun b hb _ => Below.heap_setCell w _ u b hb) hy hBm
  rw [hz, Nat.mul_one]
  exact heap_setCell_same w g i cur e u hg
end

section
variable {α : Type} [Own α] [Tid α] {w : World}
theorem Fresh.cells2 (hz : Rep.sz α = 2) {B m : Nat} {g n cap : Nat} {xs : List α} (h : Fresh B m w [.slice (some ⟨g, 0, none⟩) n cap] xs) {i : Nat} (hi : i < xs.length) :
    ∃ u0 u1 : Value, w.cell? ⟨g, i * 2, none⟩ = some u0 ∧ w.cell? ⟨g, i * 2 + 1, none⟩ = some u1 ∧ w.frozen? ⟨g, i * 2, none⟩ = false ∧ w.frozen? ⟨g, i * 2 + 1, none⟩ = false := by
  obtain ⟨⟨u0, h0⟩, f0, _⟩ := h.there hi (j := 0) (by omega)
  obtain ⟨⟨u1, h1⟩, f1, _⟩ := h.there hi (j := 1) (by omega)
  rw [hz] at h0 f0 h1 f1
  exact ⟨u0, u1, h0, h1, f0, f1⟩
theorem Fresh.cells3 (hz : Rep.sz α = 3) {B m : Nat} {g n cap : Nat} {xs : List α} (h : Fresh B m w [.slice (some ⟨g, 0, none⟩) n cap] xs) {i : Nat} (hi : i < xs.length) :
    ∃ u0 u1 u2 : Value, w.cell? ⟨g, i * 3, none⟩ = some u0 ∧ w.cell? ⟨g, i * 3 + 1, none⟩ = some u1 ∧ w.cell? ⟨g, i * 3 + 2, none⟩ = some u2 ∧ w.frozen? ⟨g, i * 3, none⟩ = false ∧ w.frozen? ⟨g, i * 3 + 1, none⟩ = false ∧ w.frozen? ⟨g, i * 3 + 2, none⟩ = false := by
  obtain ⟨⟨u0, h0⟩, f0, _⟩ := h.there hi (j := 0) (by omega)
  obtain ⟨⟨u1, h1⟩, f1, _⟩ := h.there hi (j := 1) (by omega)
  obtain ⟨⟨u2, h2⟩, f2, _⟩ := h.there hi (j := 2) (by omega)
  rw [hz] at h0 f0 h1 f1 h2 f2
  exact ⟨u0, u1, u2, h0, h1, h2, f0, f1, f2⟩
theorem Fresh.cells5 (hz : Rep.sz α = 5) {B m : Nat} {g n cap : Nat} {xs : List α} (h : Fresh B m w [.slice (some ⟨g, 0, none⟩) n cap] xs) {i : Nat} (hi : i < xs.length) :
    ∃ u0 u1 u2 u3 u4 : Value, w.cell? ⟨g, i * 5, none⟩ = some u0 ∧ w.cell? ⟨g, i * 5 + 1, none⟩ = some u1 ∧ w.cell? ⟨g, i * 5 + 2, none⟩ = some u2 ∧ w.cell? ⟨g, i * 5 + 3, none⟩ = some u3 ∧ w.cell? ⟨g, i * 5 + 4, none⟩ = some u4 ∧ w.frozen? ⟨g, i * 5, none⟩ = false ∧ w.frozen? ⟨g, i * 5 + 1, none⟩ = false ∧ w.frozen? ⟨g, i * 5 + 2, none⟩ = false ∧ w.frozen? ⟨g, i * 5 + 3, none⟩ = false ∧ w.frozen? ⟨g, i * 5 + 4, none⟩ = false := by
  obtain ⟨⟨u0, h0⟩, f0, _⟩ := h.there hi (j := 0) (by omega)
  obtain ⟨⟨u1, h1⟩, f1, _⟩ := h.there hi (j := 1) (by omega)
  obtain ⟨⟨u2, h2⟩, f2, _⟩ := h.there hi (j := 2) (by omega)
  obtain ⟨⟨u3, h3⟩, f3, _⟩ := h.there hi (j := 3) (by omega)
  obtain ⟨⟨u4, h4⟩, f4, _⟩ := h.there hi (j := 4) (by omega)
  rw [hz] at h0 f0 h1 f1 h2 f2 h3 f3 h4 f4
  exact ⟨u0, u1, u2, u3, u4, h0, h1, h2, h3, h4, f0, f1, f2, f3, f4⟩
end

/-- cells from o on of block g set, one behind the other -/
def setCellsAt (w : World) (g : Nat) : Nat → List Value → World
  | _, [] => w
  | o, u :: us => setCellsAt (w.setCell ⟨g, o, none⟩ u) g (o + 1) us
theorem setCellsAt_heap (g : Nat) : ∀ (us : List Value) (w : World) (o : Nat) (cur : Array Value) (e : TypeId), w.heap[g]? = some (.cells cur e (0, 0)) → (setCellsAt w g o us).heap[g]? = some (.cells (setAll cur o us) e (0, 0))
  | [], _, _, _, _, h => h
  | u :: us, w, o, cur, e, h => setCellsAt_heap g us _ _ _ _ (heap_setCell_same w g o cur e u h)
theorem setCellsAt_rest (g b : Nat) (hb : b ≠ g) : ∀ (us : List Value) (w : World) (o : Nat), (setCellsAt w g o us).heap[b]? = w.heap[b]?
  | [], _, _ => rfl
  | u :: us, w, o => (setCellsAt_rest g b hb us _ _).trans (Below.heap_setCell w ⟨g, o, none⟩ u b hb)
theorem setCellsAt_size (g : Nat) : ∀ (us : List Value) (w : World) (o : Nat), (setCellsAt w g o us).heap.size = w.heap.size
  | [], _, _ => rfl
  | _ :: us, _, _ => (setCellsAt_size g us _ _).trans (by simp [World.setCell])
theorem setCellsAt_below {B : Nat} {a : World} (g : Nat) (hg : B ≤ g) : ∀ (us : List Value) (w : World) (o : Nat), Below B a w → Below B a (setCellsAt w g o us)
  | [], _, _, h => h
  | u :: us, _, _, h => setCellsAt_below g hg us _ _ (h.setCell hg u)
section
variable {α : Type} [Own α] [Tid α] {w : World}
theorem Fresh.setN {B m : Nat} {g n cap : Nat} {xs : List α} (h : Fresh B m w [.slice (some ⟨g, 0, none⟩) n cap] xs) {i : Nat} (hi : i < xs.length) {d : List Value} {y : α} {m' : Nat}
    (hy : Fresh m m' w d y) (hBm : B ≤ m) : Fresh B (setCellsAt w g (i * Rep.sz α) d).heap.size (setCellsAt w g (i * Rep.sz α) d) [.slice (some ⟨g, 0, none⟩) n cap] (xs.set i y) :=
  h.set hi (fun cur e hg => setCellsAt_heap g d w _ cur e hg) (fun b hb _ => setCellsAt_rest g b hb d w _) hy hBm
end

/-- what a variable of type α holds at first -/
class Zr (α : Type) where zr : α
instance : Zr Int := ⟨0⟩
instance : Zr Bool := ⟨false⟩
instance : Zr ByteArray := ⟨⟨#[]⟩⟩
instance {α : Type} : Zr (List α) := ⟨[]⟩

theorem madeCells_flat (z : Array Value) (n : Nat) (hz : 0 < z.size) : (madeCells z (n * z.size)).toList = (List.replicate n z.toList).flatten := by
  have hall : ∀ c ∈ List.replicate n z.toList, c.length = z.size := by
    intro c hc
    rw [(List.mem_replicate.1 hc).2]
    simp
  apply List.ext_getElem?
  intro j
  by_cases hj : j < n * z.size
  · have h1 : j / z.size < n := (Nat.div_lt_iff_lt_mul hz).2 hj
    have h2 : j % z.size < z.size := Nat.mod_lt _ hz
    have hdm : j / z.size * z.size + j % z.size = j := by rw [Nat.mul_comm]; exact Nat.div_add_mod j _
    have := flatten_at hall (i := j / z.size) (c := z.toList) (by simp [h1]) h2
    rw [hdm] at this
    rw [this]
    simp [madeCells, hj, h2]
  · rw [List.getElem?_eq_none (by simp [size_madeCells]; omega), List.getElem?_eq_none (by rw [flatten_len hall]; simp; omega)]

section
variable {P : Program} {w : World} {α : Type} [Own α] [Tid α] [Zr α]
/-- what a new row of n elements reads as -/
theorem Fresh.made {z : Value} (hz : ∀ w, own [] w z.cells.toList (Zr.zr : α)) (hp : 0 < Rep.sz α) (B n : Nat) (hn : n ≤ maxLen) (hB : B ≤ w.heap.size) :
    Fresh B (w.heap.size + 1) (w.alloc (.cells (madeCells z.cells (n * Rep.sz α)) (Tid.tid α))) [.slice (some ⟨w.heap.size, 0, none⟩) n n] (List.replicate n (Zr.zr : α)) := by
  have hzs : z.cells.size = Rep.sz α := by have := Rep.len (Own.rd_of (hz w)); simpa using this
  have hall : ownAll (w.alloc (.cells (madeCells z.cells (n * Rep.sz α)) (Tid.tid α))) (List.replicate (List.replicate n (Zr.zr : α)).length []) (List.replicate n z.cells.toList) (List.replicate n (Zr.zr : α)) :=
    ownAll_leaf _ _ (by simp) fun i hi c hc => by
      have : c = z.cells.toList := by rw [List.getElem?_replicate] at hc; split at hc <;> simp at hc; exact hc.symm
      rw [this, List.getElem_replicate]
      exact hz _
  refine ⟨[w.heap.size], ⟨_, List.replicate n z.cells.toList, _, rfl, ⟨?_, .inr ⟨w.heap.size, n, _, ?_, Nat.zero_le _, heap_alloc_new w _, ?_, hn, ?_, ?_⟩⟩, ?_, hall, hp⟩, by simp, fun b hb => ?_⟩
  · rw [flatten_len (z := Rep.sz α) hall.lens.2.2]; simp
  · simp
  · simp
  · rw [size_madeCells]
  · rw [← hzs, madeCells_flat _ _ (by omega), hzs]
    apply List.take_of_length_le
    rw [flatten_len (z := Rep.sz α) hall.lens.2.2]; simp
  · rw [flatten_replicate_nil]; simp [Value.ownBlock]
  · simp at hb; omega

/-- the type of the slices of α, with what a variable of type α holds at first -/
structure SlZ (P : Program) (t : TypeId) (α : Type) [Own α] [Tid α] [Zr α] (bytes : Nat) (z : Value) : Prop where
  ht : P.underlying t = some (.slice (Tid.tid α))
  hi : ∃ i, P.info? (Tid.tid α) = some i ∧ i.zero = some z ∧ i.size = Rep.sz α ∧ i.bytes = bytes
  hz : ∀ w, own [] w z.cells.toList (Zr.zr : α)
  pos : 0 < Rep.sz α
theorem SlZ.slt {t : TypeId} {bytes : Nat} {z : Value} (h : SlZ P t α bytes z) : SlT P t α bytes := by
  obtain ⟨i, h1, h2, h3, h4⟩ := h.hi
  exact ⟨h.ht, ⟨i, z, h1, h2, h3, h4, by have := Rep.len (Own.rd_of (h.hz default)); simpa using this⟩, h.pos⟩
/-- make([]T, n) -/
theorem SlZ.make {t : TypeId} {bytes : Nat} {z : Value} (h : SlZ P t α bytes z) (n : Nat) (hb : bytes * n ≤ 281474976710656) (hm : n ≤ maxLen) (w : World) :
    (Instr.makeSlice t (.int .i64 n) (.int .i64 n)).run P w = .ok (.slice (some ⟨w.heap.size, 0, none⟩) n n) (w.alloc (.cells (madeCells z.cells (n * Rep.sz α)) (Tid.tid α))) := by
  obtain ⟨i, h1, h2, h3, h4⟩ := h.hi
  have hb' : (i.bytes : Int) * (n : Int) ≤ 281474976710656 := by
    have e : ((bytes * n : Nat) : Int) ≤ 281474976710656 := by omega
    rw [h4]
    rwa [Int.natCast_mul] at e
  have := run_make (P := P) w t (Tid.tid α) i z h.ht h1 h2 .i64 .i64 n n (by omega) (Int.le_refl _) hb' (by simp [maxLen] at hm; omega)
  rw [h3] at this
  simpa using this
end
end Go.Vc
namespace Go.Vc

theorem drop_cons {α : Type} (xs : List α) (k : Nat) (h : k < xs.length) : xs.drop k = xs[k] :: xs.drop (k + 1) := List.drop_eq_getElem_cons h
theorem drop_nil {α : Type} (xs : List α) (k : Nat) (h : ¬ k < xs.length) : xs.drop k = [] := List.drop_eq_nil_of_le (by omega)

theorem all_next {α : Type} {xs : List α} {p : α → Bool} {k : Nat} (H : xs.all p = (xs.drop k).all p) (h : k < xs.length) (hp : p xs[k] = true) : xs.all p = (xs.drop (k + 1)).all p := by
  rw [H, drop_cons xs k h, List.all_cons, hp, Bool.true_and]
theorem all_bad {α : Type} {xs : List α} {p : α → Bool} {k : Nat} (H : xs.all p = (xs.drop k).all p) (h : k < xs.length) (hp : p xs[k] = false) : xs.all p = false := by
  rw [H, drop_cons xs k h, List.all_cons, hp, Bool.false_and]
theorem all_end {α : Type} {xs : List α} {p : α → Bool} {k : Nat} (H : xs.all p = (xs.drop k).all p) (h : ¬ k < xs.length) : xs.all p = true := by
  rw [H, drop_nil xs k h]; rfl

theorem eq_next {α : Type} [DecidableEq α] {xs ys : List α} {k : Nat} (H : decide (xs = ys) = decide (xs.drop k = ys.drop k)) (h : k < xs.length) (h' : k < ys.length) (e : xs[k] = ys[k]) :
    decide (xs = ys) = decide (xs.drop (k + 1) = ys.drop (k + 1)) := by
  rw [H, drop_cons xs k h, drop_cons ys k h', e]
  simp only [List.cons.injEq, true_and]
theorem eq_bad {α : Type} [DecidableEq α] {xs ys : List α} {k : Nat} (H : decide (xs = ys) = decide (xs.drop k = ys.drop k)) (h : k < xs.length) (h' : k < ys.length) (e : ¬ xs[k] = ys[k]) :
    decide (xs = ys) = false := by
  rw [H, drop_cons xs k h, drop_cons ys k h']
  simp only [List.cons.injEq, e, false_and, decide_false]
theorem eq_end {α : Type} [DecidableEq α] {xs ys : List α} {k : Nat} (H : decide (xs = ys) = decide (xs.drop k = ys.drop k)) (h : ¬ k < xs.length) (h' : ¬ k < ys.length) :
    decide (xs = ys) = true := by
  rw [H, drop_nil xs k h, drop_nil ys k h']; rfl

theorem byte_at (s : ByteArray) (k : Nat) (h : k < s.size) : s.data.toList[k]'(by simpa using h) = s[k] := rfl

/-- a row filled from the front -/
def fill {α : Type} (xs : List α) (z : α) (k : Nat) : List α := xs.take k ++ List.replicate (xs.length - k) z
theorem fill_zero {α : Type} (xs : List α) (z : α) : fill xs z 0 = List.replicate xs.length z := by simp [fill]
theorem fill_len {α : Type} (xs : List α) (z : α) (k : Nat) (h : k ≤ xs.length) : (fill xs z k).length = xs.length := by simp [fill]; omega
theorem fill_all {α : Type} (xs : List α) (z : α) (k : Nat) (h : ¬ k < xs.length) : fill xs z k = xs := by
  have e : xs.length - k = 0 := by omega
  rw [fill, e, List.replicate_zero, List.append_nil, List.take_of_length_le (by omega)]
theorem fill_next {α : Type} (xs : List α) (z : α) (k : Nat) (h : k < xs.length) : (fill xs z k).set k xs[k] = fill xs z (k + 1) := by
  have e : xs.length - k = (xs.length - (k + 1)) + 1 := by omega
  have hl : (xs.take k).length = k := by simp; omega
  rw [fill, fill, e, List.replicate_succ, List.set_append_right _ _ (by omega), hl, Nat.sub_self, List.set_cons_zero, List.take_succ_eq_append_getElem h, List.append_assoc]
  rfl

def withinB (n lo hi : Int) : Bool := decide (lo ≤ n) && decide (n ≤ hi)

def byteOk (c : UInt8) : Bool := decide (32 ≤ c.toNat) && decide (c.toNat ≤ 126)
def lineB (s : ByteArray) : Bool := decide (s.size ≤ 12) && s.data.toList.all byteOk
def textB (t : List ByteArray) : Bool := decide (t.length ≤ 10) && t.all lineB

/-- what is left of a budget -/
def sub (l : Int) (n : Nat) : Int := if l < n then -1 else l - n
theorem sub_zero (l : Int) (_ : 0 ≤ l) : sub l 0 = l := by unfold sub; split <;> omega
theorem sub_bad {l : Int} {a : Nat} (b : Nat) (h : l - a < 0) : sub l (a + b) = -1 := by unfold sub; rw [if_pos (by omega)]
theorem sub_bad' {l : Int} {a : Nat} (h : l - a < 0) : sub l a = -1 := by unfold sub; rw [if_pos (by omega)]
theorem sub_next {l : Int} {a : Nat} (b : Nat) (_ : 0 ≤ l - a) : sub l (a + b) = sub (l - a) b := by
  unfold sub
  by_cases h2 : l - a < b
  · rw [if_pos h2, if_pos (by omega)]
  · rw [if_neg h2, if_neg (by omega)]; omega
theorem sub_neg {l : Int} {a : Nat} (h : sub l a < 0) (_ : 0 ≤ l) : l - a < 0 := by
  unfold sub at h
  split at h <;> omega
theorem sub_neg1 {l : Int} {a : Nat} (h : sub l a < 0) (hl : 0 ≤ l) : sub l a = -1 := sub_bad' (sub_neg h hl)
theorem sub_pos {l : Int} {a : Nat} (h : 0 ≤ sub l a) : 0 ≤ l - a ∧ sub l a = l - a := by
  unfold sub at h ⊢
  by_cases h1 : l < a
  · rw [if_pos h1] at h; omega
  · rw [if_neg h1]; omega
theorem sub_le {l : Int} (a : Nat) (h : 0 ≤ l) : sub l a ≤ l := by unfold sub; split <;> omega
def bsum {α : Type} (b : α → Nat) (xs : List α) : Nat := (xs.map b).sum
theorem bsum_cons {α : Type} (b : α → Nat) (x : α) (xs : List α) : bsum b (x :: xs) = b x + bsum b xs := by simp [bsum]
theorem bsum_drop {α : Type} (b : α → Nat) (xs : List α) (k : Nat) (h : k < xs.length) : bsum b (xs.drop k) = b xs[k] + bsum b (xs.drop (k + 1)) := by rw [drop_cons xs k h, bsum_cons]
theorem bsum_end {α : Type} (b : α → Nat) (xs : List α) (k : Nat) (h : ¬ k < xs.length) : bsum b (xs.drop k) = 0 := by rw [drop_nil xs k h]; rfl
/-- how much a slice takes of the budget -/
def bulkL {α : Type} (b : α → Nat) (xs : List α) : Nat := xs.length + bsum b xs
abbrev bulkS (xs : List ByteArray) : Nat := bulkL ByteArray.size xs
theorem bsum_at {α : Type} (b : α → Nat) (xs : List α) (i : Nat) (h : i < xs.length) : b xs[i] ≤ bsum b xs := by
  induction xs generalizing i with
  | nil => simp at h
  | cons x r ih =>
    rw [bsum_cons]
    cases i with
    | zero => simp
    | succ i => have := ih i (by simpa using h); simp only [List.getElem_cons_succ]; omega
end Go.Vc
namespace Go.Vc
open Go.RowKit
open Rep (rd)
open Own (own)

instance repProd {α β : Type} [Rep α] [Rep β] : Rep (α × β) where
  sz := Rep.sz α + Rep.sz β
  rd := fun S w vs x => ∃ v1 v2, vs = v1 ++ v2 ∧ rd S w v1 x.1 ∧ rd S w v2 x.2
  len := fun ⟨v1, v2, h, h1, h2⟩ => by rw [h, List.length_append, Rep.len h1, Rep.len h2]
  one := fun ⟨v1, v2, h, h1, h2⟩ u hu => by
    rw [h] at hu
    rcases List.mem_append.1 hu with hu | hu
    · exact Rep.one h1 u hu
    · exact Rep.one h2 u hu
  frame := fun hf ⟨v1, v2, h, h1, h2⟩ => ⟨v1, v2, h, Rep.frame hf h1, Rep.frame hf h2⟩

instance ownProd {α β : Type} [Own α] [Own β] : Own (α × β) where
  own := fun F w vs x => ∃ v1 v2 F1 F2, vs = v1 ++ v2 ∧ F = F1 ++ F2 ∧ own F1 w v1 x.1 ∧ own F2 w v2 x.2
  rd_of := fun ⟨v1, v2, F1, F2, h, hF, h1, h2⟩ => by
    subst hF
    exact ⟨v1, v2, h, Rep.mono (fun b hb => List.mem_append.2 (.inl hb)) (Own.rd_of h1), Rep.mono (fun b hb => List.mem_append.2 (.inr hb)) (Own.rd_of h2)⟩
  oframe := fun hf ⟨v1, v2, F1, F2, h, hF, h1, h2⟩ => by
    subst hF
    exact ⟨v1, v2, F1, F2, h, rfl, Own.oframe (fun b hb => hf b (List.mem_append.2 (.inl hb))) h1, Own.oframe (fun b hb => hf b (List.mem_append.2 (.inr hb))) h2⟩
  lt := fun ⟨v1, v2, F1, F2, h, hF, h1, h2⟩ b hb => by
    subst hF
    rcases List.mem_append.1 hb with hb | hb
    · exact Own.lt h1 b hb
    · exact Own.lt h2 b hb

instance {α β : Type} [Own α] [Own β] [Leaf α] [Leaf β] : Leaf (α × β) :=
  ⟨fun ⟨v1, v2, h, h1, h2⟩ => ⟨v1, v2, [], [], h, rfl, Leaf.of_rd h1, Leaf.of_rd h2⟩, fun ⟨_, _, F1, F2, _, hF, h1, h2⟩ => by rw [hF, Leaf.none h1, Leaf.none h2]; rfl⟩

/-- a struct, by its fields as a tuple -/
@[reducible] def Rep.via {σ τ : Type} [Rep τ] (f : σ → τ) : Rep σ where
  sz := Rep.sz τ
  rd := fun S w vs x => rd S w vs (f x)
  len := fun h => Rep.len h
  one := fun h => Rep.one h
  frame := fun hf h => Rep.frame hf h
@[reducible] def Own.via {σ τ : Type} [Own τ] (f : σ → τ) : Own σ where
  toRep := Rep.via f
  own := fun F w vs x => own F w vs (f x)
  rd_of := fun h => Own.rd_of (α := τ) h
  oframe := fun hf h => Own.oframe (α := τ) hf h
  lt := fun h => Own.lt (α := τ) h

structure Delta where
  fr : Int
  many : Int
  lines : List ByteArray
  deriving DecidableEq
instance repDelta : Rep Delta := Rep.via fun d => (d.fr, d.many, d.lines)
instance ownDelta [Tid ByteArray] : Own Delta := Own.via fun d => (d.fr, d.many, d.lines)
instance : Zr Delta := ⟨⟨0, 0, []⟩⟩

theorem rd_delta {S : Nat → Prop} {w : World} {vs : List Value} {d : Delta} (h : rd S w vs d) :
    ∃ a cap, vs = [.int .i64 d.fr, .int .i64 d.many, .slice a d.lines.length cap] ∧ I64 d.fr ∧ I64 d.many ∧ IsSlice S w a cap d.lines := by
  obtain ⟨_, _, rfl, ⟨rfl, h1⟩, _, _, rfl, ⟨rfl, h2⟩, a, cap, rfl, h3⟩ := h
  exact ⟨a, cap, rfl, h1, h2, h3⟩
theorem rd_delta_mk {S : Nat → Prop} {w : World} {v : Value} {d : Delta} (h1 : I64 d.fr) (h2 : I64 d.many) (h3 : rd S w [v] d.lines) : rd S w [.int .i64 d.fr, .int .i64 d.many, v] d :=
  ⟨[_], [_, _], rfl, ⟨rfl, h1⟩, [_], [_], rfl, ⟨rfl, h2⟩, h3⟩
theorem IsSlice.delta {S : Nat → Prop} {w : World} {a : Option Addr} {cap : Nat} {xs : List Delta} (h : IsSlice S w a cap xs) {i : Nat} (hi : i < xs.length) :
    ∃ g off b n, a = some ⟨g, off, none⟩ ∧ w.cell? ⟨g, off + i * 3, none⟩ = some (.int .i64 xs[i].fr) ∧ w.cell? ⟨g, off + i * 3 + 1, none⟩ = some (.int .i64 xs[i].many) ∧
      w.cell? ⟨g, off + i * 3 + 2, none⟩ = some (.slice b xs[i].lines.length n) ∧ I64 xs[i].fr ∧ I64 xs[i].many ∧ IsSlice S w b n xs[i].lines := by
  obtain ⟨g, off, us, h1, _, h3, h4⟩ := h.elem hi
  obtain ⟨b, n, rfl, h5, h6, h7⟩ := rd_delta h4
  exact ⟨g, off, b, n, h1, h3 0 _ rfl, h3 1 _ rfl, h3 2 _ rfl, h5, h6, h7⟩
theorem Fresh.delta [Tid ByteArray] {B m : Nat} {w : World} {v : Value} {d : Delta} (h : Fresh B m w [v] d.lines) (h1 : I64 d.fr) (h2 : I64 d.many) : Fresh B m w [.int .i64 d.fr, .int .i64 d.many, v] d := by
  obtain ⟨F, ho, r⟩ := h
  exact ⟨F, ⟨[_], [_, _], [], F, rfl, rfl, ⟨rfl, rfl, h1⟩, [_], [_], [], F, rfl, rfl, ⟨rfl, rfl, h2⟩, ho⟩, r⟩
end Go.Vc
namespace Go.Vc
open Go.RowKit
open Rep (rd)
open Own (own)

/-- what the given form reads at type t reads as an α -/
def Opn (P : Program) (t : TypeId) (α : Type) [Rep α] : Prop :=
  ∀ (H : Type) (enc : TypeId × Value → H) (w : World) (spare : Nat → Bool) (held : Bool) (fuel : Nat) (cs : List Value) (x : DataW H × List MemPlace),
    DataW.trod enc P w 0 spare held fuel t cs = some x → ∃ y : α, rd (fun _ => True) w cs y

section
variable {P : Program} {t : TypeId}
theorem i64_of_wf {n : Int} (h : (Lit.int .i64 n).wf = true) : I64 n := by
  have := h
  simp [Lit.wf, IntKind.min, IntKind.max, IntKind.signed, IntKind.bits] at this
  exact this
theorem opn_int (ht : P.underlying t = some (.int .i64)) : Opn P t Int := by
  intro H enc w spare held fuel cs x h
  obtain ⟨n, rfl, _, hw⟩ := DataW.trod_int ht h
  exact ⟨n, rfl, i64_of_wf hw⟩
theorem opn_byte (ht : P.underlying t = some (.int .u8)) : Opn P t UInt8 := by
  intro H enc w spare held fuel cs x h
  obtain ⟨n, rfl, _, hw⟩ := DataW.trod_int ht h
  have hb : 0 ≤ n ∧ n ≤ 255 := by simpa [Lit.wf, IntKind.min, IntKind.max, IntKind.signed, IntKind.bits] using hw
  refine ⟨UInt8.ofNat n.toNat, ?_⟩
  show [Value.int .u8 n] = [Value.int .u8 ((UInt8.ofNat n.toNat).toNat : Int)]
  have e : (UInt8.ofNat n.toNat).toNat = n.toNat := by rw [UInt8.toNat_ofNat']; omega
  rw [e, Int.toNat_of_nonneg hb.1]
theorem opn_bool (ht : P.underlying t = some .bool) : Opn P t Bool := by
  intro H enc w spare held fuel cs x h
  obtain ⟨b, rfl, _⟩ := DataW.trod_bool ht h
  exact ⟨b, rfl⟩
theorem opn_str (ht : P.underlying t = some .string) : Opn P t ByteArray := by
  intro H enc w spare held fuel cs x h
  obtain ⟨s, rfl, _, hs⟩ := DataW.trod_string ht h
  exact ⟨s, rfl, hs⟩
theorem opn_slice {α : Type} [Rep α] {e : TypeId} (ht : P.underlying t = some (.slice e)) (he : Opn P e α) (hc : P.cellsOf e = Rep.sz α) (hz : 0 < Rep.sz α) : Opn P t (List α) := by
  intro H enc w spare held fuel cs x h
  rcases Deep.open_slice ht h with ⟨rfl, _⟩ | ⟨a, len, cap, m, n, D, Pl, rfl, hb, hl, hm, hmm, _, hel⟩
  · exact ⟨[], rd_slice_nil _ _⟩
  · have hle : len ≤ m := by rw [hmm]; split <;> omega
    have hex : ∀ i : Fin len, ∃ y : α, ∃ us, (∀ j u, us[j]? = some u → w.cell? ((a.add (i.1 * Rep.sz α)).add j) = some u) ∧ rd (fun _ => True) w us y := by
      intro i
      obtain ⟨us, hus, htr⟩ := hel i.1 (Nat.lt_of_lt_of_le i.2 hle)
      obtain ⟨y, hy⟩ := he H enc w spare held n us _ htr
      obtain ⟨_, hlen, hcell⟩ := World.cells?_some hus
      rw [hc] at hcell hlen
      refine ⟨y, us, fun j u hu => ?_, hy⟩
      rw [hcell j (by rw [← hlen]; exact (List.getElem?_eq_some_iff.1 hu).1), hu]
    let f : Fin len → α := fun i => Classical.choose (hex i)
    have hf : ∀ i, _ := fun i => Classical.choose_spec (hex i)
    have hlen : (List.ofFn f).length = len := by simp
    refine ⟨List.ofFn f, some a, cap, by rw [hlen], ?_, hm, fun i hi => ?_⟩
    · rw [hlen]; exact hl
    · rw [hlen] at hi
      obtain ⟨us, hcell, hr⟩ := hf ⟨i, hi⟩
      have hlu := Rep.len hr
      obtain ⟨b, off, spot⟩ := a
      have hspot : spot = none := by
        by_cases h0 : i * Rep.sz α = 0
        · have h1 : 0 < us.length := by omega
          have := hcell 0 us[0] (List.getElem?_eq_getElem h1)
          rw [h0] at this
          simp only [Addr.add, if_true] at this
          cases spot with
          | none => rfl
          | some s =>
            unfold World.cell? at this
            split at this <;> simp at this
        · obtain ⟨us0, hcell0, hr0⟩ := hf ⟨0, by omega⟩
          have hlu0 := Rep.len hr0
          have h1 : 0 < us0.length := by omega
          have := hcell0 0 us0[0] (List.getElem?_eq_getElem h1)
          simp only [Nat.zero_mul, Addr.add, if_true] at this
          cases spot with
          | none => rfl
          | some s =>
            unfold World.cell? at this
            split at this <;> simp at this
      subst hspot
      refine ⟨b, off, us, rfl, trivial, fun j u hu => ?_, ?_, hz⟩
      · have := hcell j u hu
        rw [addr_add, addr_add] at this
        exact this
      · rw [List.getElem_ofFn]; exact hr
end

section
variable {P : Program} {t : TypeId}
theorem opn_struct3 {σ α β γ : Type} [Rep α] [Rep β] [Rep γ] {f0 f1 f2 : Field} (mk : α → β → γ → σ) [Rep σ]
    (hmk : ∀ (w : World) (v0 v1 v2 : List Value) (x : α) (y : β) (z : γ), rd (fun _ => True) w v0 x → rd (fun _ => True) w v1 y → rd (fun _ => True) w v2 z → rd (fun _ => True) w (v0 ++ (v1 ++ v2)) (mk x y z))
    (ht : P.underlying t = some (.struct #[f0, f1, f2])) (h0 : Opn P f0.type α) (h1 : Opn P f1.type β) (h2 : Opn P f2.type γ)
    (hc0 : P.cellsOf f0.type = Rep.sz α) (hc1 : P.cellsOf f1.type = Rep.sz β) (hc2 : P.cellsOf f2.type = Rep.sz γ)
    (ho0 : f0.offset = 0) (ho1 : f1.offset = Rep.sz α) (ho2 : f2.offset = Rep.sz α + Rep.sz β) (hct : P.cellsOf t = Rep.sz α + Rep.sz β + Rep.sz γ) : Opn P t σ := by
  intro H enc w spare held fuel cs x h
  obtain ⟨y0, y1, y2, n, _, hl, g0, g1, g2⟩ := Deep.trod_struct3 ht h
  rw [ho0, hc0] at g0
  rw [ho1, hc1] at g1
  rw [ho2, hc2] at g2
  obtain ⟨x0, r0⟩ := h0 H enc w spare held n _ _ g0
  obtain ⟨x1, r1⟩ := h1 H enc w spare held n _ _ g1
  obtain ⟨x2, r2⟩ := h2 H enc w spare held n _ _ g2
  refine ⟨mk x0 x1 x2, ?_⟩
  have := hmk w _ _ _ x0 x1 x2 r0 r1 r2
  have e : cs = (cs.drop 0).take (Rep.sz α) ++ ((cs.drop (Rep.sz α)).take (Rep.sz β) ++ (cs.drop (Rep.sz α + Rep.sz β)).take (Rep.sz γ)) := by
    rw [List.drop_zero, ← List.drop_drop, List.take_of_length_le (l := (List.drop (Rep.sz β) (List.drop (Rep.sz α) cs))) (by simp; omega), List.take_append_drop, List.take_append_drop]
  rw [e]
  exact this
theorem opn_struct2 {σ α β : Type} [Rep α] [Rep β] {f0 f1 : Field} (mk : α → β → σ) [Rep σ]
    (hmk : ∀ (w : World) (v0 v1 : List Value) (x : α) (y : β), rd (fun _ => True) w v0 x → rd (fun _ => True) w v1 y → rd (fun _ => True) w (v0 ++ v1) (mk x y))
    (ht : P.underlying t = some (.struct #[f0, f1])) (h0 : Opn P f0.type α) (h1 : Opn P f1.type β)
    (hc0 : P.cellsOf f0.type = Rep.sz α) (hc1 : P.cellsOf f1.type = Rep.sz β) (ho0 : f0.offset = 0) (ho1 : f1.offset = Rep.sz α) (hct : P.cellsOf t = Rep.sz α + Rep.sz β) : Opn P t σ := by
  intro H enc w spare held fuel cs x h
  obtain ⟨xs, n, _, _, hl, hlen, hf⟩ := DataW.trod_struct ht h
  obtain ⟨y0, y1, rfl⟩ : ∃ y0 y1, xs = [y0, y1] := by
    match xs, hlen with
    | [y0, y1], _ => exact ⟨y0, y1, rfl⟩
  have g0 := hf 0 f0 rfl
  have g1 := hf 1 f1 rfl
  rw [ho0, hc0] at g0
  rw [ho1, hc1] at g1
  obtain ⟨x0, r0⟩ := h0 H enc w spare held n _ _ g0
  obtain ⟨x1, r1⟩ := h1 H enc w spare held n _ _ g1
  refine ⟨mk x0 x1, ?_⟩
  have := hmk w _ _ x0 x1 r0 r1
  have e : cs = (cs.drop 0).take (Rep.sz α) ++ (cs.drop (Rep.sz α)).take (Rep.sz β) := by
    rw [List.drop_zero, List.take_of_length_le (l := (List.drop (Rep.sz α) cs)) (by simp; omega), List.take_append_drop]
  rw [e]
  exact this
theorem opn_delta {f0 f1 f2 : Field} (ht : P.underlying t = some (.struct #[f0, f1, f2])) (h0 : Opn P f0.type Int) (h1 : Opn P f1.type Int) (h2 : Opn P f2.type (List ByteArray))
    (hc0 : P.cellsOf f0.type = 1) (hc1 : P.cellsOf f1.type = 1) (hc2 : P.cellsOf f2.type = 1) (ho0 : f0.offset = 0) (ho1 : f1.offset = 1) (ho2 : f2.offset = 2) (hct : P.cellsOf t = 3) : Opn P t Delta :=
  opn_struct3 Delta.mk (fun _ v0 v1 v2 _ _ _ r0 r1 r2 => ⟨v0, v1 ++ v2, rfl, r0, v1, v2, rfl, r1, r2⟩) ht h0 h1 h2 hc0 hc1 hc2 ho0 ho1 ho2 hct
end

/-- an argument's reading, out of the given form's -/
theorem Opn.arg {P : Program} {t : TypeId} {α : Type} [Rep α] (h : Opn P t α) {H : Type} {enc : TypeId × Value → H} {w : World} {spare : Nat → Bool} {held : Bool} {v : Value} {d : DataW H} {ps : List MemPlace}
    (hv : DataW.Trod enc P w 0 spare held t v d ps) : ∃ y : α, rd (fun b => b < w.heap.size) w v.cells.toList y := by
  obtain ⟨fuel, hf⟩ := hv
  obtain ⟨y, hy⟩ := h H enc w spare held fuel _ _ hf
  exact ⟨y, Rep.lt hy⟩
end Go.Vc
