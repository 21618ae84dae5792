/-
  What a call has made for itself: each slice has a block of its own ('own'), no two the same ('Fresh'). Append, make and a store keep it. No program is in sight here.
-/
import Derived.Test.YtlokkbllplhlbaaCore
namespace Go.Vc
open Go.RowKit
open Rep (rd)

/-- the number that a type has in the program -/
class Tid (α : Type) where tid : TypeId

/-- 'own F w vs x': vs are the cells of x, and the blocks of all slices in x are those of F, each once. -/
class Own (α : Type) extends Rep α where
  own : List Nat → World → List Value → α → Prop
  rd_of : ∀ {F : List Nat} {w : World} {vs : List Value} {x : α}, own F w vs x → rd (fun b => b ∈ F) w vs x
  oframe : ∀ {F : List Nat} {w w' : World} {vs : List Value} {x : α}, (∀ b, b ∈ F → w'.heap[b]? = w.heap[b]?) → own F w vs x → own F w' vs x
  lt : ∀ {F : List Nat} {w : World} {vs : List Value} {x : α}, own F w vs x → ∀ b, b ∈ F → b < w.heap.size
open Own (own)

instance ownInt : Own Int where
  own := fun F _ vs n => F = [] ∧ vs = [.int .i64 n] ∧ I64 n
  rd_of := fun h => h.2
  oframe := fun _ h => h
  lt := fun h b hb => by rw [h.1] at hb; cases hb
instance ownBool : Own Bool where
  own := fun F _ vs n => F = [] ∧ vs = [.bool n]
  rd_of := fun h => h.2
  oframe := fun _ h => h
  lt := fun h b hb => by rw [h.1] at hb; cases hb
instance ownStr : Own ByteArray where
  own := fun F _ vs s => F = [] ∧ vs = [.string s] ∧ s.size ≤ maxLen
  rd_of := fun h => h.2
  oframe := fun _ h => h
  lt := fun h b hb => by rw [h.1] at hb; cases hb
instance ownByte : Own UInt8 where
  own := fun F _ vs b => F = [] ∧ vs = [.int .u8 b.toNat]
  rd_of := fun h => h.2
  oframe := fun _ h => h
  lt := fun h b hb => by rw [h.1] at hb; cases hb

/-- element by element -/
def ownAll {α : Type} [Own α] (w : World) : List (List Nat) → List (List Value) → List α → Prop
  | [], [], [] => True
  | F :: Fs, c :: cs, x :: xs => own F w c x ∧ ownAll w Fs cs xs
  | _, _, _ => False

section
variable {α : Type} [Own α] {w w' : World}
theorem ownAll.lens : ∀ {Fs : List (List Nat)} {cs : List (List Value)} {xs : List α}, ownAll w Fs cs xs → Fs.length = xs.length ∧ cs.length = xs.length ∧ ∀ c ∈ cs, c.length = Rep.sz α
  | [], [], [], _ => ⟨rfl, rfl, fun c h => by cases h⟩
  | F :: Fs, c :: cs, x :: xs, h => by
    obtain ⟨h1, h2, h3⟩ := ownAll.lens h.2
    refine ⟨by simp [h1], by simp [h2], fun d hd => ?_⟩
    rcases List.mem_cons.1 hd with rfl | hd
    · exact Rep.len (Own.rd_of h.1)
    · exact h3 d hd
  | [], [], _ :: _, h => h.elim
  | [], _ :: _, [], h => h.elim
  | [], _ :: _, _ :: _, h => h.elim
  | _ :: _, [], [], h => h.elim
  | _ :: _, [], _ :: _, h => h.elim
  | _ :: _, _ :: _, [], h => h.elim
theorem ownAll.frame : ∀ {Fs : List (List Nat)} {cs : List (List Value)} {xs : List α}, (∀ b, b ∈ Fs.flatten → w'.heap[b]? = w.heap[b]?) → ownAll w Fs cs xs → ownAll w' Fs cs xs
  | [], [], [], _, _ => trivial
  | F :: Fs, c :: cs, x :: xs, hf, h => ⟨Own.oframe (fun b hb => hf b (by simp [hb])) h.1, ownAll.frame (fun b hb => hf b (by rw [List.flatten_cons]; exact List.mem_append.2 (.inr hb))) h.2⟩
  | [], [], _ :: _, _, h => h.elim
  | [], _ :: _, [], _, h => h.elim
  | [], _ :: _, _ :: _, _, h => h.elim
  | _ :: _, [], [], _, h => h.elim
  | _ :: _, [], _ :: _, _, h => h.elim
  | _ :: _, _ :: _, [], _, h => h.elim
theorem ownAll.lt : ∀ {Fs : List (List Nat)} {cs : List (List Value)} {xs : List α}, ownAll w Fs cs xs → ∀ b, b ∈ Fs.flatten → b < w.heap.size
  | [], [], [], _, b, hb => by cases hb
  | F :: Fs, c :: cs, x :: xs, h, b, hb => by
    rw [List.flatten_cons] at hb
    rcases List.mem_append.1 hb with hb | hb
    · exact Own.lt h.1 b hb
    · exact ownAll.lt h.2 b hb
  | [], [], _ :: _, h, _, _ => h.elim
  | [], _ :: _, [], h, _, _ => h.elim
  | [], _ :: _, _ :: _, h, _, _ => h.elim
  | _ :: _, [], [], h, _, _ => h.elim
  | _ :: _, [], _ :: _, h, _, _ => h.elim
  | _ :: _, _ :: _, [], h, _, _ => h.elim
theorem ownAll.append : ∀ {Fs : List (List Nat)} {cs : List (List Value)} {xs : List α} {Gs : List (List Nat)} {ds : List (List Value)} {ys : List α}, ownAll w Fs cs xs → ownAll w Gs ds ys → ownAll w (Fs ++ Gs) (cs ++ ds) (xs ++ ys)
  | [], [], [], _, _, _, _, h => h
  | _ :: _, _ :: _, _ :: _, _, _, _, h, k => ⟨h.1, ownAll.append h.2 k⟩
  | [], [], _ :: _, _, _, _, h, _ => h.elim
  | [], _ :: _, [], _, _, _, h, _ => h.elim
  | [], _ :: _, _ :: _, _, _, _, h, _ => h.elim
  | _ :: _, [], [], _, _, _, h, _ => h.elim
  | _ :: _, [], _ :: _, _, _, _, h, _ => h.elim
  | _ :: _, _ :: _, [], _, _, _, h, _ => h.elim
theorem ownAll.at : ∀ {Fs : List (List Nat)} {cs : List (List Value)} {xs : List α}, ownAll w Fs cs xs → ∀ (i : Nat) (hi : i < xs.length), ∃ F c, Fs[i]? = some F ∧ cs[i]? = some c ∧ own F w c xs[i]
  | F :: Fs, c :: cs, x :: xs, h, 0, _ => ⟨F, c, rfl, rfl, h.1⟩
  | F :: Fs, c :: cs, x :: xs, h, i + 1, hi => by
    obtain ⟨F', c', h1, h2, h3⟩ := ownAll.at h.2 i (by simpa using hi)
    exact ⟨F', c', by simpa using h1, by simpa using h2, by simpa using h3⟩
  | [], [], [], _, i, hi => absurd hi (by simp)
  | [], [], _ :: _, h, _, _ => h.elim
  | [], _ :: _, [], h, _, _ => h.elim
  | [], _ :: _, _ :: _, h, _, _ => h.elim
  | _ :: _, [], [], h, _, _ => h.elim
  | _ :: _, [], _ :: _, h, _, _ => h.elim
  | _ :: _, _ :: _, [], h, _, _ => h.elim
theorem ownAll.set : ∀ {Fs : List (List Nat)} {cs : List (List Value)} {xs : List α} {G : List Nat} {d : List Value} {y : α}, ownAll w Fs cs xs → own G w d y → ∀ (i : Nat), ownAll w (Fs.set i G) (cs.set i d) (xs.set i y)
  | F :: Fs, c :: cs, x :: xs, _, _, _, h, k, 0 => ⟨k, h.2⟩
  | F :: Fs, c :: cs, x :: xs, _, _, _, h, k, i + 1 => ⟨h.1, ownAll.set h.2 k i⟩
  | [], [], [], _, _, _, _, _, i => by cases i <;> exact trivial
  | [], [], _ :: _, _, _, _, h, _, _ => h.elim
  | [], _ :: _, [], _, _, _, h, _, _ => h.elim
  | [], _ :: _, _ :: _, _, _, _, h, _, _ => h.elim
  | _ :: _, [], [], _, _, _, h, _, _ => h.elim
  | _ :: _, [], _ :: _, _, _, _, h, _, _ => h.elim
  | _ :: _, _ :: _, [], _, _, _, h, _, _ => h.elim
end

theorem flatten_len {α : Type} {cs : List (List α)} {z : Nat} (h : ∀ c ∈ cs, c.length = z) : cs.flatten.length = cs.length * z := by
  induction cs with
  | nil => simp
  | cons c cs ih =>
    rw [List.flatten_cons, List.length_append, ih (fun c hc => h c (List.mem_cons_of_mem _ hc)), h c (List.mem_cons_self ..), List.length_cons, Nat.add_mul]
    omega
theorem flatten_at {α : Type} {z : Nat} : ∀ {cs : List (List α)}, (∀ c ∈ cs, c.length = z) → ∀ {i : Nat} {c : List α}, cs[i]? = some c → ∀ {j : Nat}, j < z → cs.flatten[i * z + j]? = c[j]?
  | [], _, i, c, hi, _, _ => by simp at hi
  | d :: cs, h, 0, c, hi, j, hj => by
    simp at hi
    subst hi
    have := h d (List.mem_cons_self ..)
    rw [List.flatten_cons, Nat.zero_mul, Nat.zero_add, List.getElem?_append_left (by omega)]
  | d :: cs, h, i + 1, c, hi, j, hj => by
    have hd := h d (List.mem_cons_self ..)
    rw [List.flatten_cons, List.getElem?_append_right (by rw [hd, Nat.add_mul]; omega)]
    have e : (i + 1) * z + j - d.length = i * z + j := by rw [hd, Nat.add_mul]; omega
    rw [e]
    exact flatten_at (fun c hc => h c (List.mem_cons_of_mem _ hc)) (by simpa using hi) hj
/-- one element's cells set -/
theorem flatten_set {α : Type} {z : Nat} : ∀ {cs : List (List α)}, (∀ c ∈ cs, c.length = z) → ∀ (i : Nat) (d : List α), d.length = z → i < cs.length →
    (cs.set i d).flatten = cs.flatten.take (i * z) ++ d ++ cs.flatten.drop (i * z + z)
  | [], _, i, _, _, hi => by simp at hi
  | c :: cs, h, 0, d, hd, _ => by
    have hc := h c (List.mem_cons_self ..)
    simp only [List.set_cons_zero, List.flatten_cons, Nat.zero_mul, List.take_zero, List.nil_append, Nat.zero_add]
    rw [List.drop_append_of_le_length (by omega), List.drop_eq_nil_of_le (by omega), List.nil_append]
  | c :: cs, h, i + 1, d, hd, hi => by
    have hc := h c (List.mem_cons_self ..)
    rw [List.set_cons_succ, List.flatten_cons, List.flatten_cons, flatten_set (fun c hc => h c (List.mem_cons_of_mem _ hc)) i d hd (by simpa using hi)]
    have e1 : (i + 1) * z = c.length + i * z := by rw [hc, Nat.add_mul]; omega
    have e2 : (i + 1) * z + z = c.length + (i * z + z) := by rw [hc, Nat.add_mul]; omega
    rw [e1, Nat.add_assoc, List.take_length_add_append, List.drop_length_add_append]
    simp only [List.append_assoc]

instance ownList {α : Type} [Own α] [Tid α] : Own (List α) where
  own := fun F w vs xs => ∃ v cs Fs, vs = [v] ∧ w.ownsRow 0 (Tid.tid α) (Rep.sz α) v xs.length cs.flatten ∧ F = v.ownBlock.toList ++ Fs.flatten ∧ ownAll w Fs cs xs ∧ 0 < Rep.sz α
  rd_of := by
    rintro F w vs xs ⟨v, cs, Fs, rfl, hrow, rfl, hall, hz⟩
    obtain ⟨h1, h2, h3⟩ := hall.lens
    rcases hrow.2 with ⟨rfl, hn⟩ | ⟨g, cap, cur, rfl, _, hg, hnc, hcm, hcs, htake⟩
    · have : xs = [] := List.eq_nil_of_length_eq_zero hn
      subst this
      exact rd_slice_nil _ _
    · refine ⟨_, _, rfl, hnc, hcm, fun i hi => ?_⟩
      obtain ⟨F', c, hF, hc, ho⟩ := hall.at i hi
      have hmem : c ∈ cs := List.mem_of_getElem? hc
      refine ⟨g, 0, c, rfl, by simp [Value.ownBlock], fun j u hu => ?_, Rep.mono (fun b hb => ?_) (Own.rd_of ho), hz⟩
      · have hj : j < Rep.sz α := by rw [← h3 c hmem]; exact (List.getElem?_eq_some_iff.1 hu).1
        have hfl := flatten_at h3 hc hj
        have := hrow.cells (g := g) rfl (i * Rep.sz α + j) u (by rw [hfl]; exact hu)
        have hadd : (⟨g, 0, none⟩ : Addr).add (i * Rep.sz α + j) = ⟨g, 0 + i * Rep.sz α + j, none⟩ := by unfold Addr.add; split <;> simp_all
        rw [hadd] at this
        exact this
      · exact List.mem_append.2 (.inr (List.mem_flatten.2 ⟨F', List.mem_of_getElem? hF, hb⟩))
  oframe := by
    rintro F w w' vs xs hf ⟨v, cs, Fs, rfl, hrow, rfl, hall, hz⟩
    refine ⟨v, cs, Fs, rfl, ⟨hrow.1, ?_⟩, rfl, hall.frame fun b hb => hf b (List.mem_append.2 (.inr hb)), hz⟩
    rcases hrow.2 with h | ⟨g, cap, cur, rfl, hb, hg, r⟩
    · exact .inl h
    · exact .inr ⟨g, cap, cur, rfl, hb, by rw [hf g (by simp [Value.ownBlock])]; exact hg, r⟩
  lt := by
    rintro F w vs xs ⟨v, cs, Fs, rfl, hrow, rfl, hall, hz⟩ b hb
    rcases List.mem_append.1 hb with hb | hb
    · exact (hrow.lt b (by simpa using hb)).2
    · exact hall.lt b hb

/-- x is made by the call: its blocks are its own, from B on, below m. -/
def Fresh {α : Type} [Own α] (B m : Nat) (w : World) (vs : List Value) (x : α) : Prop := ∃ F, own F w vs x ∧ F.Nodup ∧ ∀ b, b ∈ F → B ≤ b ∧ b < m

section
variable {α : Type} [Own α] {B m : Nat} {w w' : World} {vs : List Value} {x : α}
theorem Fresh.rd (h : Fresh B m w vs x) : rd (fun b => B ≤ b) w vs x := by
  obtain ⟨F, ho, _, hb⟩ := h
  exact Rep.mono (fun b h => (hb b h).1) (Own.rd_of ho)
theorem Fresh.rd2 (h : Fresh B m w vs x) : Rep.rd (fun b => B ≤ b ∧ b < m) w vs x := by
  obtain ⟨F, ho, _, hb⟩ := h
  exact Rep.mono (fun b h => hb b h) (Own.rd_of ho)
theorem Fresh.mono {B' m' : Nat} (h : Fresh B m w vs x) (hB : B' ≤ B) (hm : m ≤ m') : Fresh B' m' w vs x := by
  obtain ⟨F, ho, hn, hb⟩ := h
  exact ⟨F, ho, hn, fun b h => ⟨Nat.le_trans hB (hb b h).1, Nat.lt_of_lt_of_le (hb b h).2 hm⟩⟩
theorem Fresh.now (h : Fresh B m w vs x) : Fresh B w.heap.size w vs x := by
  obtain ⟨F, ho, hn, hb⟩ := h
  exact ⟨F, ho, hn, fun b h => ⟨(hb b h).1, Own.lt ho b h⟩⟩
/-- nothing in [B, m) was written -/
theorem Fresh.keep (h : Fresh B m w vs x) (hf : ∀ b, B ≤ b → b < m → b < w.heap.size → w'.heap[b]? = w.heap[b]?) : Fresh B m w' vs x := by
  obtain ⟨F, ho, hn, hb⟩ := h
  exact ⟨F, Own.oframe (fun b h => hf b (hb b h).1 (hb b h).2 (Own.lt ho b h)) ho, hn, hb⟩
theorem Fresh.below {C : Nat} (h : Fresh B m w vs x) (hC : w.heap.size ≤ C) (hb : Below C w w') : Fresh B m w' vs x :=
  h.keep fun b _ _ hl => hb.block b (by omega)
theorem Fresh.belowm {C : Nat} (h : Fresh B m w vs x) (hC : m ≤ C) (hb : Below C w w') : Fresh B m w' vs x :=
  h.keep fun b _ hl _ => hb.block b (by omega)
theorem Fresh.alloc (h : Fresh B m w vs x) (o : Obj) : Fresh B m (w.alloc o) vs x :=
  h.keep fun b _ _ hl => Below.heap_alloc w o b hl
theorem Fresh.drew (h : Fresh B m w vs x) : Fresh B m w.drew vs x := h.keep (w := w) fun _ _ _ _ => rfl
theorem Fresh.drewN (h : Fresh B m w vs x) (n : Nat) : Fresh B m (w.drewN n) vs x := h.keep (w := w) fun _ _ _ _ => rfl
theorem Fresh.setCell (h : Fresh B m w vs x) {a : Addr} {u : Value} (hn : a.block < B ∨ m ≤ a.block) : Fresh B m (w.setCell a u) vs x :=
  h.keep fun b _ _ _ => Below.heap_setCell w a u b (by omega)
theorem Fresh.leaf (h : own [] w vs x) : Fresh B m w vs x := ⟨[], h, List.nodup_nil, fun b hb => by cases hb⟩
end

/-- t is the type of the slices of α -/
structure SlT (P : Program) (t : TypeId) (α : Type) [Rep α] [Tid α] (bytes : Nat) : Prop where
  ht : P.underlying t = some (.slice (Tid.tid α))
  hi : ∃ i z, P.info? (Tid.tid α) = some i ∧ i.zero = some z ∧ i.size = Rep.sz α ∧ i.bytes = bytes ∧ z.cells.size = Rep.sz α
  pos : 0 < Rep.sz α

/-- one of the elements' cells, at an address that may be nil where there is none -/
def CellsAt (w : World) (a : Option Addr) (vs : List Value) : Prop := vs = [] ∨ ∃ ad, a = some ad ∧ ∀ j u, vs[j]? = some u → w.cell? (ad.add j) = some u

theorem own_ownBlock {α : Type} [Own α] [Tid α] {F : List Nat} {w : World} {v : Value} {xs : List α} (h : own F w [v] xs) : ∀ g, v.ownBlock = some g → g ∈ F := by
  obtain ⟨v', cs, Fs, hv, _, rfl, _⟩ := h
  simp at hv
  subst hv
  intro g hg
  rw [hg]
  simp

section
variable {P : Program} {w : World} {α : Type} [Own α] [Tid α]
theorem run_append_empty (t ty e : TypeId) (i : TypeInfo) (size : Nat) (ht : P.underlying t = some (.slice e)) (hi : P.info? e = some i)
    (base : Nat) (v : Value) (n : Nat) (cs : List Value) (hown : w.ownsRow base e size v n cs) (a : Option Addr) (c : Nat) (hc : ∀ ad : Addr, a = some ad → True) :
    (Builtin.append_ #[t, t] ty #[v, .slice a 0 c]).run P w = .ok v w := by
  rcases hown.2 with ⟨rfl, rfl⟩ | ⟨g, cap, cur, rfl, _, _, hnc, _⟩
  · cases a <;> simp [Builtin.append_, run_underlying ht, sizeOf, typeInfo, hi, Builtin.lenOf, Builtin.firstCells, loadCells, loadCellsFrom]
  · cases a <;> simp [Builtin.append_, run_underlying ht, sizeOf, typeInfo, hi, Builtin.lenOf, Builtin.firstCells, hnc, storeCells, loadCells, loadCellsFrom]

/-- append, the appended elements at a place in memory -/
theorem run_app {t ty : TypeId} {bytes : Nat} (T : SlT P t α bytes) {F : List Nat} {v : Value} {xs : List α} (h : own F w [v] xs)
    {a : Option Addr} {m c : Nat} {ns : List (List Value)} {Gs : List (List Nat)} {ys : List α} (hm : m = ys.length) (hc : CellsAt w a ns.flatten) (hy : ownAll w Gs ns ys)
    (hnd : (F ++ Gs.flatten).Nodup) (hbytes : (xs.length + m) * bytes ≤ 140737488355328) (h63 : xs.length + m ≤ maxLen) :
    ∃ v' w' F', (Builtin.append_ #[t, t] ty #[v, .slice a m c]).run P w = .ok v' w' ∧ own F' w' [v'] (xs ++ ys) ∧ F'.Nodup ∧ w.grownBy w' v.ownBlock ∧ (∀ b, b ∈ F' → b ∈ F ∨ b ∈ Gs.flatten ∨ w.heap.size ≤ b) := by
  obtain ⟨v', cs, Fs, hv, hrow, rfl, hall, hz⟩ := h
  simp at hv
  subst hv
  obtain ⟨i, z, hi, hz0, hsz, hby, hzs⟩ := T.hi
  obtain ⟨l1, l2, l3⟩ := hy.lens
  by_cases h0 : ys = []
  · subst h0
    simp at hm l1 l2
    subst hm l1 l2
    refine ⟨v, w, v.ownBlock.toList ++ Fs.flatten, run_append_empty t ty _ i _ T.ht hi 0 v _ _ hrow a c (fun _ _ => trivial), ?_, by simpa using hnd, ⟨rfl, rfl, rfl, Nat.le_refl _, fun _ _ _ => rfl⟩, fun b hb => .inl hb⟩
    rw [List.append_nil]
    exact ⟨v, cs, Fs, rfl, hrow, rfl, hall, hz⟩
  · have hpos : 0 < ys.length := List.length_pos_iff.2 h0
    have hl : ns.flatten.length = m * Rep.sz α := by rw [flatten_len l3, l2, hm]
    have h1 : ∀ u ∈ ns.flatten, u.oneCell' = true := by
      intro u hu
      obtain ⟨c', hc', hu'⟩ := List.mem_flatten.1 hu
      obtain ⟨k, hk, hck⟩ := List.getElem_of_mem hc'
      obtain ⟨F', c'', hF, hc2, ho⟩ := hy.at k (by omega)
      have : c'' = c' := by rw [List.getElem?_eq_getElem hk] at hc2; simp at hc2; rw [← hc2, hck]
      subst this
      exact Rep.one (Own.rd_of ho) u hu'
    obtain ⟨ad, rfl, hcells⟩ : ∃ ad, a = some ad ∧ ∀ j u, ns.flatten[j]? = some u → w.cell? (ad.add j) = some u := by
      rcases hc with hn | h
      · rw [hn] at hl
        simp at hl
        have := Nat.mul_pos (show 0 < m by omega) hz
        omega
      · exact h
    have hlen : (cs.flatten ++ ns.flatten).length = (xs.length + m) * Rep.sz α := by rw [List.length_append, hrow.1, hl, Nat.add_mul]
    have hno : v.ownBlock = none ∨ ∃ g, v.ownBlock = some g := by cases v.ownBlock <;> simp
    have hn1 : (Fs.flatten ++ Gs.flatten).Nodup := by
      rw [List.append_assoc] at hnd
      exact (List.nodup_append.1 hnd).2.1
    have hall' : ownAll w (Fs ++ Gs) (cs ++ ns) (xs ++ ys) := hall.append hy
    -- a new block
    have fresh : ∀ old : Nat, old < xs.length + m → ∃ v' w' F',
        (Result.ok (Value.slice (some ⟨w.heap.size, 0, none⟩) (xs.length + m) (grownCap w (xs.length + m) old (Tid.tid α)))
          (w.drew.alloc (.cells (cs.flatten.toArray ++ ns.flatten.toArray ++ Builtin.zeroCells z.cells (grownCap w (xs.length + m) old (Tid.tid α) - (xs.length + m))) (Tid.tid α))) : Result Value) = .ok v' w' ∧
        own F' w' [v'] (xs ++ ys) ∧ F'.Nodup ∧ w.grownBy w' v.ownBlock ∧ (∀ b, b ∈ F' → b ∈ v.ownBlock.toList ++ Fs.flatten ∨ b ∈ Gs.flatten ∨ w.heap.size ≤ b) := by
      intro old ho
      have hge := grownCap_ge w (xs.length + m) old (Tid.tid α)
      have hcm : grownCap w (xs.length + m) old (Tid.tid α) ≤ maxLen := grownCap_le_maxLen w (xs.length + m) old (Tid.tid α) h63
      refine ⟨_, _, w.heap.size :: (Fs ++ Gs).flatten, rfl, ⟨_, cs ++ ns, Fs ++ Gs, rfl, ⟨?_, .inr ⟨w.heap.size, _, _, ?_, Nat.zero_le _, heap_alloc_new w.drew _, ?_, hcm, ?_, ?_⟩⟩, by simp [Value.ownBlock], ?_, hz⟩, ?_, ⟨rfl, rfl, rfl, by simp, fun k hk _ => Below.heap_alloc w.drew _ k hk⟩, ?_⟩
      · rw [List.flatten_append, hlen, List.length_append, hm]
      · rw [List.length_append, hm]
      · rw [List.length_append]; omega
      · simp only [Array.size_append, List.size_toArray, size_zeroCells, hzs, hrow.1, hl, ← Nat.add_mul]
        congr 1
        omega
      · rw [List.length_append, ← hm, ← hlen, List.flatten_append]
        simp only [Array.toList_append]
        exact List.take_left
      · exact ownAll.frame (w := w) (fun b hb => Below.heap_alloc w.drew _ b (hall'.lt b hb)) hall'
      · refine List.nodup_cons.2 ⟨fun hmem => ?_, by rw [List.flatten_append]; exact hn1⟩
        have := hall'.lt _ hmem
        omega
      · intro b hb
        rcases List.mem_cons.1 hb with rfl | hb
        · exact .inr (.inr (Nat.le_refl _))
        · rw [List.flatten_append] at hb
          rcases List.mem_append.1 hb with hb | hb
          · exact .inl (List.mem_append.2 (.inr hb))
          · exact .inr (.inl hb)
    rcases hrow.2 with ⟨rfl, hn0⟩ | ⟨g, cap, cur, rfl, hbg, hg, hnc, hcm, hcs, htake⟩
    · have hx : xs = [] := List.eq_nil_of_length_eq_zero hn0
      subst hx
      have hcs0 : cs = [] := List.eq_nil_of_length_eq_zero (by simpa using hall.lens.2.1)
      subst hcs0
      have hr := run_append_nil (P := P) w t ty (Tid.tid α) i z T.ht hi hz0 ad m c ns.flatten (by rw [hsz]; exact hl) hcells (by omega) (by simp [maxLen] at h63 ⊢; omega) (by simp at hbytes; rw [hby]; omega)
      obtain ⟨v', w', F', e, r⟩ := fresh 0 (by omega)
      simp only [List.length_nil, Nat.zero_add, List.flatten_nil, Array.empty_append] at e hr
      exact ⟨v', w', F', hr.trans e, r⟩
    · by_cases hroom : xs.length + m ≤ cap
      · have hfit : xs.length * i.size + ns.flatten.length ≤ cur.size := by rw [hl, hcs, hsz, ← Nat.add_mul]; exact Nat.mul_le_mul_right _ hroom
        have hr := run_append_room (P := P) w t ty (Tid.tid α) i T.ht hi g xs.length cap cur hg ad m c ns.flatten (by rw [hsz]; exact hl) hcells h1 hroom hfit
        have hgn : g ∉ (Fs ++ Gs).flatten := by
          rw [List.flatten_append]
          simp only [Value.ownBlock, Option.toList_some, List.cons_append, List.nil_append] at hnd
          exact (List.nodup_cons.1 hnd).1
        rw [hsz] at hr hfit
        refine ⟨_, _, g :: (Fs ++ Gs).flatten, hr, ⟨_, cs ++ ns, Fs ++ Gs, rfl, ⟨?_, .inr ⟨g, cap, _, ?_, Nat.zero_le _, setRow_heap w g cur _ (Tid.tid α) _ hg, ?_, hcm, ?_, ?_⟩⟩, by simp [Value.ownBlock], ?_, hz⟩, List.nodup_cons.2 ⟨hgn, by rw [List.flatten_append]; exact hn1⟩, ⟨rfl, rfl, rfl, by simp, fun k _ hk => setRow_other w g k _ (fun e => hk (by simp [Value.ownBlock, e]))⟩, ?_⟩
        · rw [List.flatten_append, hlen, List.length_append, hm]
        · rw [List.length_append, hm]
        · rw [List.length_append]; omega
        · simp only [List.size_toArray, List.length_append, List.length_take, List.length_drop, Array.length_toList]
          omega
        · rw [List.length_append, ← hm, ← hlen, List.flatten_append, ← htake]
          exact List.take_left
        · refine ownAll.frame (w := w) (fun b hb => setRow_other w g b _ (fun e => hgn (e ▸ hb))) hall'
        · intro b hb
          rcases List.mem_cons.1 hb with rfl | hb
          · exact .inl (by simp [Value.ownBlock])
          · rw [List.flatten_append] at hb
            rcases List.mem_append.1 hb with hb | hb
            · exact .inl (List.mem_append.2 (.inr hb))
            · exact .inr (.inl hb)
      · have holds : ∀ j u, cs.flatten[j]? = some u → w.cell? ((⟨g, 0, none⟩ : Addr).add j) = some u := hrow.cells (g := g) rfl
        have hr := run_append_grow (P := P) w t ty (Tid.tid α) i z T.ht hi hz0 ⟨g, 0, none⟩ xs.length cap cs.flatten (by rw [hsz]; exact hrow.1) holds ad m c ns.flatten (by rw [hsz]; exact hl) hcells (by omega) (by simp [maxLen] at h63 ⊢; omega) (growslice_fits (by omega) (by rw [hby]; exact hbytes))
        obtain ⟨v', w', F', e, r⟩ := fresh cap (by omega)
        exact ⟨v', w', F', hr.trans e, r⟩
end
end Go.Vc
