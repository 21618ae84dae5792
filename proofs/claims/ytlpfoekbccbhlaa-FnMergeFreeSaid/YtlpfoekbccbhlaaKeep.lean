/-
  What an append leaves as it was. No program is in sight here.
-/
import Derived.Test.YtlpfoekbccbhlaaVA
set_option linter.unusedVariables false
namespace Go.Vc
open Go.RowKit
open Rep (rd)
open Own (own)
section
variable {α β : Type} [Own α] [Tid α] {B m : Nat} {w w' : World} {v' : Value} {xs : List α}
theorem Grew.cell (h : Grew B m w w' v' xs) {p : Addr} {u : Value} (hc : w.cell? p = some u) (hp : p.block < B ∨ m ≤ p.block) : w'.cell? p = some u := by
  rw [World.cell?_of_block (w := w) (h.rest p.block (World.block_lt_of_cell? w p hc) hp)]; exact hc
theorem Grew.slice [Rep β] {S : Nat → Prop} {a : Option Addr} {cap : Nat} {ys : List β} (h : Grew B m w w' v' xs) (hs : IsSlice S w a cap ys) (hS : ∀ b, S b → b < B ∨ m ≤ b) : IsSlice S w' a cap ys :=
  hs.frame fun b hb hl => ⟨h.rest b hl (hS b hb), hb⟩
theorem Grew.other [Own β] {B' m' : Nat} {us : List Value} {y : β} (h : Grew B m w w' v' xs) (hf : Fresh B' m' w us y) (hd : m' ≤ B ∨ m ≤ B') : Fresh B' m' w' us y :=
  hf.keep fun b h1 h2 h3 => h.rest b h3 (by omega)
end

/-- own data none of whose blocks is in H -/
def FreshX {α : Type} [Own α] (H : Nat → Prop) (B m : Nat) (w : World) (vs : List Value) (x : α) : Prop := ∃ F, own F w vs x ∧ F.Nodup ∧ (∀ b, b ∈ F → B ≤ b ∧ b < m) ∧ ∀ b, b ∈ F → ¬ H b
section
variable {α : Type} [Own α] {H : Nat → Prop} {B m : Nat} {w w' : World} {vs : List Value} {x : α}
theorem Fresh.off (h : Fresh B m w vs x) (hH : ∀ b, H b → b < B ∨ m ≤ b) : FreshX H B m w vs x := by
  obtain ⟨F, ho, hn, hb⟩ := h
  exact ⟨F, ho, hn, hb, fun b hb' hh => by have := hb b hb'; have := hH b hh; omega⟩
theorem FreshX.fresh (h : FreshX H B m w vs x) : Fresh B m w vs x := by
  obtain ⟨F, ho, hn, hb, _⟩ := h
  exact ⟨F, ho, hn, hb⟩
theorem FreshX.keep (h : FreshX H B m w vs x) (hf : ∀ b, B ≤ b → b < m → b < w.heap.size → w'.heap[b]? = w.heap[b]?) : FreshX H B m w' vs x := by
  obtain ⟨F, ho, hn, hb, hh⟩ := h
  exact ⟨F, Own.oframe (fun b h => hf b (hb b h).1 (hb b h).2 (Own.lt ho b h)) ho, hn, hb, hh⟩
theorem FreshX.alloc (h : FreshX H B m w vs x) (o : Obj) : FreshX H B m (w.alloc o) vs x := h.keep fun b _ _ hl => Below.heap_alloc w o b hl
theorem FreshX.drew (h : FreshX H B m w vs x) : FreshX H B m w.drew vs x := h.keep (w := w) fun _ _ _ _ => rfl
theorem FreshX.below {C : Nat} (h : FreshX H B m w vs x) (hC : w.heap.size ≤ C) (hb : Below C w w') : FreshX H B m w' vs x := h.keep fun b _ _ hl => hb.block b (by omega)
end
/-- what an append gives, with what it leaves alone -/
structure GrewX {α : Type} [Own α] [Tid α] (H : Nat → Prop) (B m : Nat) (w w' : World) (v' : Value) (xs : List α) : Prop where
  fresh : FreshX H B w'.heap.size w' [v'] xs
  below : Below B w w'
  rest : ∀ b, b < w.heap.size → (b < B ∨ m ≤ b) → w'.heap[b]? = w.heap[b]?
  holes : ∀ b, b < w.heap.size → H b → w'.heap[b]? = w.heap[b]?
section
variable {P : Program} {w w' : World} {α β : Type} [Own α] [Tid α] {H : Nat → Prop} {B m : Nat} {v' : Value} {xs : List α}
theorem GrewX.cell (h : GrewX H B m w w' v' xs) {p : Addr} {u : Value} (hc : w.cell? p = some u) (hp : H p.block) : w'.cell? p = some u := by
  rw [World.cell?_of_block (w := w) (h.holes p.block (World.block_lt_of_cell? w p hc) hp)]; exact hc
theorem run_app_leafX [Leaf α] {t ty : TypeId} {bytes : Nat} (T : SlT P t α bytes) {m0 : Nat} {v : Value} (h : FreshX H B m0 w [v] xs) (hH : ∀ b, H b → b < w.heap.size) (hB : B ≤ w.heap.size)
    {S : Nat → Prop} {a : Option Addr} {c : Nat} {ys : List α} (hy : IsSlice S w a c ys) (hbytes : (xs.length + ys.length) * bytes ≤ 140737488355328) (h63 : xs.length + ys.length ≤ maxLen) :
    ∃ a' c' w', (Builtin.append_ #[t, t] ty #[v, .slice a ys.length c]).run P w = .ok (.slice a' (xs.length + ys.length) c') w' ∧ GrewX H B m0 w w' (.slice a' (xs.length + ys.length) c') (xs ++ ys) := by
  obtain ⟨F, ho, hn, hb, hh⟩ := h
  obtain ⟨ns, hcells, hall⟩ := hy.src
  obtain ⟨v', w', F', hr, ho', hn', hg, hF'⟩ := run_app (P := P) (ty := ty) T ho rfl hcells hall (by rw [flatten_replicate_nil, List.append_nil]; exact hn) hbytes h63
  have hown := own_ownBlock ho
  obtain ⟨a', c', rfl, _⟩ := rd_slice_elim (Own.rd_of ho')
  rw [List.length_append] at hr ho'
  refine ⟨a', c', w', hr, ⟨⟨F', ho', hn', fun b hbm => ⟨?_, Own.lt ho' b hbm⟩, fun b hbm => ?_⟩, ?_, ?_, ?_⟩⟩
  · rcases hF' b hbm with h | h | h
    · exact (hb b h).1
    · rw [flatten_replicate_nil] at h; cases h
    · omega
  · rcases hF' b hbm with h | h | h
    · exact hh b h
    · rw [flatten_replicate_nil] at h; cases h
    · intro hx
      have := hH b hx
      omega
  · exact (Below.refl B w).grown hg hB fun k hk => (hb k (hown k hk)).1
  · intro b hbl hbb
    refine hg.block b hbl fun e => ?_
    have := hb b (hown b e.symm)
    omega
  · intro b hbl hx
    exact hg.block b hbl fun e => hh b (hown b e.symm) hx
section
variable {ops : Array Oper} {rest : List Oper} {o : Oper} {a : Act} {Q : Exit → Act → World → Prop} {K : Act → World → Prop} {E : Prop}
theorem step_app_leafX [Leaf α] {t : TypeId} {bytes : Nat} (T : SlT P t α bytes) (hg : o.guard = none) (s x : Operand) (hop : o.op = Op.call { callee := Callee.builtin Builtin.append, args := #[s, x], argTypes := #[t, t] })
    {m0 : Nat} {v : Value} (hs : a.eval s = v) (h : FreshX H B m0 w [v] xs) (hH : ∀ b, H b → b < w.heap.size) (hB : B ≤ w.heap.size)
    {S : Nat → Prop} {ad : Option Addr} {n c : Nat} {ys : List α} (hx : a.eval x = .slice ad n c) (hn : n = ys.length) (hy : IsSlice S w ad c ys) (hbytes : (xs.length + ys.length) * bytes ≤ 140737488355328) (h63 : xs.length + ys.length ≤ maxLen)
    (hK : ∀ a' c' w', GrewX H B m0 w w' (.slice a' (xs.length + ys.length) c') (xs ++ ys) → K (a.put o.dst (.slice a' (xs.length + ys.length) c')) w') :
    if Region.wanted o (yielded ops a.tmps) = true then Oper.wp P o a w K Q else E := by
  have hw : Region.wanted o (yielded ops a.tmps) = true := by simp [Region.wanted, hg]
  rw [if_pos hw]
  subst hn
  obtain ⟨a', c', w', hr, hgr⟩ := run_app_leafX (P := P) (ty := o.type) T h hH hB hy hbytes h63
  unfold Oper.wp execOp
  simp only [hop, resolve, invoke, builtin, Sem.run_bind, Sem.run_pure, Result.andThen_ok, List.map_toArray, List.map_cons, List.map_nil, hs, hx, hr]
  exact hK a' c' w' hgr
theorem wpList_app_leafX [Leaf α] {t : TypeId} {bytes : Nat} (T : SlT P t α bytes) (hgd : o.guard = none) (s x : Operand) (ho : o.op = .call { callee := .builtin .append, args := #[s, x], argTypes := #[t, t] })
    {m0 : Nat} {v : Value} (hs : a.eval s = v) (h : FreshX H B m0 w [v] xs) (hH : ∀ b, H b → b < w.heap.size) (hB : B ≤ w.heap.size)
    {S : Nat → Prop} {ad : Option Addr} {n c : Nat} {ys : List α} (hx : a.eval x = .slice ad n c) (hn : n = ys.length) (hy : IsSlice S w ad c ys) (hbytes : (xs.length + ys.length) * bytes ≤ 140737488355328) (h63 : xs.length + ys.length ≤ maxLen)
    (k : ∀ a' c' w', GrewX H B m0 w w' (.slice a' (xs.length + ys.length) c') (xs ++ ys) → wpList P ops Q rest (a.put o.dst (.slice a' (xs.length + ys.length) c')) w') : wpList P ops Q (o :: rest) a w := by
  refine wpList_plain hgd fun K hK => ?_
  subst hn
  obtain ⟨a', c', w', hr, hg⟩ := run_app_leafX (P := P) (ty := o.type) T h hH hB hy hbytes h63
  unfold Oper.wp execOp
  simp only [ho, resolve, invoke, builtin, Sem.run_bind, Sem.run_pure, Result.andThen_ok, List.map_toArray, List.map_cons, List.map_nil, hs, hx, hr]
  exact hK _ _ (k a' c' w' hg)
/-- 'append(out, y)' as one step of a region that draws -/
theorem step_app_one {t : TypeId} {bytes : Nat} (T : SlT P t α bytes) (hg : o.guard = none) (s x : Operand) (hop : o.op = Op.call { callee := Callee.builtin Builtin.append, args := #[s, x], argTypes := #[t, t] })
    {m0 : Nat} {v : Value} (hs : a.eval s = v) (h : Fresh B m0 w [v] xs) (hB : B ≤ w.heap.size)
    {g c : Nat} {cs : List Value} {e : TypeId} {m1 : Nat} {y : α} (hx : a.eval x = .slice (some ⟨g, 0, none⟩) 1 c) (hgc : w.heap[g]? = some (.cells cs.toArray e (0, 0))) (hy : Fresh m0 m1 w cs y) (hBm : B ≤ m0)
    (hbytes : (xs.length + 1) * bytes ≤ 140737488355328) (h63 : xs.length + 1 ≤ maxLen)
    (hK : ∀ a' c' w', Grew B m0 w w' (.slice a' (xs.length + 1) c') (xs ++ [y]) → K (a.put o.dst (.slice a' (xs.length + 1) c')) w') :
    if Region.wanted o (yielded ops a.tmps) = true then Oper.wp P o a w K Q else E := by
  have hw : Region.wanted o (yielded ops a.tmps) = true := by simp [Region.wanted, hg]
  rw [if_pos hw]
  obtain ⟨a', c', w', hr, hgr⟩ := run_app_one (P := P) (ty := o.type) T h hB (c := c) hgc hy hBm hbytes h63
  unfold Oper.wp execOp
  simp only [hop, resolve, invoke, builtin, Sem.run_bind, Sem.run_pure, Result.andThen_ok, List.map_toArray, List.map_cons, List.map_nil, hs, hx, hr]
  exact hK a' c' w' hgr
end
end
end Go.Vc
