/-
  Own data, its blocks in a set. Append, with what it leaves alone. No program is in sight here. / A field of an own slice's element written anew, with what was made since. No program is in sight here.
-/
import Derived.Test.YthhmaclhggmneaaDoorVL
import Derived.Test.YthhmaclhggmneaaDoorVB
set_option linter.unusedVariables false
namespace Go.Vc
open Go.RowKit
open Rep (rd)
open Own (own)

/-- x is own, and its blocks are in S -/
def FS {α : Type} [Own α] (S : Nat → Prop) (w : World) (vs : List Value) (x : α) : Prop := ∃ F, own F w vs x ∧ F.Nodup ∧ ∀ b, b ∈ F → S b
section
variable {α β : Type} [Own α] [Own β] {S T : Nat → Prop} {w w' : World} {vs us : List Value} {x : α} {y : β}
theorem Fresh.fs {B m : Nat} (h : Fresh B m w vs x) : FS (fun b => B ≤ b ∧ b < m) w vs x := h
theorem FS.fresh {B m : Nat} (h : FS S w vs x) (hS : ∀ b, S b → b < w.heap.size → B ≤ b ∧ b < m) : Fresh B m w vs x := by
  obtain ⟨F, ho, hn, hb⟩ := h
  exact ⟨F, ho, hn, fun b hm => hS b (hb b hm) (Own.lt ho b hm)⟩
theorem FS.mono (h : FS S w vs x) (hS : ∀ b, S b → b < w.heap.size → T b) : FS T w vs x := by
  obtain ⟨F, ho, hn, hb⟩ := h
  exact ⟨F, ho, hn, fun b hm => hS b (hb b hm) (Own.lt ho b hm)⟩
theorem FS.keep (h : FS S w vs x) (hf : ∀ b, S b → b < w.heap.size → w'.heap[b]? = w.heap[b]?) : FS S w' vs x := by
  obtain ⟨F, ho, hn, hb⟩ := h
  exact ⟨F, Own.oframe (fun b hm => hf b (hb b hm) (Own.lt ho b hm)) ho, hn, hb⟩
theorem FS.alloc (h : FS S w vs x) (o : Obj) : FS S (w.alloc o) vs x := h.keep fun b _ hl => Below.heap_alloc w o b hl
theorem FS.drew (h : FS S w vs x) : FS S w.drew vs x := h.keep (w := w) fun _ _ _ => rfl
theorem FS.below {C : Nat} (h : FS S w vs x) (hb : Below C w w') (hS : ∀ b, S b → b < w.heap.size → b < C) : FS S w' vs x := h.keep fun b hs hl => hb.block b (hS b hs hl)
theorem FS.rd (h : FS S w vs x) : Rep.rd S w vs x := by
  obtain ⟨F, ho, _, hb⟩ := h
  exact Rep.mono hb (Own.rd_of ho)
theorem FS.cat (h : FS S w vs x) (k : FS T w us y) (hd : ∀ b, S b → T b → b < w.heap.size → False) : FS (fun b => S b ∨ T b) w (vs ++ us) (x, y) := by
  obtain ⟨F, ho, hn, hb⟩ := h
  obtain ⟨G, ko, kn, kb⟩ := k
  refine ⟨F ++ G, ⟨vs, us, F, G, rfl, rfl, ho, ko⟩, List.nodup_append.2 ⟨hn, kn, fun a ha b hbb e => ?_⟩, fun b hm => ?_⟩
  · subst e
    exact hd a (hb a ha) (kb a hbb) (Own.lt ho a ha)
  · rcases List.mem_append.1 hm with h | h
    · exact .inl (hb b h)
    · exact .inr (kb b h)
theorem FS.consL (h : own [] w vs x) (k : FS T w us y) : FS T w (vs ++ us) (x, y) := by
  obtain ⟨G, ko, kn, kb⟩ := k
  exact ⟨G, ⟨vs, us, [], G, rfl, rfl, h, ko⟩, kn, kb⟩
theorem FS.snocL (h : FS T w vs x) (k : own [] w us y) : FS T w (vs ++ us) (x, y) := by
  obtain ⟨G, ko, kn, kb⟩ := h
  exact ⟨G, ⟨vs, us, G, [], rfl, by simp, ko, k⟩, kn, kb⟩
theorem FS.leaf (h : own [] w vs x) : FS T w vs x := ⟨[], h, List.nodup_nil, fun b hb => by cases hb⟩
end
/-- an empty row that has been laid -/
theorem FS.empty {β : Type} [Own β] [Tid β] (hz : 0 < Rep.sz β) {g : Nat} {w : World} (hg : w.heap[g]? = some (.cells #[] (Tid.tid β) (0, 0))) : FS (fun b => b = g) w [.slice (some ⟨g, 0, none⟩) 0 0] ([] : List β) := by
  refine ⟨[g], ⟨_, [], [], rfl, ⟨by simp, .inr ⟨g, 0, #[], by simp, Nat.zero_le _, hg, by simp, by simp, by simp, by simp⟩⟩, by simp [Value.ownBlock], trivial, hz⟩, by simp, fun b hb => by simpa using hb⟩

theorem TouchF.ofBelow {F : List Nat} {w w' : World} (h : Below 0 w w') (hr : ∀ b, b < w.heap.size → b ∉ F → w'.heap[b]? = w.heap[b]?) : TouchF F w w' := ⟨h.os, h.tape, h.output, h.size, hr⟩
theorem TouchF.next {bx : Nat} {w0 w w' : World} (h : TouchF [bx] w0 w) (hB : Below 0 w w') (hr : ∀ k, k < w.heap.size → ¬ (k = bx ∨ w0.heap.size ≤ k) → w'.heap[k]? = w.heap[k]?) : TouchF [bx] w0 w' := by
  have h0 : Below 0 w0 w := h.below (Nat.zero_le _) (fun _ _ => Nat.zero_le _)
  refine TouchF.ofBelow (h0.trans hB) fun b hb hbF => (hr b (Nat.lt_of_lt_of_le hb h.size) ?_).trans (h.rest b hb hbF)
  intro hk
  rcases hk with hk | hk
  · exact hbF (by simp [hk])
  · omega
theorem TouchF.more {F : List Nat} {w0 w w' : World} (h : TouchF F w0 w) (hb : Below w.heap.size w w') : TouchF F w0 w' := h.trans (G := []) (TouchF.of_below hb) fun _ hx => by cases hx
/-- what an append gives -/
structure GrewS {α : Type} [Own α] [Tid α] (S : Nat → Prop) (w w' : World) (v' : Value) (xs : List α) : Prop where
  fs : FS (fun b => S b ∨ w.heap.size ≤ b) w' [v'] xs
  below : ∀ B, B ≤ w.heap.size → (∀ b, S b → b < w.heap.size → B ≤ b) → Below B w w'
  rest : ∀ b, b < w.heap.size → ¬ S b → w'.heap[b]? = w.heap[b]?
  size : w.heap.size ≤ w'.heap.size
/-- two appends at empty rows, one behind the other -/
theorem FS.two {α β : Type} [Own α] [Tid α] [Own β] [Tid β] {g1 g2 n : Nat} {W1 w5 W2 w6 : World} {v1 v2 : Value} {xs : List α} {ys : List β} (h1 : GrewS (fun b => b = g1) W1 w5 v1 xs) (h2 : GrewS (fun b => b = g2) W2 w6 v2 ys)
    (hW : ∀ b, b < w5.heap.size → W2.heap[b]? = w5.heap[b]?) (hs : w5.heap.size ≤ W2.heap.size) (hne : g2 ≠ g1) (hg : g2 < W1.heap.size ∨ w5.heap.size ≤ g2) (n1 : n ≤ g1) (n2 : n ≤ g2) (n3 : n ≤ W1.heap.size) : FS (fun b => n ≤ b) w6 [v1, v2] (xs, ys) := by
  have hz := h1.size
  have k1 := h1.fs.mono (T := fun b => (b = g1 ∨ W1.heap.size ≤ b) ∧ b < w5.heap.size) (fun b hb hl => ⟨hb, hl⟩)
  have k2 : FS _ W2 [v1] xs := k1.keep fun b hb _ => hW b hb.2
  have k3 : FS _ w6 [v1] xs := k2.keep fun b hb hl => h2.rest b hl (by intro (e : b = g2); omega)
  have k4 := k3.cat h2.fs (fun b h3 h4 _ => by
    have h5 : (b = g1 ∨ W1.heap.size ≤ b) ∧ b < w5.heap.size := h3
    have h6 : b = g2 ∨ W2.heap.size ≤ b := h4
    omega)
  exact k4.mono fun b hb _ => by
    have h5 : ((b = g1 ∨ W1.heap.size ≤ b) ∧ b < w5.heap.size) ∨ (b = g2 ∨ W2.heap.size ≤ b) := hb
    omega
section
variable {P : Program} {w w' : World} {α β : Type} [Own α] [Tid α] {S T : Nat → Prop} {v' : Value} {xs : List α}
theorem GrewS.cell (h : GrewS S w w' v' xs) {p : Addr} {u : Value} (hc : w.cell? p = some u) (hp : ¬ S p.block) : w'.cell? p = some u := by
  rw [World.cell?_of_block (w := w) (h.rest p.block (World.block_lt_of_cell? w p hc) hp)]; exact hc
theorem GrewS.slice [Rep β] {R : Nat → Prop} {a : Option Addr} {cap : Nat} {ys : List β} (h : GrewS S w w' v' xs) (hs : IsSlice R w a cap ys) (hS : ∀ b, R b → b < w.heap.size → ¬ S b) : IsSlice R w' a cap ys :=
  hs.frame fun b hb hl => ⟨h.rest b hl (hS b hb hl), hb⟩
theorem GrewS.other [Own β] {us : List Value} {y : β} (h : GrewS S w w' v' xs) (hf : FS T w us y) (hd : ∀ b, T b → b < w.heap.size → ¬ S b) : FS T w' us y := hf.keep fun b ht hl => h.rest b hl (hd b ht hl)
theorem GrewS.heap (h : GrewS S w w' v' xs) {b : Nat} {o : Obj} (hb : w.heap[b]? = some o) (hS : ¬ S b) : w'.heap[b]? = some o := (h.rest b (Array.getElem?_eq_some_iff.1 hb).1 hS).trans hb
theorem run_app_leafS [Leaf α] {t ty : TypeId} {bytes : Nat} (T : SlT P t α bytes) {v : Value} (h : FS S w [v] xs)
    {R : Nat → Prop} {a : Option Addr} {c : Nat} {ys : List α} (hy : IsSlice R w a c ys) (hbytes : (xs.length + ys.length) * bytes ≤ 140737488355328) (h63 : xs.length + ys.length ≤ maxLen) :
    ∃ a' c' w', (Builtin.append_ #[t, t] ty #[v, .slice a ys.length c]).run P w = .ok (.slice a' (xs.length + ys.length) c') w' ∧ GrewS S w w' (.slice a' (xs.length + ys.length) c') (xs ++ ys) := by
  obtain ⟨F, ho, hn, hb⟩ := h
  obtain ⟨ns, hcells, hall⟩ := hy.src
  obtain ⟨v', w', F', hr, ho', hn', hg, hF'⟩ := run_app (P := P) (ty := ty) T ho rfl hcells hall (by rw [flatten_replicate_nil, List.append_nil]; exact hn) hbytes h63
  have hown := own_ownBlock ho
  obtain ⟨a', c', rfl, _⟩ := rd_slice_elim (Own.rd_of ho')
  rw [List.length_append] at hr ho'
  have hlt := Own.lt ho
  refine ⟨a', c', w', hr, ⟨⟨F', ho', hn', fun b hbm => ?_⟩, ?_, ?_, ?_⟩⟩
  · rcases hF' b hbm with h | h | h
    · exact .inl (hb b h)
    · rw [flatten_replicate_nil] at h; cases h
    · exact .inr h
  · exact fun B hB hS => (Below.refl B w).grown hg hB fun k hk => hS k (hb k (hown k hk)) (hlt k (hown k hk))
  · exact fun b hbl hx => hg.block b hbl fun e => hx (hb b (hown b e.symm))
  · exact ((Below.refl 0 w).grown hg (Nat.zero_le _) fun k hk => Nat.zero_le _).size
theorem run_app_oneS {t ty : TypeId} {bytes : Nat} (L : SlT P t α bytes) {v : Value} (h : FS S w [v] xs)
    {g c : Nat} {cs : List Value} {e : TypeId} {y : α} (hgc : w.heap[g]? = some (.cells cs.toArray e (0, 0))) (hy : FS T w cs y) (hd : ∀ b, S b → T b → b < w.heap.size → False) (hbytes : (xs.length + 1) * bytes ≤ 140737488355328) (h63 : xs.length + 1 ≤ maxLen) :
    ∃ a' c' w', (Builtin.append_ #[t, t] ty #[v, .slice (some ⟨g, 0, none⟩) 1 c]).run P w = .ok (.slice a' (xs.length + 1) c') w' ∧ FS (fun b => S b ∨ T b ∨ w.heap.size ≤ b) w' [.slice a' (xs.length + 1) c'] (xs ++ [y]) ∧
      (∀ B, B ≤ w.heap.size → (∀ b, S b → b < w.heap.size → B ≤ b) → Below B w w') ∧ (∀ b, b < w.heap.size → ¬ S b → w'.heap[b]? = w.heap[b]?) := by
  obtain ⟨F, ho, hn, hb⟩ := h
  obtain ⟨G, hoy, hny, hby⟩ := hy
  have hcells : CellsAt w (some ⟨g, 0, none⟩) ([cs] : List (List Value)).flatten := by
    refine .inr ⟨_, rfl, fun j u hu => ?_⟩
    rw [addr_add, Nat.zero_add, cell_of_row w g j _ e (0, 0) hgc]
    simpa using hu
  have hlt := Own.lt ho
  obtain ⟨v', w', F', hr, ho', hn', hg, hF'⟩ := run_app (P := P) (ty := ty) L ho (a := some ⟨g, 0, none⟩) (c := c) (m := 1) (ys := [y]) rfl hcells (Gs := [G]) ⟨hoy, trivial⟩
    (by
      simp only [List.flatten_cons, List.flatten_nil, List.append_nil]
      refine List.nodup_append.2 ⟨hn, hny, fun a ha b hbb e => ?_⟩
      subst e
      exact hd a (hb a ha) (hby a hbb) (hlt a ha)) hbytes h63
  have hown := own_ownBlock ho
  obtain ⟨a', c', rfl, _⟩ := rd_slice_elim (Own.rd_of ho')
  rw [List.length_append] at hr ho'
  refine ⟨a', c', w', hr, ⟨F', ho', hn', fun b hbm => ?_⟩, ?_, ?_⟩
  · rcases hF' b hbm with h | h | h
    · exact .inl (hb b h)
    · simp at h
      exact .inr (.inl (hby b h))
    · exact .inr (.inr h)
  · exact fun B hB hS => (Below.refl B w).grown hg hB fun k hk => hS k (hb k (hown k hk)) (hlt k (hown k hk))
  · exact fun b hbl hx => hg.block b hbl fun e => hx (hb b (hown b e.symm))
section
variable {ops : Array Oper} {rest : List Oper} {o : Oper} {a : Act} {Q : Exit → Act → World → Prop} {K : Act → World → Prop} {E : Prop}
theorem step_app_leafS [Leaf α] {t : TypeId} {bytes : Nat} (T : SlT P t α bytes) (hg : o.guard = none) (s x : Operand) (hop : o.op = Op.call { callee := Callee.builtin Builtin.append, args := #[s, x], argTypes := #[t, t] })
    {v : Value} (hs : a.eval s = v) (h : FS S w [v] xs) {R : Nat → Prop} {ad : Option Addr} {n c : Nat} {ys : List α} (hx : a.eval x = .slice ad n c) (hn : n = ys.length) (hy : IsSlice R w ad c ys) (hbytes : (xs.length + ys.length) * bytes ≤ 140737488355328) (h63 : xs.length + ys.length ≤ maxLen)
    (hK : ∀ a' c' w', GrewS S w w' (.slice a' (xs.length + ys.length) c') (xs ++ ys) → K (a.put o.dst (.slice a' (xs.length + ys.length) c')) w') :
    if Region.wanted o (yielded ops a.tmps) = true then Oper.wp P o a w K Q else E := by
  have hw : Region.wanted o (yielded ops a.tmps) = true := by simp [Region.wanted, hg]
  rw [if_pos hw]
  subst hn
  obtain ⟨a', c', w', hr, hgr⟩ := run_app_leafS (P := P) (ty := o.type) T h hy hbytes h63
  unfold Oper.wp execOp
  simp only [hop, resolve, invoke, builtin, Sem.run_bind, Sem.run_pure, Result.andThen_ok, List.map_toArray, List.map_cons, List.map_nil, hs, hx, hr]
  exact hK a' c' w' hgr
theorem step_app_oneS {t : TypeId} {bytes : Nat} (L : SlT P t α bytes) (hg : o.guard = none) (s x : Operand) (hop : o.op = Op.call { callee := Callee.builtin Builtin.append, args := #[s, x], argTypes := #[t, t] })
    {v : Value} (hs : a.eval s = v) (h : FS S w [v] xs) {g c : Nat} {cs : List Value} {e : TypeId} {y : α} (hx : a.eval x = .slice (some ⟨g, 0, none⟩) 1 c) (hgc : w.heap[g]? = some (.cells cs.toArray e (0, 0))) (hy : FS T w cs y) (hd : ∀ b, S b → T b → b < w.heap.size → False)
    (hbytes : (xs.length + 1) * bytes ≤ 140737488355328) (h63 : xs.length + 1 ≤ maxLen)
    (hK : ∀ a' c' w', FS (fun b => S b ∨ T b ∨ w.heap.size ≤ b) w' [.slice a' (xs.length + 1) c'] (xs ++ [y]) → (∀ B, B ≤ w.heap.size → (∀ b, S b → b < w.heap.size → B ≤ b) → Below B w w') → (∀ b, b < w.heap.size → ¬ S b → w'.heap[b]? = w.heap[b]?) → K (a.put o.dst (.slice a' (xs.length + 1) c')) w') :
    if Region.wanted o (yielded ops a.tmps) = true then Oper.wp P o a w K Q else E := by
  have hw : Region.wanted o (yielded ops a.tmps) = true := by simp [Region.wanted, hg]
  rw [if_pos hw]
  obtain ⟨a', c', w', hr, h1, h2, h3⟩ := run_app_oneS (P := P) (ty := o.type) L h (c := c) hgc hy hd hbytes h63
  unfold Oper.wp execOp
  simp only [hop, resolve, invoke, builtin, Sem.run_bind, Sem.run_pure, Result.andThen_ok, List.map_toArray, List.map_cons, List.map_nil, hs, hx, hr]
  exact hK a' c' w' h1 h2 h3
theorem wpList_app_leafS [Leaf α] {t : TypeId} {bytes : Nat} (T : SlT P t α bytes) (hgd : o.guard = none) (s x : Operand) (ho : o.op = .call { callee := .builtin .append, args := #[s, x], argTypes := #[t, t] })
    {v : Value} (hs : a.eval s = v) (h : FS S w [v] xs) {R : Nat → Prop} {ad : Option Addr} {n c : Nat} {ys : List α} (hx : a.eval x = .slice ad n c) (hn : n = ys.length) (hy : IsSlice R w ad c ys) (hbytes : (xs.length + ys.length) * bytes ≤ 140737488355328) (h63 : xs.length + ys.length ≤ maxLen)
    (k : ∀ a' c' w', GrewS S w w' (.slice a' (xs.length + ys.length) c') (xs ++ ys) → wpList P ops Q rest (a.put o.dst (.slice a' (xs.length + ys.length) c')) w') : wpList P ops Q (o :: rest) a w := by
  refine wpList_plain hgd fun K hK => ?_
  subst hn
  obtain ⟨a', c', w', hr, hg⟩ := run_app_leafS (P := P) (ty := o.type) T h hy hbytes h63
  unfold Oper.wp execOp
  simp only [ho, resolve, invoke, builtin, Sem.run_bind, Sem.run_pure, Result.andThen_ok, List.map_toArray, List.map_cons, List.map_nil, hs, hx, hr]
  exact hK _ _ (k a' c' w' hg)
theorem wpList_app_oneS {t : TypeId} {bytes : Nat} (L : SlT P t α bytes) (hgd : o.guard = none) (s x : Operand) (ho : o.op = .call { callee := .builtin .append, args := #[s, x], argTypes := #[t, t] })
    {v : Value} (hs : a.eval s = v) (h : FS S w [v] xs) {g c : Nat} {cs : List Value} {e : TypeId} {y : α} (hx : a.eval x = .slice (some ⟨g, 0, none⟩) 1 c) (hgc : w.heap[g]? = some (.cells cs.toArray e (0, 0))) (hy : FS T w cs y) (hd : ∀ b, S b → T b → b < w.heap.size → False)
    (hbytes : (xs.length + 1) * bytes ≤ 140737488355328) (h63 : xs.length + 1 ≤ maxLen)
    (k : ∀ a' c' w', FS (fun b => S b ∨ T b ∨ w.heap.size ≤ b) w' [.slice a' (xs.length + 1) c'] (xs ++ [y]) → (∀ B, B ≤ w.heap.size → (∀ b, S b → b < w.heap.size → B ≤ b) → Below B w w') → (∀ b, b < w.heap.size → ¬ S b → w'.heap[b]? = w.heap[b]?) → wpList P ops Q rest (a.put o.dst (.slice a' (xs.length + 1) c')) w') : wpList P ops Q (o :: rest) a w := by
  refine wpList_plain hgd fun K hK => ?_
  obtain ⟨a', c', w', hr, h1, h2, h3⟩ := run_app_oneS (P := P) (ty := o.type) L h (c := c) hgc hy hd hbytes h63
  unfold Oper.wp execOp
  simp only [ho, resolve, invoke, builtin, Sem.run_bind, Sem.run_pure, Result.andThen_ok, List.map_toArray, List.map_cons, List.map_nil, hs, hx, hr]
  exact hK _ _ (k a' c' w' h1 h2 h3)
end
end
end Go.Vc
namespace Go.Vc
open Go.RowKit
open Rep (rd)
open Own (own)

section
variable {w : World} {α β : Type} [Own α] [Tid α] [Own β]
theorem Fresh.setL {f : Nat} {get : α → β} {put : α → β → α} (L : Lens α β f get put) {B m g n cap : Nat} {xs : List α} (h : Fresh B m w [.slice (some ⟨g, 0, none⟩) n cap] xs) (hB : B ≤ w.heap.size) {i : Nat} (hi : i < xs.length)
    {w1 : World} (hbw : Below w.heap.size w w1) {u : Value} {y : β} {m1 : Nat} (hy : Fresh w.heap.size m1 w1 [u] y) :
    (∃ u', w1.cell? ⟨g, i * Rep.sz α + f, none⟩ = some u') ∧ w1.frozen? ⟨g, i * Rep.sz α + f, none⟩ = false ∧ B ≤ g ∧
      Fresh B (w1.setCell ⟨g, i * Rep.sz α + f, none⟩ u).heap.size (w1.setCell ⟨g, i * Rep.sz α + f, none⟩ u) [.slice (some ⟨g, 0, none⟩) n cap] (xs.set i (put xs[i] y)) := by
  obtain ⟨F, ho, hn, hb⟩ := h
  obtain ⟨G, hoy, hnG, hbG⟩ := hy
  obtain ⟨ce, Fi, hoi, hsub, hnFi, hgFi, hgF, hcells, hfz, hfoc⟩ := own_focus ho hn hi
  obtain ⟨hf, hL⟩ := L
  obtain ⟨F1, Fl, F2, lv, hlv, rfl, hol, hput⟩ := hL Fi w ce xs[i] hoi
  obtain ⟨hn1, hn23, hd1⟩ := List.nodup_append.1 hnFi
  obtain ⟨hnl', hn2, hd2⟩ := List.nodup_append.1 hn23
  have hcell := hcells f lv hlv
  have hglt : g < w.heap.size := World.block_lt_of_cell? w _ hcell
  have hgb : w1.heap[g]? = w.heap[g]? := hbw.block g hglt
  have hltF : ∀ b, b ∈ F1 ++ (Fl ++ F2) → b < w.heap.size := Own.lt hoi
  refine ⟨⟨_, by rw [World.cell?_of_block (w := w) hgb]; exact hcell⟩, by rw [World.frozen?_of_block (w := w) hgb]; exact hfz _, (hb g hgF).1, ?_⟩
  have hol' : own G (w1.setCell ⟨g, i * Rep.sz α + f, none⟩ u) [u] y :=
    Own.oframe (fun b hbm => Below.heap_setCell w1 _ _ b fun e => by
      simp only at e
      subst e
      have := (hbG b hbm).1
      omega) hoy
  have hin : ∀ b, b ∈ F1 ++ F2 → b ∈ F1 ++ (Fl ++ F2) := fun b hbm => by
    rcases List.mem_append.1 hbm with h | h
    · exact List.mem_append.2 (.inl h)
    · exact List.mem_append.2 (.inr (List.mem_append.2 (.inr h)))
  have hkeep : ∀ b, b ∈ F1 ++ F2 → (w1.setCell ⟨g, i * Rep.sz α + f, none⟩ u).heap[b]? = w.heap[b]? := fun b hbm => by
    rw [Below.heap_setCell w1 _ _ b fun e => hgFi (by simp only at e; rw [← e]; exact hin b hbm)]
    exact hbw.block b (hltF b (hin b hbm))
  have hfl' : ∀ b, b ∈ G → b ∉ F1 ∧ b ∉ F2 := fun b hbm => by
    have h := (hbG b hbm).1
    exact ⟨fun h1 => by have := hltF b (List.mem_append.2 (.inl h1)); omega, fun h1 => by have := hltF b (List.mem_append.2 (.inr (List.mem_append.2 (.inr h1)))); omega⟩
  have hlce : ce.length = Rep.sz α := Rep.len (Own.rd_of hoi)
  obtain ⟨FF, hoF, hnF, hFF⟩ := hfoc _ (ce.set f u) (put xs[i] y) (F1 ++ (G ++ F2)) (hput _ G _ _ hkeep hol')
    (List.nodup_append.2 ⟨hn1, List.nodup_append.2 ⟨hnG, hn2, fun a ha b hbb e => (hfl' a ha).2 (e ▸ hbb)⟩, fun a ha b hbb e => by
      subst e
      rcases List.mem_append.1 hbb with h | h
      · exact (hfl' a h).1 ha
      · exact hd1 a ha a (List.mem_append.2 (.inr h)) rfl⟩)
    (fun b hbm => by
      rcases List.mem_append.1 hbm with h | h
      · exact .inl (List.mem_append.2 (.inl h))
      · rcases List.mem_append.1 h with h | h
        · exact .inr (hbG b h).1
        · exact .inl (List.mem_append.2 (.inr (List.mem_append.2 (.inr h)))))
    (fun b hbl2 hbF hbg => by
      rw [Below.heap_setCell w1 _ _ b hbg]
      exact hbw.block b hbl2)
    (fun cur e hgc => by
      have hgc1 : w1.heap[g]? = some (.cells cur e (0, 0)) := hgb.trans hgc
      refine ⟨_, heap_setCell_same w1 g _ cur e _ hgc1, by simp, fun j hj => ?_, fun j hj => ?_⟩
      · by_cases hjf : j = f
        · subst hjf
          have hlt : i * Rep.sz α + j < cur.size := by
            have := hcell
            rw [cell_of_row w g _ cur e (0, 0) hgc] at this
            exact (Array.getElem?_eq_some_iff.1 this).1
          rw [Array.getElem?_setIfInBounds_self_of_lt hlt, List.getElem?_set_self (by omega)]
        · rw [Array.getElem?_setIfInBounds_ne (by omega), List.getElem?_set_ne (by omega)]
          have hjc : ce[j]? = some (ce[j]'(by omega)) := List.getElem?_eq_getElem _
          have := hcells j _ hjc
          rw [cell_of_row w g _ cur e (0, 0) hgc] at this
          rw [this, hjc]
      · rw [Array.getElem?_setIfInBounds_ne (by omega)])
  exact ⟨FF, hoF, hnF, fun b hbm => ⟨by
    rcases hFF b hbm with h | h
    · exact (hb b h).1
    · omega, Own.lt hoF b hbm⟩⟩
end
end Go.Vc
